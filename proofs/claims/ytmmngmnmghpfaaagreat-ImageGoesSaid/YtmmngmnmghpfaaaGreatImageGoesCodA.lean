/- ImageGoes: contracts. -/
import Derived.Test.YtmmngmnmghpfaaaGreatImageGoesRowA
import Derived.Test.YtmmngmnmghpfaaaGreatProg
set_option linter.unusedVariables false
set_option linter.unusedSimpArgs false
namespace Go.Proofs.YtmmngmnmghpfaaaGreat
open Go.Ab Go.RowKit
def ttab : List (Nat × TI) := [
  (3,⟨(.int .i64),(.int .i64 0),1,8,false,false⟩),
  (4,⟨(.bool),(.bool false),1,1,false,false⟩),
  (33,⟨(.slice 3),(.slice none 0 0),1,24,false,false⟩),
  (62,⟨(.struct #[(Field.mk "Header" 60 0 false "" "" 0),(Field.mk "Digest" 3 4 false "" "" 64),(Field.mk "Signers" 33 5 false "" "" 72)]),(.agg #[.int .i64 0,.int .i64 0,.slice none 0 0,.slice none 0 0,.int .i64 0,.slice none 0 0]),6,96,false,false⟩),
  (22,⟨(.slice 62),(.slice none 0 0),1,24,false,false⟩),
  (24,⟨(.struct #[(Field.mk "Nodes" 3 0 false "" "" 0),(Field.mk "Low" 3 1 false "" "" 8),(Field.mk "Certs" 22 2 false "" "" 16)]),(.agg #[.int .i64 0,.int .i64 0,.slice none 0 0]),3,40,false,false⟩),
  (60,⟨(.struct #[(Field.mk "Author" 3 0 false "" "" 0),(Field.mk "Round" 3 1 false "" "" 8),(Field.mk "Batches" 33 2 false "" "" 16),(Field.mk "Parents" 33 3 false "" "" 40)]),(.agg #[.int .i64 0,.int .i64 0,.slice none 0 0,.slice none 0 0]),4,64,false,false⟩),
  (5,⟨(.int .u8),(.int .u8 0),1,1,false,false⟩),
  (9,⟨(.string),(.string (ByteArray.mk #[])),1,16,false,false⟩),
  (2,⟨(.int .i64),(.int .i64 0),1,8,false,false⟩),
  (12,⟨(.int .u64),(.int .u64 0),1,8,false,false⟩),
  (21,⟨(.int .i32),(.int .i32 0),1,4,false,false⟩),
  (23,⟨(.struct #[(Field.mk "Nodes" 3 0 false "" "" 0),(Field.mk "Low" 3 1 false "" "" 8),(Field.mk "Certs" 22 2 false "" "" 16)]),(.agg #[.int .i64 0,.int .i64 0,.slice none 0 0]),3,40,false,false⟩),
  (25,⟨(.slice 71),(.slice none 0 0),1,24,false,false⟩),
  (26,⟨(.struct #[(Field.mk "D" 24 0 false "" "" 0),(Field.mk "Cut" 3 3 false "" "" 40),(Field.mk "Held" 25 4 false "" "" 48)]),(.agg #[.int .i64 0,.int .i64 0,.slice none 0 0,.int .i64 0,.slice none 0 0]),5,72,false,false⟩),
  (27,⟨(.struct #[(Field.mk "D" 24 0 false "" "" 0),(Field.mk "Cut" 3 3 false "" "" 40),(Field.mk "Held" 25 4 false "" "" 48)]),(.agg #[.int .i64 0,.int .i64 0,.slice none 0 0,.int .i64 0,.slice none 0 0]),5,72,false,false⟩),
  (34,⟨(.struct #[(Field.mk "Round" 3 0 false "" "" 0),(Field.mk "Done" 33 1 false "" "" 8),(Field.mk "Count" 3 2 false "" "" 32)]),(.agg #[.int .i64 0,.slice none 0 0,.int .i64 0]),3,40,false,false⟩),
  (35,⟨(.struct #[(Field.mk "Round" 3 0 false "" "" 0),(Field.mk "Done" 33 1 false "" "" 8),(Field.mk "Count" 3 2 false "" "" 32)]),(.agg #[.int .i64 0,.slice none 0 0,.int .i64 0]),3,40,false,false⟩),
  (36,⟨(.slice 88),(.slice none 0 0),1,24,false,false⟩),
  (37,⟨(.slice 83),(.slice none 0 0),1,24,false,false⟩),
  (38,⟨(.struct #[(Field.mk "Pairs" 36 0 false "" "" 0),(Field.mk "Accounts" 37 1 false "" "" 24)]),(.agg #[.slice none 0 0,.slice none 0 0]),2,48,false,false⟩),
  (39,⟨(.struct #[(Field.mk "Pairs" 36 0 false "" "" 0),(Field.mk "Accounts" 37 1 false "" "" 24)]),(.agg #[.slice none 0 0,.slice none 0 0]),2,48,false,false⟩),
  (40,⟨(.struct #[(Field.mk "Table" 39 0 false "" "" 0),(Field.mk "Seen" 33 2 false "" "" 48),(Field.mk "Count" 3 3 false "" "" 72)]),(.agg #[.slice none 0 0,.slice none 0 0,.slice none 0 0,.int .i64 0]),4,80,false,false⟩),
  (41,⟨(.struct #[(Field.mk "Table" 39 0 false "" "" 0),(Field.mk "Seen" 33 2 false "" "" 48),(Field.mk "Count" 3 3 false "" "" 72)]),(.agg #[.slice none 0 0,.slice none 0 0,.slice none 0 0,.int .i64 0]),4,80,false,false⟩),
  (42,⟨(.struct #[(Field.mk "Cursor" 35 0 false "" "" 0),(Field.mk "Exec" 41 3 false "" "" 40)]),(.agg #[.int .i64 0,.slice none 0 0,.int .i64 0,.slice none 0 0,.slice none 0 0,.slice none 0 0,.int .i64 0]),7,120,false,false⟩),
  (43,⟨(.struct #[(Field.mk "Cursor" 35 0 false "" "" 0),(Field.mk "Exec" 41 3 false "" "" 40)]),(.agg #[.int .i64 0,.slice none 0 0,.int .i64 0,.slice none 0 0,.slice none 0 0,.slice none 0 0,.int .i64 0]),7,120,false,false⟩),
  (46,⟨(.slice 5),(.slice none 0 0),1,24,false,true⟩),
  (47,⟨(.int .i64),(.int .i64 0),1,8,false,false⟩),
  (59,⟨(.struct #[(Field.mk "Author" 3 0 false "" "" 0),(Field.mk "Round" 3 1 false "" "" 8),(Field.mk "Batches" 33 2 false "" "" 16),(Field.mk "Parents" 33 3 false "" "" 40)]),(.agg #[.int .i64 0,.int .i64 0,.slice none 0 0,.slice none 0 0]),4,64,false,false⟩),
  (61,⟨(.struct #[(Field.mk "Header" 60 0 false "" "" 0),(Field.mk "Digest" 3 4 false "" "" 64),(Field.mk "Signers" 33 5 false "" "" 72)]),(.agg #[.int .i64 0,.int .i64 0,.slice none 0 0,.slice none 0 0,.int .i64 0,.slice none 0 0]),6,96,false,false⟩),
  (67,⟨(.slice 106),(.slice none 0 0),1,24,false,false⟩),
  (68,⟨(.struct #[(Field.mk "Author" 3 0 false "" "" 0),(Field.mk "N" 3 1 false "" "" 8),(Field.mk "Txs" 67 2 false "" "" 16)]),(.agg #[.int .i64 0,.int .i64 0,.slice none 0 0]),3,40,false,false⟩),
  (69,⟨(.struct #[(Field.mk "Author" 3 0 false "" "" 0),(Field.mk "N" 3 1 false "" "" 8),(Field.mk "Txs" 67 2 false "" "" 16)]),(.agg #[.int .i64 0,.int .i64 0,.slice none 0 0]),3,40,false,false⟩),
  (70,⟨(.struct #[(Field.mk "Digest" 3 0 false "" "" 0),(Field.mk "Batch" 69 1 false "" "" 8)]),(.agg #[.int .i64 0,.int .i64 0,.int .i64 0,.slice none 0 0]),4,48,false,false⟩),
  (71,⟨(.struct #[(Field.mk "Digest" 3 0 false "" "" 0),(Field.mk "Batch" 69 1 false "" "" 8)]),(.agg #[.int .i64 0,.int .i64 0,.int .i64 0,.slice none 0 0]),4,48,false,false⟩),
  (72,⟨(.int .u64),(.int .u64 0),1,8,false,false⟩),
  (82,⟨(.struct #[(Field.mk "Sender" 3 0 false "" "" 0),(Field.mk "Seq" 3 1 false "" "" 8)]),(.agg #[.int .i64 0,.int .i64 0]),2,16,false,false⟩),
  (83,⟨(.struct #[(Field.mk "Sender" 3 0 false "" "" 0),(Field.mk "Seq" 3 1 false "" "" 8)]),(.agg #[.int .i64 0,.int .i64 0]),2,16,false,false⟩),
  (84,⟨(.slice 9),(.slice none 0 0),1,24,false,false⟩),
  (87,⟨(.struct #[(Field.mk "Key" 9 0 false "" "" 0),(Field.mk "Val" 9 1 false "" "" 16)]),(.agg #[.string (ByteArray.mk #[]),.string (ByteArray.mk #[])]),2,32,false,false⟩),
  (88,⟨(.struct #[(Field.mk "Key" 9 0 false "" "" 0),(Field.mk "Val" 9 1 false "" "" 16)]),(.agg #[.string (ByteArray.mk #[]),.string (ByteArray.mk #[])]),2,32,false,false⟩),
  (93,⟨(.pointer 3),(.pointer none),1,8,false,false⟩),
  (95,⟨(.pointer 33),(.pointer none),1,8,false,false⟩),
  (105,⟨(.struct #[(Field.mk "Sender" 3 0 false "" "" 0),(Field.mk "Seq" 3 1 false "" "" 8),(Field.mk "Key" 9 2 false "" "" 16),(Field.mk "Val" 9 3 false "" "" 32)]),(.agg #[.int .i64 0,.int .i64 0,.string (ByteArray.mk #[]),.string (ByteArray.mk #[])]),4,48,false,false⟩),
  (106,⟨(.struct #[(Field.mk "Sender" 3 0 false "" "" 0),(Field.mk "Seq" 3 1 false "" "" 8),(Field.mk "Key" 9 2 false "" "" 16),(Field.mk "Val" 9 3 false "" "" 32)]),(.agg #[.int .i64 0,.int .i64 0,.string (ByteArray.mk #[]),.string (ByteArray.mk #[])]),4,48,false,false⟩),
  (125,⟨(.pointer 156),(.pointer none),1,8,false,false⟩),
  (126,⟨(.slice 93),(.slice none 0 0),1,24,false,false⟩),
  (129,⟨(.slice 95),(.slice none 0 0),1,24,false,false⟩),
  (137,⟨(.map 3 3),(.map none),1,8,false,false⟩),
  (139,⟨(.complex .f64),(.complex .f64 0 0),1,16,false,false⟩),
  (141,⟨(.pointer 143),(.pointer none),1,8,false,false⟩),
  (142,⟨(.struct #[(Field.mk "d" 24 0 false "" "drover/cursor" 0),(Field.mk "c" 35 3 false "" "drover/cursor" 40),(Field.mk "outs" 33 6 false "" "drover/cursor" 80)]),(.agg #[.int .i64 0,.int .i64 0,.slice none 0 0,.int .i64 0,.slice none 0 0,.int .i64 0,.slice none 0 0]),7,104,false,false⟩),
  (143,⟨(.struct #[(Field.mk "d" 24 0 false "" "drover/cursor" 0),(Field.mk "c" 35 3 false "" "drover/cursor" 40),(Field.mk "outs" 33 6 false "" "drover/cursor" 80)]),(.agg #[.int .i64 0,.int .i64 0,.slice none 0 0,.int .i64 0,.slice none 0 0,.int .i64 0,.slice none 0 0]),7,104,false,true⟩),
  (146,⟨(.map 3 4),(.map none),1,8,false,false⟩),
  (154,⟨(.pointer 39),(.pointer none),1,8,false,false⟩),
  (155,⟨(.struct #[(Field.mk "b" 46 0 false "" "drover/wire" 0),(Field.mk "bad" 4 1 false "" "drover/wire" 24)]),(.agg #[.slice none 0 0,.bool false]),2,32,false,false⟩),
  (156,⟨(.struct #[(Field.mk "b" 46 0 false "" "drover/wire" 0),(Field.mk "bad" 4 1 false "" "drover/wire" 24)]),(.agg #[.slice none 0 0,.bool false]),2,32,false,false⟩),
  (161,⟨(.float .f64),(.float .f64 0),1,8,false,false⟩),
  (169,⟨(.slice 33),(.slice none 0 0),1,24,false,false⟩),
  (196,⟨(.int .i64),(.int .i64 0),1,8,false,false⟩),
  (202,⟨(.int .u32),(.int .u32 0),1,4,false,false⟩),
  (204,⟨(.int .u64),(.int .u64 0),1,8,false,false⟩),
  (214,⟨(.int .u64),(.int .u64 0),1,8,false,false⟩),
  (220,⟨(.pointer 214),(.pointer none),1,8,false,false⟩),
  (233,⟨(.pointer 5),(.pointer none),1,8,false,false⟩)]
noncomputable def tt : TypeId → Option TI := tget ttab
theorem ttOk : TTok Tryz.prog tt := TTok_of (by
  unfold ttab ttAll; refine ⟨⟨by kernel_rfl, by kernel_rfl⟩, ⟨by kernel_rfl, by kernel_rfl⟩, ⟨by kernel_rfl, by kernel_rfl⟩, ⟨by kernel_rfl, by kernel_rfl⟩, ⟨by kernel_rfl, by kernel_rfl⟩, ⟨by kernel_rfl, by kernel_rfl⟩, ⟨by kernel_rfl, by kernel_rfl⟩, ⟨by kernel_rfl, by kernel_rfl⟩, ⟨by kernel_rfl, by kernel_rfl⟩, ⟨by kernel_rfl, by kernel_rfl⟩, ⟨by kernel_rfl, by kernel_rfl⟩, ⟨by kernel_rfl, by kernel_rfl⟩, ⟨by kernel_rfl, by kernel_rfl⟩, ⟨by kernel_rfl, by kernel_rfl⟩, ⟨by kernel_rfl, by kernel_rfl⟩, ⟨by kernel_rfl, by kernel_rfl⟩, ⟨by kernel_rfl, by kernel_rfl⟩, ⟨by kernel_rfl, by kernel_rfl⟩, ⟨by kernel_rfl, by kernel_rfl⟩, ⟨by kernel_rfl, by kernel_rfl⟩, ⟨by kernel_rfl, by kernel_rfl⟩, ⟨by kernel_rfl, by kernel_rfl⟩, ⟨by kernel_rfl, by kernel_rfl⟩, ⟨by kernel_rfl, by kernel_rfl⟩, ⟨by kernel_rfl, by kernel_rfl⟩, ⟨by kernel_rfl, by kernel_rfl⟩, ⟨by kernel_rfl, by kernel_rfl⟩, ⟨by kernel_rfl, by kernel_rfl⟩, ⟨by kernel_rfl, by kernel_rfl⟩, ⟨by kernel_rfl, by kernel_rfl⟩, ⟨by kernel_rfl, by kernel_rfl⟩, ⟨by kernel_rfl, by kernel_rfl⟩, ⟨by kernel_rfl, by kernel_rfl⟩, ⟨by kernel_rfl, by kernel_rfl⟩, ⟨by kernel_rfl, by kernel_rfl⟩, ⟨by kernel_rfl, by kernel_rfl⟩, ⟨by kernel_rfl, by kernel_rfl⟩, ⟨by kernel_rfl, by kernel_rfl⟩, ⟨by kernel_rfl, by kernel_rfl⟩, ⟨by kernel_rfl, by kernel_rfl⟩, ⟨by kernel_rfl, by kernel_rfl⟩, ⟨by kernel_rfl, by kernel_rfl⟩, ⟨by kernel_rfl, by kernel_rfl⟩, ⟨by kernel_rfl, by kernel_rfl⟩, ⟨by kernel_rfl, by kernel_rfl⟩, ⟨by kernel_rfl, by kernel_rfl⟩, ⟨by kernel_rfl, by kernel_rfl⟩, ⟨by kernel_rfl, by kernel_rfl⟩, ⟨by kernel_rfl, by kernel_rfl⟩, ⟨by kernel_rfl, by kernel_rfl⟩, ⟨by kernel_rfl, by kernel_rfl⟩, ⟨by kernel_rfl, by kernel_rfl⟩, ⟨by kernel_rfl, by kernel_rfl⟩, ⟨by kernel_rfl, by kernel_rfl⟩, ⟨by kernel_rfl, by kernel_rfl⟩, ⟨by kernel_rfl, by kernel_rfl⟩, ⟨by kernel_rfl, by kernel_rfl⟩, ⟨by kernel_rfl, by kernel_rfl⟩, ⟨by kernel_rfl, by kernel_rfl⟩, ⟨by kernel_rfl, by kernel_rfl⟩, ⟨by kernel_rfl, by kernel_rfl⟩, ⟨by kernel_rfl, by kernel_rfl⟩, ⟨by kernel_rfl, by kernel_rfl⟩, ⟨by kernel_rfl, by kernel_rfl⟩, ⟨by kernel_rfl, by kernel_rfl⟩, trivial⟩) (by kernel_rfl)
theorem zOk : ZOok tt := ZOok_of (by kernel_rfl)
def ftab : List Nat := [3, 4, 5, 6, 7, 8, 9, 10, 11, 12, 13, 14, 15, 16, 17, 18, 19, 20, 21, 22, 23, 24, 25, 26, 27, 28, 29, 30, 31, 32, 33, 34, 35, 36, 37, 38, 39, 40, 41, 42, 43, 44, 45, 46, 47, 48, 49, 50, 51, 52, 53, 54, 55, 56, 57, 58, 59, 60, 61, 62, 63, 64, 65, 66, 67, 68, 69, 70, 71, 72, 73, 74, 75, 76, 77, 78, 79, 80, 81, 82, 83, 84, 85, 86, 87, 88, 89, 90, 91, 92, 93, 94, 95, 96, 97, 98, 99, 100, 101, 102, 103, 104, 105, 106, 107, 108, 109, 110, 111, 112, 113, 114, 115, 116, 117, 118, 119, 120, 121, 122, 123, 124, 125, 126, 127, 128, 129, 130, 131, 132, 133, 134, 135, 136, 137, 138, 139, 140, 141, 142, 143, 144, 145, 146, 147, 148, 149, 150, 151, 152, 153, 154, 155, 157, 159, 160, 161, 162, 163, 164, 165, 166, 167, 168, 169, 170, 171, 172, 173, 175, 176]
noncomputable def fo : FuncId → Bool := fun g => memB g ftab
theorem foOk : FOok Tryz.prog fo := FOok_of (by kernel_rfl)
end Go.Proofs.YtmmngmnmghpfaaaGreat
namespace Go.Proofs.YtmmngmnmghpfaaaGreat
open Go.Ab
def pl3x4 : Plan := ⟨[[],[0],[0,1],[],[3],[3,4],[],[6,4,3,5],[5,3,4,6,7],[7,6,4,3,5,8,1,0,2],[],[2,0,1,8,5,3,4,6,7,9,10]],[0,1,2,3,4,5,6,7,8,9],[(10,[]),(11,[])]⟩
def pl5x16 : Plan := ⟨[[],[0],[],[2,0,1],[1,0,2,3],[3,2,0,1,4],[],[6],[6,7,4,1,0,2,3,5]],[0,1,2,3,4,5,6,7,8],[]⟩
def pl10x8 : Plan := ⟨[[],[],[],[2,1],[1,2,3],[3,2,1,4,0],[0,4,1,2,3,5]],[0,1,2,3,4],[(5,[6])]⟩
def pl10x11 : Plan := ⟨[[],[],[1],[],[3,1,2],[2,1,3,4],[4,3,1,2,5],[5,2,1,3,4,6],[6,4,3,1,2,5,7,0],[0,7,5,2,1,3,4,6,8],[8,6,4,3,1,2,5,7,0,9],[8,6,4,3,1,2,5,7,0,9],[8,6,4,3,1,2,5,7,0,9],[],[9,0,7,5,2,1,3,4,6,8,10,13],[13,10,14,9,0,7,5,2,1,3,4,6,8,11],[11,14,10,13,15,9,0,7,5,2,1,3,4,6,8,12]],[0,1,2,3,4,5,6,7,8,9,10,11,12],[(13,[]),(14,[15,16])]⟩
def pl10x16 : Plan := ⟨[[],[],[1,0],[],[3],[3,4],[3,4,0,1,2],[2,1,0,6,4,3,5]],[0,1,2,3],[(4,[5]),(6,[7])]⟩
def pl11x9 : Plan := ⟨[[],[0],[0,1],[],[3],[3,4],[],[6],[6,7],[7,6,8,4,3,5,1,0,2],[2,0,1,5,3,4,8,6,7,9],[],[11],[11,12],[9,7,6,8,4,3,5,1,0,2,10,12,11,13],[],[15],[15,16],[13,11,12,10,2,0,1,5,3,4,8,6,7,9,14,16,15,17],[],[17,15,16,14,9,7,6,8,4,3,5,1,0,2,10,12,11,13,18,19],[19,20,17,15,16,18,13,11,12,10,2,0,1,5,3,4,8,6,7,9,14],[14,12,11,13,18,16,15,17,20,19,21,9,7,6,8,4,3,5,1,0,2,10],[10,2,0,1,5,3,4,8,6,7,9,21,19,20,17,15,16,18,13,11,12,14,22]],[0,1,2,3,4,5,6,7,8,11,12,13,15,16,17,19],[(9,[]),(10,[]),(14,[]),(18,[]),(20,[]),(21,[]),(22,[23])]⟩
def pl12x10 : Plan := ⟨[[],[0],[0,1],[1,0,2],[],[],[5,4],[4,5,6],[],[],[9],[9,10,8],[8,10,9,11],[11,9,10,8,12,6,5,4,7],[7,4,5,6,12,8,10,9,11,13],[13,11,9,10,8,12,6,5,4,7,14,2,0,1,3],[15,14,13,12,11,10,9,8,7,6,5,4,3,2,1,0],[0,1,2,3,4,5,6,7,8,9,10,11,12,13,14,15,16],[16,15,14,13,12,11,10,9,8,7,6,5,4,3,2,1,0,17],[17,0,1,2,3,4,5,6,7,8,9,10,11,12,13,14,15,16,18]],[0,1,2,3,4,5,6,7,8,9,10,11,12,13],[(14,[]),(15,[16,17,18]),(19,[])]⟩
def pl12x14 : Plan := ⟨[[],[0],[0,1],[1,0,2],[],[],[5,4],[4,5,6],[],[],[9],[9,10,8],[8,10,9,11],[11,9,10,8,12,6,5,4,7],[7,4,5,6,12,8,10,9,11,13],[13,11,9,10,8,12,6,5,4,7,14,2,0,1,3],[15,14,13,12,11,10,9,8,7,6,5,4,3,2,1,0],[0,1,2,3,4,5,6,7,8,9,10,11,12,13,14,15,16],[16,15,14,13,12,11,10,9,8,7,6,5,4,3,2,1,0,17],[17,0,1,2,3,4,5,6,7,8,9,10,11,12,13,14,15,16,18]],[0,1,2,3,4,5,6,7,8,9,10,11,12,13],[(14,[]),(15,[16,17,18]),(19,[])]⟩
def pl19x1 : Plan := ⟨[[],[0],[],[2,0,1],[1,0,2,3],[3,2,0,1,4],[4,1,0,2,3,5],[5,3,2,0,1,4,6],[6,5,7,3,2,0,1,4],[4,1,0,2,3,7,5,6,8],[8,6,5,7,3,2,0,1,4,9],[9,4,1,0,2,3,7,5,6,8,10],[10,8,6,5,7,3,2,0,1,4,9,11],[11,10,12,8,6,5,7,3,2,0,1,4,9],[9,4,1,0,2,3,7,5,6,8,12,10,11,13],[13,11,10,12,8,6,5,7,3,2,0,1,4,9,14],[14,9,4,1,0,2,3,7,5,6,8,12,10,11,13,15],[13,11,10,12,8,6,5,7,3,2,0,1,4,9,14],[17,15,13,11,10,12,8,6,5,7,3,2,0,1,4,9,14,16],[16,15,17,18,13,11,10,12,8,6,5,7,3,2,0,1,4,9,14],[14,9,4,1,0,2,3,7,5,6,8,12,10,11,13,18,17,15,16,19],[19,16,15,17,18,13,11,10,12,8,6,5,7,3,2,0,1,4,9,14,20],[20,14,9,4,1,0,2,3,7,5,6,8,12,10,11,13,18,17,15,16,19,21],[21,19,16,15,17,18,13,11,10,12,8,6,5,7,3,2,0,1,4,9,14,20,22],[19,16,15,17,18,13,11,10,12,8,6,5,7,3,2,0,1,4,9,14,20],[20,14,9,4,1,0,2,3,7,5,6,8,12,10,11,13,18,17,15,16,19,24],[24,25,22,20,14,9,4,1,0,2,3,7,5,6,8,12,10,11,13,18,17,15,16,19,21,23],[23,21,22,25,24,26,19,16,15,17,18,13,11,10,12,8,6,5,7,3,2,0,1,4,9,14,20],[20,14,9,4,1,0,2,3,7,5,6,8,12,10,11,13,18,17,15,16,19,26,24,25,22,21,23,27]],[0,1,2],[(3,[4,5,6]),(7,[8,9,10,11]),(12,[13,14,15,16,17]),(18,[19,20,21,22,23,24]),(25,[26,27,28])]⟩
def pl21x7 : Plan := ⟨[[],[],[1],[],[3,1,2],[2,1,3,4],[4,3,1,2,5,0],[0,5,2,1,3,4,6]],[0,1,2,3,4,5],[(6,[7])]⟩
def pl21x8 : Plan := ⟨[[],[0],[0,1],[1,0,2],[2,0,1,3],[1,0,2],[5,3,1,0,2,4],[4,2,0,1,3,5,6],[6,5,3,1,0,2,4,7],[7,4,2,0,1,3,5,6,8],[1,0,2],[2,0,1,10],[10,1,0,2,11],[11,10,12,8,6,5,3,1,0,2,4,7,9],[9,7,4,3,5,6,8,12,10,11,13,1,0,2]],[0,1,2,3,4,5,6,7,8,9,10,11,12,13,14],[]⟩
def pl22x5 : Plan := ⟨[[],[],[],[2,1],[1,2,3],[3,2,1,4],[4,1,2,3,5],[5,3,2,1,4,6,0],[],[],[9,8],[8,9,10],[10,9,8,11],[11,8,9,10,12],[12,10,9,8,11,13,0,6,4,1,2,3,5,7],[7,5,3,2,1,4,6,0,13,11,8,9,10,12,14]],[0,1,2,3,4,5,6,7,8,9,10,11,12,13,14],[(15,[])]⟩
def pl23x4 : Plan := ⟨[[],[],[1,0],[0,1,2],[2,1,0,3],[3,0,1,2,4],[4,2,1,0,3,5],[5,3,0,1,2,4,6],[6,4,2,1,0,3,5,7],[6,4,2,1,0,3,5,7],[9,7,5,3,0,1,2,4,6,8],[8,6,4,2,1,0,3,5,7,9,10],[10,9,7,5,3,0,1,2,4,6,8,11],[11,8,6,4,2,1,0,3,5,7,9,10,12],[12,10,9,7,5,3,0,1,2,4,6,8,11,13],[13,11,8,9,10,12,14,6,4,2,1,0,3,5,7],[7,5,3,0,1,2,4,6,14,12,10,9,8,11,13,15],[15,13,11,8,9,10,12,14,6,4,2,1,0,3,5,7,16],[16,7,5,3,0,1,2,4,6,14,12,10,9,8,11,13,15,17],[17,15,13,11,8,9,10,12,14,6,4,2,1,0,3,5,7,16,18],[18,16,7,5,3,0,1,2,4,6,14,12,10,9,8,11,13,15,17,19],[18,16,7,5,3,0,1,2,4,6,14,12,10,9,8,11,13,15,17,19],[19,17,15,13,11,8,9,10,12,14,6,4,2,1,0,3,5,7,16,18,21],[21,22,19,17,15,13,11,8,9,10,12,14,6,4,2,1,0,3,5,7,16,18,20],[20,18,16,7,5,3,0,1,2,4,6,14,12,10,9,8,11,13,15,17,19,22,21,23],[23,21,22,19,17,15,13,11,8,9,10,12,14,6,4,2,1,0,3,5,7,16,18,20,24],[18,16,7,5,3,0,1,2,4,6,14,12,10,9,8,11,13,15,17,19],[18,16,7,5,3,0,1,2,4,6,14,12,10,9,8,11,13,15,17,19],[27,19,17,15,13,11,8,9,10,12,14,6,4,2,1,0,3,5,7,16,18,26],[26,18,16,7,5,3,0,1,2,4,6,14,12,10,9,8,11,13,15,17,19,27,28],[28,27,19,17,15,13,11,8,9,10,12,14,6,4,2,1,0,3,5,7,16,18,26,29],[29,26,27,28,30,24,20,18,16,7,5,3,0,1,2,4,6,14,12,10,9,8,11,13,15,17,19,22,21,23,25],[25,23,21,22,20,24,30,28,27,26,29,31,18,16,7,5,3,0,1,2,4,6,14,12,10,9,8,11,13,15,17,19],[19,17,18,31,29,26,27,28,30,24,20,22,21,23,25,32,15,13,11,8,9,10,12,14,6,4,2,1,0,3,5,7,16]],[0,1,2,3,4],[(5,[6,7,8,9,10,11,12]),(13,[14,15,16,17,18,19,20,21,22,23,24,25,26,27,28,29,30,31,32,33])]⟩
def pl39x6 : Plan := ⟨[[],[],[1,0],[0,1,2],[],[],[5,4],[4,5,6],[6,5,4,7,2,1,0,3]],[0,1,2,3,4,5,6,7,8],[]⟩
def pl40x1 : Plan := ⟨[[],[0],[0,1],[],[3],[3,4],[4,3,5,1,0,2],[2,0,1,5,3,4,6]],[0,1,3,4,5],[(2,[6,7])]⟩
def pl41x5 : Plan := ⟨[[],[0],[0,1],[],[3],[3,4,1,0,2],[2,0,1,4,3,5]],[0,1,2,3],[(4,[5,6])]⟩
def pl43x4 : Plan := ⟨[[],[],[1,0],[0,1,2],[],[],[5],[5,6,4],[4,6,5,7],[7,5,6,4,8,2,1,0,3]],[0,1,2,3,4,5,6,7,8,9],[]⟩
def pl49x7 : Plan := ⟨[[],[],[1],[1,2,0],[0,2,1,3],[3,1,2,0,4],[4,0,2,1,3,5],[5,3,1,2,0,4,6],[6,4,0,2,1,3,5,7],[4,0,2,1,3,5],[5,3,1,2,0,4,9],[9,10,7,5,3,1,2,0,4,6,8],[8,6,7,10,9,11,4,0,2,1,3,5],[5,3,1,2,0,4,11,9,10,7,6,8,12],[12,8,6,7,10,9,11,4,0,2,1,3,5,13],[12,8,6,7,10,9,11,4,0,2,1,3,5,13],[13,5,3,1,2,0,4,11,9,10,7,6,8,12,15],[15,16,13,5,3,1,2,0,4,11,9,10,7,6,8,12,14],[14,12,8,6,7,10,9,11,4,0,2,1,3,5,13,16,15,17],[17,15,16,14,18,12,8,6,7,10,9,11,4,0,2,1,3,5,13],[13,5,3,1,2,0,4,11,9,10,7,6,8,12,18,14,16,15,17,19],[19,17,15,16,14,18,12,8,6,7,10,9,11,4,0,2,1,3,5,13,20],[20,13,5,3,1,2,0,4,11,9,10,7,6,8,12,18,14,16,15,17,19,21],[21,19,17,15,16,14,18,12,8,6,7,10,9,11,4,0,2,1,3,5,13,20,22],[22,20,13,5,3,1,2,0,4,11,9,10,7,6,8,12,18,14,16,15,17,19,21,23],[23,21,19,17,15,16,14,18,12,8,6,7,10,9,11,4,0,2,1,3,5,13,20,22,24],[22,20,13,5,3,1,2,0,4,11,9,10,7,6,8,12,18,14,16,15,17,19,21,23],[23,21,19,17,15,16,14,18,12,8,6,7,10,9,11,4,0,2,1,3,5,13,20,22,26],[26,27,24,22,20,13,5,3,1,2,0,4,11,9,10,7,6,8,12,18,14,16,15,17,19,21,23,25],[25,23,21,19,17,15,16,14,18,12,8,6,7,10,9,11,4,0,2,1,3,5,13,20,22,24,27,26,28],[28,26,27,24,22,20,13,5,3,1,2,0,4,11,9,10,7,6,8,12,18,14,16,15,17,19,21,23,25,29],[22,20,13,5,3,1,2,0,4,11,9,10,7,6,8,12,18,14,16,15,17,19,21,23],[29,25,24,27,26,28,30,23,21,19,17,15,16,14,18,12,8,6,7,10,9,11,4,0,2,1,3,5,13,20,22,31],[31,32,29,25,23,21,19,17,15,16,14,18,12,8,6,7,10,9,11,4,0,2,1,3,5,13,20,22,24,27,26,28,30],[30,28,26,27,24,22,20,13,5,3,1,2,0,4,11,9,10,7,6,8,12,18,14,16,15,17,19,21,23,25,29,32,31,33],[33,31,32,29,25,24,27,26,28,30,34,22,20,13,5,3,1,2,0,4,11,9,10,7,6,8,12,18,14,16,15,17,19,21,23],[23,21,22,34,30,28,26,27,24,25,29,32,31,33,35,19,17,15,16,14,18,12,8,6,7,10,9,11,4,0,2,1,3,5,13,20]],[0,1,2],[(3,[4,5,6,7,8,9,10,11,12,13,14,15,16,17,18,19,20,21,22,23,24,25,26,27,28,29,31]),(30,[]),(32,[]),(33,[34,35,36])]⟩
def pl52x2 : Plan := ⟨[[],[],[1],[1,2],[2,1,3],[3,1,2,4],[4,2,1,3,5,0],[0,5,3,1,2,4,6]],[0,1,2,3,4,5],[(6,[7])]⟩
def pl52x5 : Plan := ⟨[[],[],[1],[1,2],[2,1,3],[3,1,2,4],[],[6,4,2,1,3,5,0],[0,5,3,1,2,4,6,7],[]],[0,1,2,3,4,5,6,9],[(7,[8])]⟩
def pl52x4 : Plan := ⟨[[],[],[1],[1,2],[2,1,3],[3,1,2,4],[4,2,1,3,5,0],[0,5,3,1,2,4,6]],[0,1,2,3,4,5],[(6,[7])]⟩
def pl52x10 : Plan := ⟨[[],[0],[0,1],[1,0,2],[],[4],[4,5],[5,4,6],[2,0,1,3],[3,1,0,2,8,6,4,5,7]],[0,1,2,3,4,5,6,7],[(8,[9])]⟩
def pl58x1 : Plan := ⟨[[],[0],[0,1],[],[3],[1,0,2,3,4],[4,3,2,1,0],[5,0,1,2,3,4,6],[7,6,5,4,3,2,1,0],[0,1,2,3,4,5,6,7,8]],[0,1,3,4],[(2,[6]),(5,[]),(7,[8]),(9,[])]⟩
def pl59x4 : Plan := ⟨[[],[0],[0,1],[1,0,2],[2,0,1,3],[3,1,0,2,4],[4,2,0,1,3,5],[5,3,1,0,2,4,6],[6,4,2,0,1,3,5,7],[6,4,2,0,1,3,5,7],[7,5,3,1,0,2,4,6,9],[9,10,7,5,3,1,0,2,4,6,8],[8,6,4,2,0,1,3,5,7,10,9,11],[11,9,10,7,5,3,1,0,2,4,6,8,12],[6,4,2,0,1,3,5,7],[7,5,3,1,0,2,4,6,14],[14,15,12,8,6,4,2,0,1,3,5,7,10,9,11,13],[13,11,9,10,8,12,15,14,16,6,4,2,0,1,3,5,7],[7,5,6,16,14,15,12,8,10,9,11,13,17,3,1,0,2,4],[4,2,0,1,3,17,13,11,9,10,8,12,15,14,16,6,5,7,18],[18,7,5,6,16,14,15,12,8,10,9,11,13,17,3,1,0,2,4,19],[19,4,2,0,1,3,17,13,11,9,10,8,12,15,14,16,6,5,7,18,20],[20,18,7,5,6,16,14,15,12,8,10,9,11,13,17,3,1,0,2,4,19,21],[21,19,4,2,0,1,3,17,13,11,9,10,8,12,15,14,16,6,5,7,18,20,22],[22,20,21,23,18,7,5,6,16,14,15,12,8,10,9,11,13,17,3,1,0,2,4,19]],[0,1],[(2,[3,4,5,6,7,8,9,10,11,12,13,14,15,16,17,18,19,20,21]),(22,[23,24])]⟩
def pl67x6 : Plan := ⟨[[],[],[1,0],[0,1,2],[],[],[5,4],[4,5,6],[6,5,4,7,2,1,0,3]],[0,1,2,3,4,5,6,7,8],[]⟩
def pl68x6 : Plan := ⟨[[],[],[1,0],[0,1,2],[],[],[5,4],[4,5,6],[6,5,4,7,2,1,0,3]],[0,1,2,3,4,5,6,7,8],[]⟩
def pl74x1 : Plan := ⟨[[],[0],[],[2,0,1],[1,0,2,3],[3,2,0,1,4],[4,1,0,2,3,5],[5,3,2,0,1,4,6],[6,5,7,3,2,0,1,4],[4,1,0,2,3,7,5,6,8],[8,6,5,7,3,2,0,1,4,9],[9,4,1,0,2,3,7,5,6,8,10],[8,6,5,7,3,2,0,1,4,9],[12,10,8,6,5,7,3,2,0,1,4,9,11],[11,10,12,13,8,6,5,7,3,2,0,1,4,9],[9,4,1,0,2,3,7,5,6,8,13,12,10,11,14],[14,11,10,12,13,8,6,5,7,3,2,0,1,4,9,15],[15,9,4,1,0,2,3,7,5,6,8,13,12,10,11,14,16],[16,14,11,10,12,13,8,6,5,7,3,2,0,1,4,9,15,17],[14,11,10,12,13,8,6,5,7,3,2,0,1,4,9,15],[15,9,4,1,0,2,3,7,5,6,8,13,12,10,11,14,19],[19,20,17,15,9,4,1,0,2,3,7,5,6,8,13,12,10,11,14,16,18],[18,16,17,20,19,21,14,11,10,12,13,8,6,5,7,3,2,0,1,4,9,15],[15,9,4,1,0,2,3,7,5,6,8,13,12,10,11,14,21,19,20,17,16,18,22]],[0,1,2],[(3,[4,5,6]),(7,[8,9,10,11,12]),(13,[14,15,16,17,18,19]),(20,[21,22,23])]⟩
def pl79x2 : Plan := ⟨[[],[],[1],[1,2],[2,1,3,0],[0,3,1,2,4]],[0,1,2,3],[(4,[5])]⟩
def pl80x1 : Plan := ⟨[[],[0],[0,1],[1,0,2],[],[],[5],[5,6],[6,5,7],[7,5,6,8],[8,6,5,7,9,4,2,0,1,3],[3,1,0,2,4,9,7,5,6,8,10]],[0,1,2,3,4,5,6,7,8,9],[(10,[11])]⟩
def pl80x9 : Plan := ⟨[[],[0],[0,1],[1,0,2],[2,0,1,3],[3,1,0,2,4],[4,2,0,1,3,5],[5,3,1,0,2,4,6],[1,0,2],[8,6,4,2,0,1,3,5,7],[7,5,3,1,0,2,4,6,8,9],[9,8,6,4,2,0,1,3,5,7,10],[10,7,5,3,1,0,2,4,6,8,9,11],[1,0,2],[2,0,1,13],[13,1,0,2,14],[14,2,0,1,13,15],[15,13,1,0,2,14,16],[16,14,2,0,1,13,15,17],[17,15,13,14,16,18,11,9,8,6,4,2,0,1,3,5,7,10,12],[12,10,7,5,3,4,6,8,9,11,18,16,14,13,15,17,19,1,0,2]],[0,1,2,3,4,5,6,7,8,9,10,11,12,13,14,15,16,17,18,19,20],[]⟩
def pl81x4 : Plan := ⟨[[],[0],[0,1],[1,0,2],[2,0,1,3],[3,1,0,2,4],[4,2,0,1,3,5],[5,3,1,0,2,4,6],[6,4,2,0,1,3,5,7],[7,5,6,8,3,1,0,2,4],[4,2,0,1,3,8,6,5,7,9],[9,7,5,6,8,3,1,0,2,4,10],[10,4,2,0,1,3,8,6,5,7,9,11],[11,9,7,5,6,8,3,1,0,2,4,10,12],[12,10,4,2,0,1,3,8,6,5,7,9,11,13],[13,11,9,7,5,6,8,3,1,0,2,4,10,12,14],[12,10,4,2,0,1,3,8,6,5,7,9,11,13],[13,11,9,7,5,6,8,3,1,0,2,4,10,12,16],[16,17,14,12,10,4,2,0,1,3,8,6,5,7,9,11,13,15],[15,13,11,9,7,5,6,8,3,1,0,2,4,10,12,14,17,16,18],[18,16,17,14,12,10,4,2,0,1,3,8,6,5,7,9,11,13,15,19],[12,10,4,2,0,1,3,8,6,5,7,9,11,13],[13,11,9,7,5,6,8,3,1,0,2,4,10,12,21],[21,22,19,15,13,11,9,7,5,6,8,3,1,0,2,4,10,12,14,17,16,18,20],[20,18,16,17,14,15,19,22,21,23,12,10,4,2,0,1,3,8,6,5,7,9,11,13],[13,11,12,23,21,22,19,15,14,17,16,18,20,24,9,7,5,6,8,3,1,0,2,4,10]],[0,1],[(2,[3,4,5,6]),(7,[8,9,10,11,12,13,14,15,16,17,18,19,20,21,22,23,24,25])]⟩
def pl84x1 : Plan := ⟨[[],[0],[0,1],[],[3],[1,0,2,3,4],[4,3,2,1,0],[5,0,1,2,3,4,6],[7,6,5,4,3,2,1,0],[0,1,2,3,4,5,6,7,8]],[0,1,3,4],[(2,[6]),(5,[]),(7,[8]),(9,[])]⟩
def pl93x1 : Plan := ⟨[[],[0],[0,1],[1,0,2],[1,0,2],[4,2,0,1,3],[3,4,5,1,0,2],[2,0,1,5,4,3,6],[6,3,4,5,1,0,2,7],[7,2,0,1,5,4,3,6,8],[8,6,3,4,5,1,0,2,7,9],[9,7,2,0,1,5,4,3,6,8,10],[10,8,6,3,4,5,1,0,2,7,9,11],[11,9,7,2,0,1,5,4,3,6,8,10,12],[12,10,8,6,3,4,5,1,0,2,7,9,11,13],[10,8,6,3,4,5,1,0,2,7,9,11],[11,9,7,2,0,1,5,4,3,6,8,10,15],[15,16,13,11,9,7,2,0,1,5,4,3,6,8,10,12,14],[14,12,13,16,15,17,10,8,6,3,4,5,1,0,2,7,9,11],[11,9,8,10,17,15,16,13,12,14,18,6,3,4,5,1,0,2,7],[7,2,0,1,5,4,3,6,18,14,12,13,16,15,17,10,8,9,11,19]],[0],[(1,[2,3,4]),(5,[6,7,8,9,10,11,12,13,14,15]),(16,[17,18,19,20])]⟩
def pl98x1 : Plan := ⟨[[],[],[1,0],[],[3],[0,1,2,3,4],[4,3,5,0,1,2],[2,1,0,5,3,4,6]],[0,1,3,4],[(2,[]),(5,[6,7])]⟩
def pl99x1 : Plan := ⟨[[],[],[],[2],[],[4,2,3],[3,2,4,5,1],[1,5,4,2,3,6,0],[0,6,3,2,4,5,1,7],[7,1,5,4,2,3,6,0,8],[7,1,5,4,2,3,6,0,8],[],[8,0,6,3,2,4,5,1,7,9,11],[11,9,12,8,0,6,3,2,4,5,1,7,10]],[0,1,2,3,4,5,6,7,8,9,10],[(11,[]),(12,[13])]⟩
def pl101x1 : Plan := ⟨[[],[],[],[2],[],[4,2,3],[3,2,4,5],[5,4,2,3,6],[6,3,2,4,5,7],[7,5,4,2,3,6,8],[8,6,3,2,4,5,7,9,1,0],[],[11],[],[13,11,12],[12,11,13,14],[14,13,11,12,15],[15,12,11,13,14,16,0,1,9,7,5,4,2,3,6,8,10],[10,8,6,3,2,4,5,7,9,1,0,16,14,13,11,12,15,17]],[0,1,2,3,4,5,6,7,8,9,11,12,13,14,15,16],[(10,[]),(17,[18])]⟩
def pl102x3 : Plan := ⟨[[],[],[],[],[],[],[5,4],[4,5,6],[],[],[9,8],[8,9,10],[10,9,8,11,7,6,5,4,1,0],[0,1,4,5,6,7,11,8,9,10,12],[13,12,11,10,9,8,7,6,5,4,1,0,3,2],[2,3,0,1,4,5,6,7,8,9,10,11,12,13,14]],[0,1,2,3,4,5,6,7,8,9,10,11,12],[(13,[14]),(15,[])]⟩
def pl103x1 : Plan := ⟨[[],[],[],[2],[],[4,2,3],[3,2,4,5],[5,4,2,3,6],[6,3,2,4,5,7],[7,5,4,2,3,6,8],[8,6,3,2,4,5,7,9,1,0],[0,1,9,7,5,4,2,3,6,8,10],[]],[0,1,2,3,4,5,6,7,8,9,12],[(10,[11])]⟩
def pl106x4 : Plan := ⟨[[],[0],[0,1],[1,0,2],[2,0,1,3],[3,1,0,2,4],[4,2,0,1,3,5],[5,3,1,0,2,4,6],[6,4,5,7,2,0,1,3],[3,1,0,2,7,5,4,6,8],[8,6,4,5,7,2,0,1,3,9],[9,3,1,0,2,7,5,4,6,8,10],[10,8,6,4,5,7,2,0,1,3,9,11],[11,10,12,8,6,4,5,7,2,0,1,3,9],[9,3,1,0,2,7,5,4,6,8,12,10,11,13],[13,11,10,12,8,6,4,5,7,2,0,1,3,9,14],[14,9,3,1,0,2,7,5,4,6,8,12,10,11,13,15],[15,13,11,10,12,8,6,4,5,7,2,0,1,3,9,14,16],[16,14,9,3,1,0,2,7,5,4,6,8,12,10,11,13,15,17],[17,15,16,18,13,11,10,12,8,6,4,5,7,2,0,1,3,9,14],[14,9,3,1,0,2,7,5,4,6,8,12,10,11,13,18,16,15,17,19],[19,17,15,16,18,13,11,10,12,8,6,4,5,7,2,0,1,3,9,14,20],[20,14,9,3,1,0,2,7,5,4,6,8,12,10,11,13,18,16,15,17,19,21],[21,19,17,15,16,18,13,11,10,12,8,6,4,5,7,2,0,1,3,9,14,20,22],[22,20,14,9,3,1,0,2,7,5,4,6,8,12,10,11,13,18,16,15,17,19,21,23],[22,20,14,9,3,1,0,2,7,5,4,6,8,12,10,11,13,18,16,15,17,19,21,23],[23,21,19,17,15,16,18,13,11,10,12,8,6,4,5,7,2,0,1,3,9,14,20,22,25],[25,26,23,21,19,17,15,16,18,13,11,10,12,8,6,4,5,7,2,0,1,3,9,14,20,22,24],[24,22,20,14,9,3,1,0,2,7,5,4,6,8,12,10,11,13,18,16,15,17,19,21,23,26,25,27],[27,25,26,23,21,19,17,15,16,18,13,11,10,12,8,6,4,5,7,2,0,1,3,9,14,20,22,24,28],[22,20,14,9,3,1,0,2,7,5,4,6,8,12,10,11,13,18,16,15,17,19,21,23],[23,21,19,17,15,16,18,13,11,10,12,8,6,4,5,7,2,0,1,3,9,14,20,22,30],[30,31,28,24,22,20,14,9,3,1,0,2,7,5,4,6,8,12,10,11,13,18,16,15,17,19,21,23,26,25,27,29],[29,27,25,26,24,28,31,30,32,22,20,14,9,3,1,0,2,7,5,4,6,8,12,10,11,13,18,16,15,17,19,21,23],[23,21,22,32,30,31,28,24,26,25,27,29,33,19,17,15,16,18,13,11,10,12,8,6,4,5,7,2,0,1,3,9,14,20]],[0,1,2,3,4,5,6,7,8,9,10,11,12,13,14,15,16,17,18,19,20,21,22,23,24,25,26,27,28,29,30,31,32,33,34],[]⟩
def pl116x1 : Plan := ⟨[[],[0],[0,1],[1,0,2],[],[4],[4,5,2,0,1,3],[3,1,0,2,5,4,6],[6,4,5,2,0,1,3,7],[6,4,5,2,0,1,3,7],[7,3,1,0,2,5,4,6,8],[8,10,7,3,1,0,2,5,4,6,9]],[0,1,2,3,4,5],[(6,[7,8,9,10,11])]⟩
def pl116x2 : Plan := ⟨[[],[0],[0,1],[],[3],[3,4,1,0,2],[2,0,1,4,3,5],[5,3,4,1,0,2,6],[5,3,4,1,0,2,6],[6,2,0,1,4,3,5,7],[7,9,6,2,0,1,4,3,5,8]],[0,1,2,3,4],[(5,[6,7,8,9,10])]⟩
def pl116x9 : Plan := ⟨[[],[],[1],[1,2],[2,1,3],[],[],[6],[6,7],[7,6,8],[8,6,7,9,5,3,1,2,4],[10,9,8,7,6,5,4,3,2,1,0],[0,1,2,3,4,5,6,7,8,9,10,11],[11,10,9,8,7,6,5,4,3,2,1,0,12]],[0,1,2,3,4,5,6,7,8],[(9,[]),(10,[11,12]),(13,[])]⟩
def pl116x10 : Plan := ⟨[[],[0],[0,1],[1,0,2],[],[],[5],[6,5,4,2,0,1,3],[3,1,0,2,4,5,6,7],[7,6,5,4,2,0,1,3,8]],[0,1,2,3,4,5,6,7,8],[(9,[])]⟩
def pl116x16 : Plan := ⟨[[],[0],[0,1],[1,0,2],[],[],[5],[6,5,4,2,0,1,3],[3,1,0,2,4,5,6,7],[7,6,5,4,2,0,1,3,8]],[0,1,2,3,4,5,6,7,8],[(9,[])]⟩
def pl116x11 : Plan := ⟨[[],[],[1],[1,2],[2,1,3],[],[],[6],[],[8],[8,9,6,7],[7,6,9,8,10],[10,8,9,6,7,11,5,3,1,2,4],[12,11,10,9,8,7,6,5,4,3,2,1,0],[0,1,2,3,4,5,6,7,8,9,10,11,12,13],[13,12,11,10,9,8,7,6,5,4,3,2,1,0,14]],[0,1,2,3,4,5,6,7,8,9,10],[(11,[]),(12,[13,14]),(15,[])]⟩
end Go.Proofs.YtmmngmnmghpfaaaGreat
namespace Go.Proofs.YtmmngmnmghpfaaaGreat
open Go.Ab Go.RowKit
theorem mixedOk : Tryz.prog.follows .mixedOrders = true := by kernel_rfl
def nums (l : List Int) : List (List DV) := l.map fun n => [.int .i64 n]
theorem nums_length (l : List Int) : (nums l).length = l.length := List.length_map ..
theorem nums_at {l : List Int} {k : Nat} {a : Int} (h : l[k]? = some a) : (nums l)[k]? = some [.int .i64 a] := by simp [nums, h]
theorem nums_app (l : List Int) (a : Int) : nums l ++ [[.int .i64 a]] = nums (l ++ [a]) := by simp [nums]
theorem nums_apps (l m : List Int) : nums l ++ nums m = nums (l ++ m) := by simp [nums]
structure Cert where
  author : Int
  round : Int
  bats : List Int
  pars : List Int
  digest : Int
  sigs : List Int
def Cert.cs (c : Cert) : List DV := [.int .i64 c.author, .int .i64 c.round, .sl 1 (nums c.bats), .sl 1 (nums c.pars), .int .i64 c.digest, .sl 1 (nums c.sigs)]
def Cert.cells (c : Cert) : List AV := c.cs.map AV.d
def Cert.av (c : Cert) : AV := .agg c.cells
def Cert.hcells (c : Cert) : List AV := [.d (.int .i64 c.author), .d (.int .i64 c.round), .d (.sl 1 (nums c.bats)), .d (.sl 1 (nums c.pars))]
def Cert.hav (c : Cert) : AV := .agg c.hcells
structure Dag where
  nodes : Int
  low : Int
  certs : List Cert
def certsD (l : List Cert) : List (List DV) := l.map Cert.cs
theorem certsD_length (l : List Cert) : (certsD l).length = l.length := List.length_map ..
theorem certsD_at {l : List Cert} {k : Nat} {c : Cert} (h : l[k]? = some c) : (certsD l)[k]? = some c.cs := by simp [certsD, h]
def Dag.cells (d : Dag) : List AV := [.d (.int .i64 d.nodes), .d (.int .i64 d.low), .d (.sl 6 (certsD d.certs))]
def Dag.av (d : Dag) : AV := .agg d.cells
structure Cursor where
  round : Int
  done : List Int
  count : Int
def Cursor.cs (c : Cursor) : List DV := [.int .i64 c.round, .sl 1 (nums c.done), .int .i64 c.count]
def Cursor.cells (c : Cursor) : List AV := c.cs.map AV.d
def Cursor.av (c : Cursor) : AV := .agg c.cells
def i64 (n : Int) : Prop := -9223372036854775808 ≤ n ∧ n < 9223372036854775808
def few {α : Type} (l : List α) : Prop := l.length ≤ 140737488355328
structure Cert.ok (c : Cert) : Prop where
  author : i64 c.author
  round : i64 c.round
  bats : few c.bats ∧ ∀ n ∈ c.bats, i64 n
  pars : few c.pars ∧ ∀ n ∈ c.pars, i64 n
  digest : i64 c.digest
  sigs : few c.sigs ∧ ∀ n ∈ c.sigs, i64 n
structure Dag.ok (d : Dag) : Prop where
  nodes : i64 d.nodes
  low : i64 d.low
  certs : few d.certs ∧ ∀ c ∈ d.certs, c.ok
theorem nums_of {xs : List (List DV)} (h : ∀ x ∈ xs, ∃ n, x = [DV.int .i64 n] ∧ (Lit.int .i64 n).wf = true) : ∃ l : List Int, xs = nums l ∧ ∀ n ∈ l, i64 n :=
  map_of (f := fun n : Int => [.int .i64 n]) fun x hx => by
    obtain ⟨n, h1, h2⟩ := h x hx
    have hb : -9223372036854775808 ≤ n ∧ n ≤ 9223372036854775807 := by simpa [Lit.wf, IntKind.min, IntKind.max, IntKind.signed, IntKind.bits] using h2
    exact ⟨n, h1, hb.1, by omega⟩
theorem i64_of {n : Int} (h2 : (Lit.int .i64 n).wf = true) : i64 n := by
  have hb : -9223372036854775808 ≤ n ∧ n ≤ 9223372036854775807 := by simpa [Lit.wf, IntKind.min, IntKind.max, IntKind.signed, IntKind.bits] using h2
  exact ⟨hb.1, by omega⟩
theorem row_of {a : List DV} (h : ∃ xs, a = [DV.sl 1 xs] ∧ xs.length * 8 ≤ 140737488355328 ∧ ∀ x ∈ xs, ∃ n, x = [DV.int .i64 n] ∧ (Lit.int .i64 n).wf = true) : ∃ l : List Int, a = [.sl 1 (nums l)] ∧ few l ∧ ∀ n ∈ l, i64 n := by
  obtain ⟨xs, rfl, h1, h2⟩ := h
  obtain ⟨l, rfl, hl⟩ := nums_of h2
  rw [nums_length] at h1
  exact ⟨l, rfl, by unfold few; omega, hl⟩
theorem cert_of {ds : List DV} (h : DTy tt 4 62 ds) : ∃ c : Cert, ds = c.cs ∧ c.ok := by
  replace h : DTyF (DTy tt 3) [60, 3, 33] ds := h
  obtain ⟨a1, b1, rfl, h1, a2, b2, rfl, h2, a3, b3, rfl, h3, rfl⟩ := h
  replace h1 : DTyF (DTy tt 2) [3, 3, 33, 33] a1 := h1
  obtain ⟨a4, b4, rfl, h4, a5, b5, rfl, h5, a6, b6, rfl, h6, a7, b7, rfl, h7, rfl⟩ := h1
  replace h4 : ∃ x, a4 = [.int .i64 x] ∧ (Lit.int .i64 x).wf = true := h4
  replace h5 : ∃ x, a5 = [.int .i64 x] ∧ (Lit.int .i64 x).wf = true := h5
  replace h2 : ∃ x, a2 = [.int .i64 x] ∧ (Lit.int .i64 x).wf = true := h2
  obtain ⟨l6, rfl, f6, e6⟩ := row_of h6
  obtain ⟨l7, rfl, f7, e7⟩ := row_of h7
  obtain ⟨l3, rfl, f3, e3⟩ := row_of h3
  obtain ⟨x4, rfl, w4⟩ := h4
  obtain ⟨x5, rfl, w5⟩ := h5
  obtain ⟨x2, rfl, w2⟩ := h2
  exact ⟨⟨x4, x5, l6, l7, x2, l3⟩, rfl, i64_of w4, i64_of w5, ⟨f6, e6⟩, ⟨f7, e7⟩, i64_of w2, ⟨f3, e3⟩⟩
theorem dag_of {ds : List DV} (h : DTy tt 6 24 ds) : ∃ d : Dag, ds = [.int .i64 d.nodes, .int .i64 d.low, .sl 6 (certsD d.certs)] ∧ d.ok := by
  replace h : DTyF (DTy tt 5) [3, 3, 22] ds := h
  obtain ⟨a1, b1, rfl, h1, a2, b2, rfl, h2, a3, b3, rfl, h3, rfl⟩ := h
  replace h1 : ∃ x, a1 = [.int .i64 x] ∧ (Lit.int .i64 x).wf = true := h1
  replace h2 : ∃ x, a2 = [.int .i64 x] ∧ (Lit.int .i64 x).wf = true := h2
  replace h3 : ∃ xs, a3 = [.sl 6 xs] ∧ xs.length * 96 ≤ 140737488355328 ∧ ∀ x ∈ xs, DTy tt 4 62 x := h3
  obtain ⟨x1, rfl, w1⟩ := h1
  obtain ⟨x2, rfl, w2⟩ := h2
  obtain ⟨x3, rfl, w3, e3⟩ := h3
  obtain ⟨l, rfl, hl⟩ := map_of (f := Cert.cs) fun x hx => cert_of (e3 x hx)
  simp only [List.length_map] at w3
  exact ⟨⟨x1, x2, l⟩, rfl, i64_of w1, i64_of w2, by show l.length ≤ _; omega, hl⟩
end Go.Proofs.YtmmngmnmghpfaaaGreat
namespace Go.Proofs.YtmmngmnmghpfaaaGreat
open Go.Ab Go.RowKit Go.MapKept
attribute [local irreducible] ACalls AW ADraw Into fltB fnear
set_option maxRecDepth 100000
def tiny {α : Type} (l : List α) : Prop := l.length ≤ 1099511627776
structure Cert.tiny (c : Cert) : Prop where
  bats : Go.Proofs.YtmmngmnmghpfaaaGreat.tiny c.bats
  pars : Go.Proofs.YtmmngmnmghpfaaaGreat.tiny c.pars
  sigs : Go.Proofs.YtmmngmnmghpfaaaGreat.tiny c.sigs
theorem wrap_u64 (i : Int) : IntKind.u64.wrap i = i % 18446744073709551616 := by
  simp [IntKind.wrap, IntKind.signed, IntKind.bits]
theorem within_ok (i n : Int) (hn : 0 < n) (hn2 : n ≤ 1000000) (hi : -9223372036854775808 ≤ i ∧ i < 9223372036854775808) : ACalls Tryz.prog 8 [.d (.int .i64 i), .d (.int .i64 n)] [] (fun av L => av = .d (.int .i64 ((i % 18446744073709551616) % n)) ∧ L = []) := by
  (refine acalls_go ttOk zOk foOk Tryz.func8 rfl Tryz.ntmps8 rfl false rfl ?_); (conv => whnf)
  intro z hz
  rw [wrap_u64] at hz
  have h0 := Int.emod_nonneg i (show (18446744073709551616 : Int) ≠ 0 by decide)
  rw [← hz] at h0 ⊢
  clear hz
  conv => whnf
  intro m hm
  have hm' : m = n := by rw [hm, wrap_u64]; omega
  clear hm
  subst hm'
  conv => whnf
  refine ⟨by omega, ?_⟩
  intro r hr
  have hr' : r = z % m := by rw [hr, Int.tmod_eq_emod_of_nonneg h0]
  clear hr
  have h1 := Int.emod_nonneg z (show m ≠ 0 by omega)
  have h2 := Int.emod_lt_of_pos z hn
  rw [← hr'] at h1 h2 ⊢
  clear hr'
  conv => whnf
  intro q hq
  have hq' : q = r := by rw [hq, wrapI (by omega)]
  clear hq
  subst hq'
  conv => whnf
  exact ⟨rfl, rfl⟩
theorem take_succ_eq {α : Type} {xs ys : List α} {k : Nat} {a b : α} (hx : xs[k]? = some a) (hy : ys[k]? = some b) (h : xs.take k = ys.take k) : xs.take (k + 1) = ys.take (k + 1) ↔ a = b := by
  rw [List.take_add_one, List.take_add_one, h, hx, hy]
  simp only [Option.toList_some, List.append_cancel_left_eq, List.cons.injEq, and_true]
theorem eqNumbers_ok (xs ys : List Int) (hm : few xs) : ACalls Tryz.prog 39 [.d (.sl 1 (nums xs)), .d (.sl 1 (nums ys))] [] (fun av L => av = .d (.bool (decide (xs = ys))) ∧ L = []) := by
  have hx := nums_length xs
  have hy := nums_length ys
  unfold few at hm
  (refine acalls_go ttOk zOk foOk Tryz.func39 rfl Tryz.ntmps39 rfl false rfl ?_); (conv => whnf)
  rw [hx, hy]
  refine rdw ?_; repeat' ((with_reducible apply tw) <;> intro _)
  · rename_i h
    rw [decide_eq_false (fun e => h (by rw [e]))]
    exact ⟨rfl, rfl⟩
  · rename_i h
    have hl : xs.length = ys.length := by omega
    refine loop_go ttOk zOk foOk (σ := Nat) (fun k => ([(0, .d (.sl 1 (nums xs))), (1, .d (.sl 1 (nums ys))), (5, .d (.int .i64 k))], [])) (fun k => k ≤ xs.length ∧ xs.take k = ys.take k) (fun k => xs.length - k) [0, 1, 5] ?_ ?_
    · conv => whnf
      exact ⟨0, rfl, rfl, by simp⟩
    · rintro k ⟨hk, he⟩
      conv => whnf
      rw [hx]
      refine rdw ?_; repeat' ((with_reducible apply tw) <;> intro _)
      · rename_i h
        refine Exists.elim (⟨_, List.getElem?_eq_getElem (by omega)⟩ : ∃ a, xs[k]? = some a) fun a ha => ?_
        refine Exists.elim (⟨_, List.getElem?_eq_getElem (by omega)⟩ : ∃ b, ys[k]? = some b) fun b hb => ?_
        ((with_reducible refine draw_pl ttOk zOk foOk mixedOk pl39x6 ?_ ?_); (focus kernel_rfl); (conv => whnf))
        refine rdw ?_; repeat' ((with_reducible apply tw) <;> intro _)
        ((with_reducible apply rd_intro); (focus (intro K hK; (conv => whnf); exact ⟨by omega, [.int .i64 a], nums_at ha, hK⟩)); (conv => whnf))
        refine rdw ?_; repeat' ((with_reducible apply tw) <;> intro _)
        ((with_reducible apply rd_intro); (focus (intro K hK; (conv => whnf); exact ⟨by omega, [.int .i64 b], nums_at hb, hK⟩)); (conv => whnf))
        refine rdw ?_; repeat' ((with_reducible apply tw) <;> intro _)
        · rename_i h
          rw [decide_eq_false (fun e => by subst e; rw [ha] at hb; cases hb; exact h rfl)]
          exact ⟨rfl, rfl⟩
        · rename_i h
          exact ⟨k + 1, rfl, rfl, ⟨by omega, (take_succ_eq ha hb he).2 (by omega)⟩, by omega⟩
      · rename_i h
        obtain rfl : k = xs.length := by omega
        rw [decide_eq_true (by rw [List.take_length, hl, List.take_length] at he; exact he)]
        exact ⟨rfl, rfl⟩
theorem copyNumbers_ok (xs : List Int) (hm : tiny xs) : ACalls Tryz.prog 48 [.d (.sl 1 (nums xs))] [] (fun av L => av = .d (.sl 1 (nums xs)) ∧ L = []) := by
  have hx := nums_length xs
  unfold tiny at hm
  (refine acalls_go ttOk zOk foOk Tryz.func48 rfl Tryz.ntmps48 rfl false rfl ?_); (conv => whnf)
  refine loop_go ttOk zOk foOk (σ := Nat) (fun k => ([(0, .d (.sl 1 (nums xs))), (3, .arr 0), (4, .d (.int .i64 k))], [.row 3 1 (nums (xs.take k)) false])) (fun k => k ≤ xs.length) (fun k => xs.length - k) [0, 3, 4] ?_ ?_
  · conv => whnf
    exact ⟨0, rfl, rfl, by omega⟩
  · intro k hk
    conv => whnf
    rw [hx]
    refine rdw ?_; repeat' ((with_reducible apply tw) <;> intro _)
    · rename_i h
      refine Exists.elim (⟨_, List.getElem?_eq_getElem (by omega)⟩ : ∃ a, xs[k]? = some a) fun a ha => ?_
      have hkn := nums_length (xs.take k)
      refine ⟨by omega, [.int .i64 a], nums_at ha, ?_⟩
      conv => whnf
      refine rdw ?_; repeat' ((with_reducible apply tw) <;> intro _)
      refine ⟨by simp [hkn]; omega, ?_⟩
      conv => whnf
      refine rdw ?_; repeat' ((with_reducible apply tw) <;> intro _)
      refine ⟨k + 1, rfl, ?_, by omega, by omega⟩
      rw [List.take_add_one, ha, ← nums_apps]
      rfl
    · rename_i h
      rw [List.take_of_length_le (by omega)]
      exact ⟨rfl, rfl⟩
theorem copyHeader_ok (c : Cert) (h : c.tiny) : ACalls Tryz.prog 47 [c.hav] [] (fun av L => av = c.hav ∧ L = []) := by
  (refine acalls_go ttOk zOk foOk Tryz.func47 rfl Tryz.ntmps47 rfl false rfl ?_); (conv => whnf)
  refine (copyNumbers_ok c.bats h.bats).mono ?_
  rintro _ _ ⟨rfl, rfl⟩
  conv => whnf
  refine (copyNumbers_ok c.pars h.pars).mono ?_
  rintro _ _ ⟨rfl, rfl⟩
  conv => whnf
  exact ⟨rfl, rfl⟩
theorem copyCert_ok (c : Cert) (h : c.tiny) : ACalls Tryz.prog 24 [c.av] [] (fun av L => av = c.av ∧ L = []) := by
  (refine acalls_go ttOk zOk foOk Tryz.func24 rfl Tryz.ntmps24 rfl false rfl ?_); (conv => whnf)
  refine (copyHeader_ok c h).mono ?_
  rintro _ _ ⟨rfl, rfl⟩
  conv => whnf
  refine (copyNumbers_ok c.sigs h.sigs).mono ?_
  rintro _ _ ⟨rfl, rfl⟩
  conv => whnf
  exact ⟨rfl, rfl⟩
theorem copyCerts_ok (l : List Cert) (hl : tiny l) (h : ∀ c ∈ l, c.tiny) : ACalls Tryz.prog 9 [.d (.sl 6 (certsD l))] [] (fun av L => av = .d (.sl 6 (certsD l)) ∧ L = []) := by
  have hx := certsD_length l
  unfold tiny at hl
  (refine acalls_go ttOk zOk foOk Tryz.func9 rfl Tryz.ntmps9 rfl false rfl ?_); (conv => whnf)
  refine loop_go ttOk zOk foOk (σ := Nat) (fun k => ([(0, .d (.sl 6 (certsD l))), (3, .arr 0), (4, .d (.int .i64 k))], [.row 62 6 (certsD (l.take k)) false])) (fun k => k ≤ l.length) (fun k => l.length - k) [0, 3, 4] ?_ ?_
  · conv => whnf
    exact ⟨0, rfl, rfl, by omega⟩
  · intro k hk
    conv => whnf
    rw [hx]
    refine rdw ?_; repeat' ((with_reducible apply tw) <;> intro _)
    · rename_i h2
      refine Exists.elim (⟨_, List.getElem?_eq_getElem (by omega)⟩ : ∃ a, l[k]? = some a) fun a ha => ?_
      have hkn := certsD_length (l.take k)
      refine ⟨by omega, a.cs, certsD_at ha, ?_⟩
      conv => whnf
      refine rdw ?_; repeat' ((with_reducible apply tw) <;> intro _)
      refine (copyCert_ok a (h a (List.mem_of_getElem? ha))).mono ?_
      rintro _ _ ⟨rfl, rfl⟩
      conv => whnf
      refine rdw ?_; repeat' ((with_reducible apply tw) <;> intro _)
      refine ⟨by simp [hkn]; omega, ?_⟩
      conv => whnf
      refine rdw ?_; repeat' ((with_reducible apply tw) <;> intro _)
      refine ⟨k + 1, rfl, ?_, by omega, by omega⟩
      rw [List.take_add_one, ha]
      simp [certsD, Cert.cs]
    · rename_i h2
      rw [List.take_of_length_le (by omega)]
      exact ⟨rfl, rfl⟩
theorem certsD_take (l : List Cert) (n : Nat) : (certsD l).take n = certsD (l.take n) := by simp [certsD]
def plb (r a : Int) : DV := .cplx .f64 (fnear .f64 r) (fnear .f64 a)
theorem placeOf_ok (r a : Int) : ACalls Tryz.prog 96 [.d (.int .i64 r), .d (.int .i64 a)] [] (fun av L => av = .d (plb r a) ∧ L = []) := by
  (refine acalls_go ttOk zOk foOk Tryz.func96 rfl Tryz.ntmps96 rfl false rfl ?_); (conv => whnf)
  exact ⟨rfl, rfl⟩
theorem dagPlace_ok (c : Cert) : ACalls Tryz.prog 76 [c.av] [] (fun av L => av = .d (plb c.round c.author) ∧ L = []) := by
  (refine acalls_go ttOk zOk foOk Tryz.func76 rfl Tryz.ntmps76 rfl false rfl ?_); (conv => whnf)
  refine (placeOf_ok c.round c.author).mono ?_
  rintro _ _ ⟨rfl, rfl⟩
  conv => whnf
  exact ⟨rfl, rfl⟩
theorem isNaN_ok {x : Int} (hx : isF x) : ACalls Tryz.prog 172 [.d (.flt .f64 (fnear .f64 x))] [] (fun av L => av = .d (.bool false) ∧ L = []) := by
  (refine acalls_go ttOk zOk foOk Tryz.func172 rfl Tryz.ntmps172 rfl false rfl ?_); (conv => whnf)
  rw [flt_neq hx hx, decide_eq_false (fun h => h rfl)]
  exact ⟨rfl, rfl⟩
def cmpI (x y : Int) : Int := if x < y then -1 else if x > y then 1 else 0
theorem compare_ok {x y : Int} (hx : isF x) (hy : isF y) : ACalls Tryz.prog 163 [.d (.flt .f64 (fnear .f64 x)), .d (.flt .f64 (fnear .f64 y))] [] (fun av L => av = .d (.int .i64 (cmpI x y)) ∧ L = []) := by
  (refine acalls_go ttOk zOk foOk Tryz.func163 rfl Tryz.ntmps163 rfl false rfl ?_); (conv => whnf)
  ((with_reducible refine (isNaN_ok hx).mono ?_); rintro _ _ ⟨rfl, rfl⟩; (conv => whnf))
  ((with_reducible refine (isNaN_ok hy).mono ?_); rintro _ _ ⟨rfl, rfl⟩; (conv => whnf))
  rw [flt_lss hx hy]
  ((with_reducible refine mt_dec (fun _ => ?_) (fun _ => ?_)) <;> (conv => whnf))
  · rename_i h
    exact ⟨by rw [cmpI, if_pos h]; rfl, rfl⟩
  rename_i h
  rw [flt_gtr hx hy]
  ((with_reducible refine mt_dec (fun _ => ?_) (fun _ => ?_)) <;> (conv => whnf))
  · rename_i h2
    exact ⟨by rw [cmpI, if_neg h, if_pos h2]; rfl, rfl⟩
  · rename_i h2
    exact ⟨by rw [cmpI, if_neg h, if_neg h2]; rfl, rfl⟩
theorem or_ok (x y : Int) : ACalls Tryz.prog 162 [.d (.sl 1 [[.int .i64 x], [.int .i64 y]])] [] (fun av L => av = .d (.int .i64 (if x ≠ 0 then x else y)) ∧ L = []) := by
  (refine acalls_go ttOk zOk foOk Tryz.func162 rfl Tryz.ntmps162 rfl false rfl ?_); (conv => whnf)
  refine loop_go ttOk zOk foOk (σ := Nat) (fun j => ([(3, .d (.int .i64 0)), (6, .d (.sl 1 [[.int .i64 x], [.int .i64 y]])), (7, .d (.int .i64 2)), (8, .d (.int .i64 j))], [])) (fun j => j ≤ 2 ∧ (1 ≤ j → x = 0) ∧ (2 ≤ j → y = 0)) (fun j => 2 - j) [3, 6, 7, 8] ?_ ?_
  · conv => whnf
    exact ⟨0, rfl, rfl, by omega, by omega, by omega⟩
  · rintro j ⟨h1, h2, h3⟩
    conv => whnf
    refine rdz ?_; repeat' ((with_reducible apply tw) <;> intro _)
    · rename_i h
      rcases (show j = 0 ∨ j = 1 by omega) with rfl | rfl
      · refine ⟨by omega, [.int .i64 x], rfl, ?_⟩
        conv => whnf
        refine rdz ?_; repeat' ((with_reducible apply tw) <;> intro _)
        · rename_i h
          exact ⟨by rw [if_pos h], rfl⟩
        · rename_i h
          exact ⟨1, rfl, rfl, ⟨by omega, fun _ => h, by omega⟩, by omega⟩
      · obtain rfl := h2 (by omega)
        refine ⟨by omega, [.int .i64 y], rfl, ?_⟩
        conv => whnf
        refine rdz ?_; repeat' ((with_reducible apply tw) <;> intro _)
        · exact ⟨rfl, rfl⟩
        · rename_i h
          exact ⟨2, rfl, rfl, ⟨by omega, by omega, fun _ => h⟩, by omega⟩
    · obtain rfl := h2 (by omega)
      obtain rfl := h3 (by omega)
      exact ⟨rfl, rfl⟩
def cmpP (c : Cert) (r a : Int) : Int := if cmpI c.round r ≠ 0 then cmpI c.round r else cmpI c.author a
theorem findf_ok (c : Cert) (r a : Int) (h1 : isF c.round) (h2 : isF c.author) (hr : isF r) (ha : isF a) : ACalls Tryz.prog 161 [c.av, .d (plb r a)] [] (fun av L => av = .d (.int .i64 (cmpP c r a)) ∧ L = []) := by
  (refine acalls_go ttOk zOk foOk Tryz.func161 rfl Tryz.ntmps161 rfl false rfl ?_); (conv => whnf)
  (refine (dagPlace_ok c).mono ?_; rintro _ _ ⟨rfl, rfl⟩; (conv => whnf))
  refine rdz ?_; repeat' ((with_reducible apply tw) <;> intro _)
  ((with_reducible refine (compare_ok h1 hr).mono ?_); rintro _ _ ⟨rfl, rfl⟩; (conv => whnf))
  refine rdz ?_; repeat' ((with_reducible apply tw) <;> intro _)
  ((with_reducible refine (compare_ok h2 ha).mono ?_); rintro _ _ ⟨rfl, rfl⟩; (conv => whnf))
  refine rdz ?_; repeat' ((with_reducible apply tw) <;> intro _)
  (refine Or.inl ?_; (conv => whnf))
  ((with_reducible refine (or_ok (cmpI c.round r) (cmpI c.author a)).mono ?_); rintro _ _ ⟨rfl, rfl⟩; (conv => whnf))
  exact ⟨rfl, rfl⟩
theorem placeLess_ok {r a r' a' : Int} (hr : isF r) (ha : isF a) (hr' : isF r') (ha' : isF a') : ACalls Tryz.prog 75 [.d (plb r a), .d (plb r' a')] [] (fun av L => av = .d (.bool (decide (r < r' ∨ r = r' ∧ a < a'))) ∧ L = []) := by
  (refine acalls_go ttOk zOk foOk Tryz.func75 rfl Tryz.ntmps75 rfl false rfl ?_); (conv => whnf)
  rw [flt_lss hr hr']
  ((with_reducible refine mt_dec (fun _ => ?_) (fun _ => ?_)) <;> (conv => whnf))
  · rename_i h
    rw [decide_eq_true (show r < r' ∨ r = r' ∧ a < a' from .inl h)]
    exact ⟨rfl, rfl⟩
  rename_i h
  rw [flt_eql hr hr']
  ((with_reducible refine mt_dec (fun _ => ?_) (fun _ => ?_)) <;> (conv => whnf))
  · rename_i h2
    rw [flt_lss ha ha']
    exact ⟨boolEq (by simp only [decide_eq_true_iff]; exact ⟨fun h3 => .inr ⟨h2, h3⟩, fun h3 => h3.elim (fun h4 => absurd h4 h) (·.2)⟩), rfl⟩
  · rename_i h2
    rw [decide_eq_false (show ¬ (r < r' ∨ r = r' ∧ a < a') from fun h4 => h4.elim h (fun h5 => h2 h5.1))]
    exact ⟨rfl, rfl⟩
def Cert.before (c : Cert) (r a : Int) : Bool := decide (c.round < r ∨ c.round = r ∧ c.author < a)
def pos (l : List Cert) (r a : Int) : Nat := (l.filter fun c => c.before r a).length
def sortedC (l : List Cert) : Prop := l.Pairwise fun x y => x.before y.round y.author = true
def fitC (l : List Cert) : Prop := ∀ c ∈ l, isF c.round ∧ isF c.author
def atC (l : List Cert) (r a : Int) : Option Cert := l.find? fun c => decide (c.round = r ∧ c.author = a)
theorem before_iff {c : Cert} {r a : Int} : c.before r a = true ↔ c.round < r ∨ c.round = r ∧ c.author < a := by simp [Cert.before]
theorem pos_le (l : List Cert) (r a : Int) : pos l r a ≤ l.length := List.length_filter_le ..
theorem pos_iff {r a : Int} : ∀ {l : List Cert} {m : Nat} {c : Cert}, sortedC l → l[m]? = some c → (c.before r a = true ↔ m < pos l r a)
  | [], m, c, _, h => by simp at h
  | x :: t, m, c, hs, h => by
    have hs' := List.pairwise_cons.1 hs
    cases hx : x.before r a with
    | true =>
      have hp : pos (x :: t) r a = pos t r a + 1 := by simp [pos, hx]
      cases m with
      | zero =>
        simp only [List.getElem?_cons_zero, Option.some.injEq] at h
        subst h
        rw [hp]; simp [hx]
      | succ m =>
        rw [List.getElem?_cons_succ] at h
        rw [pos_iff hs'.2 h, hp]; omega
    | false =>
      have hall : ∀ y ∈ t, y.before r a = false := by
        intro y hy
        have h1 := before_iff.1 (hs'.1 y hy)
        cases hb : y.before r a with
        | false => rfl
        | true =>
          have h2 := before_iff.1 hb
          have : x.before r a = true := before_iff.2 (by omega)
          rw [hx] at this; cases this
      have hp : pos (x :: t) r a = 0 := by
        unfold pos
        rw [List.filter_eq_nil_iff.2]
        · rfl
        · intro y hy
          rcases List.mem_cons.1 hy with rfl | hy
          · simp [hx]
          · simp [hall y hy]
      have hc : c.before r a = false := by
        cases m with
        | zero =>
          simp only [List.getElem?_cons_zero, Option.some.injEq] at h
          subst h; exact hx
        | succ m =>
          rw [List.getElem?_cons_succ] at h
          exact hall c (List.mem_of_getElem? h)
      rw [hp, hc]; simp
theorem atC_pos {l : List Cert} {r a : Int} (hs : sortedC l) : atC l r a = (l[pos l r a]?).filter fun c => decide (c.round = r ∧ c.author = a) := by
  obtain ⟨k, hk⟩ : ∃ k, pos l r a = k := ⟨_, rfl⟩
  cases hc : atC l r a with
  | none =>
    unfold atC at hc
    rw [List.find?_eq_none] at hc
    cases hg : l[pos l r a]? with
    | none => rfl
    | some c =>
      have := hc c (List.mem_of_getElem? hg)
      simp only [Option.filter, this]
      rfl
  | some c =>
    have hc1 : decide (c.round = r ∧ c.author = a) = true := by
      have := List.find?_some hc; simpa using this
    have hcm : c ∈ l := List.mem_of_find?_eq_some hc
    obtain ⟨m, hm⟩ := List.getElem?_of_mem hcm
    have hc2 := of_decide_eq_true hc1
    have hnb : ¬ m < pos l r a := fun h => by
      have := before_iff.1 ((pos_iff hs hm).2 h)
      omega
    have heq : m = pos l r a := by
      rcases Nat.lt_or_ge (pos l r a) m with h | h
      · exfalso
        have hlt : m < l.length := by
          rcases Nat.lt_or_ge m l.length with h2 | h2
          · exact h2
          · rw [List.getElem?_eq_none h2] at hm; cases hm
        obtain ⟨x, hx⟩ : ∃ x, l[pos l r a]? = some x := ⟨_, List.getElem?_eq_getElem (by omega)⟩
        have hb : x.before c.round c.author = true := by
          have := List.pairwise_iff_getElem.1 hs (pos l r a) m (by omega) hlt h
          rw [List.getElem?_eq_getElem (by omega)] at hx hm
          cases hx; cases hm; exact this
        rw [hc2.1, hc2.2] at hb
        have := (pos_iff hs hx).1 hb
        omega
      · omega
    rw [← heq, hm]
    simp only [Option.filter, hc1]
    rfl
theorem cmpP_neg {c : Cert} {r a : Int} : cmpP c r a < 0 ↔ c.before r a = true := by
  rw [before_iff]
  unfold cmpP cmpI
  split <;> split <;> (try split) <;> (try split) <;> omega
theorem cmpP_zero {c : Cert} {r a : Int} : cmpP c r a = 0 ↔ c.round = r ∧ c.author = a := by
  unfold cmpP cmpI
  split <;> split <;> (try split) <;> (try split) <;> omega
theorem half {i j : Nat} {z z1 z2 : Int} (hi : i ≤ 140737488355328) (hj : j ≤ 140737488355328) (h1 : z = IntKind.u64.wrap ((i : Int) + j)) (h2 : z1 = ishr .u64 z 1) (h3 : z2 = IntKind.i64.wrap z1) : z2 = ((i + j) / 2 : Nat) := by
  have e1 : IntKind.u64.wrap ((i : Int) + j) = (i : Int) + j := by
    simp only [IntKind.wrap, IntKind.signed, IntKind.bits]
    simp
    omega
  have e2 : z1 = (((i + j) / 2 : Nat) : Int) := by
    rw [h2, h1, e1]
    have : ishr .u64 ((i : Int) + j) 1 = ((i : Int) + j).fdiv 2 := rfl
    rw [this, Int.fdiv_eq_ediv_of_nonneg _ (by decide)]
    omega
  rw [h3, e2, wrapI (by omega)]
set_option maxHeartbeats 4000000 in
theorem bsearch_ok (l : List Cert) (r a : Int) (hl : few l) (hs : sortedC l) (hf : fitC l) (hr : isF r) (ha : isF a) : ACalls Tryz.prog 160 [.d (.sl 6 (certsD l)), .d (plb r a), .fn 161 []] [] (fun av L => av = .tup [.d (.int .i64 (pos l r a)), .d (.bool (atC l r a).isSome)] ∧ L = []) := by
  have hcl := certsD_length l
  unfold few at hl
  (refine acalls_go ttOk zOk foOk Tryz.func160 rfl Tryz.ntmps160 rfl false rfl ?_); (conv => whnf)
  refine loop_go ttOk zOk foOk (σ := Nat × Nat) (fun s => ([(0, .d (.sl 6 (certsD l))), (1, .d (plb r a)), (2, .fn 161 []), (8, .d (.int .i64 l.length)), (9, .d (.int .i64 s.1)), (10, .d (.int .i64 s.2))], [])) (fun s => s.1 ≤ pos l r a ∧ pos l r a ≤ s.2 ∧ s.2 ≤ l.length) (fun s => s.2 - s.1) [0, 1, 2, 8, 9, 10] ?_ ?_
  · conv => whnf
    exact ⟨(0, l.length), by rw [hcl]; rfl, rfl, Nat.zero_le _, pos_le l r a, Nat.le_refl _⟩
  · rintro ⟨i, j⟩ ⟨h1, h2, h3⟩
    simp only at h1 h2 h3
    conv => whnf
    refine rdz ?_; repeat' ((with_reducible apply tw) <;> intro _)
    · rename_i hij
      intro z hz
      conv => whnf
      refine ⟨by decide, ?_⟩
      intro z1 hz1
      conv => whnf
      intro z2 hz2
      have hh := half (by omega) (by omega) hz hz1 hz2
      subst hh
      clear hz hz1 hz2
      obtain ⟨h, hh⟩ : ∃ h, (i + j) / 2 = h := ⟨_, rfl⟩
      rw [hh]
      obtain ⟨c, hc⟩ : ∃ c, l[h]? = some c := ⟨_, List.getElem?_eq_getElem (by omega)⟩
      obtain ⟨f1, f2⟩ := hf c (List.mem_of_getElem? hc)
      conv => whnf
      refine ⟨by omega, c.cs, certsD_at hc, ?_⟩
      conv => whnf
      refine rdz ?_; repeat' ((with_reducible apply tw) <;> intro _)
      refine (findf_ok c r a f1 f2 hr ha).mono ?_
      rintro _ _ ⟨rfl, rfl⟩
      have hp := pos_iff (r := r) (a := a) hs hc
      rw [← cmpP_neg] at hp
      conv => whnf
      refine rdz ?_; repeat' ((with_reducible apply tw) <;> intro _)
      · rename_i hn
        exact ⟨(h + 1, j), rfl, rfl, ⟨by have := hp.1 hn; show h + 1 ≤ _; omega, h2, h3⟩, by show j - (h + 1) < j - i; omega⟩
      · rename_i hn
        exact ⟨(i, h), rfl, rfl, ⟨h1, by show _ ≤ h; rcases Nat.lt_or_ge h (pos l r a) with h4 | h4; exact absurd (hp.2 h4) hn; exact h4, by show h ≤ _; omega⟩, by show h - i < j - i; omega⟩
    · rename_i hij hlt
      replace hij : ¬ (i : Int) < j := hij
      replace hlt : (i : Int) < l.length := hlt
      obtain rfl : i = pos l r a := by omega
      obtain ⟨c, hc⟩ : ∃ c, l[pos l r a]? = some c := ⟨_, List.getElem?_eq_getElem (by omega)⟩
      obtain ⟨f1, f2⟩ := hf c (List.mem_of_getElem? hc)
      rw [atC_pos hs]
      refine ⟨by omega, c.cs, certsD_at hc, ?_⟩
      conv => whnf
      refine rdz ?_; repeat' ((with_reducible apply tw) <;> intro _)
      refine (findf_ok c r a f1 f2 hr ha).mono ?_
      rintro _ _ ⟨rfl, rfl⟩
      conv => whnf
      refine ⟨?_, rfl⟩
      have e : (Option.filter (fun c : Cert => decide (c.round = r ∧ c.author = a)) l[pos l r a]?).isSome = (cmpP c r a == 0) := by
        rw [hc, Bool.eq_iff_iff, beq_iff_eq, cmpP_zero]
        by_cases hd : c.round = r ∧ c.author = a <;> simp [Option.filter, hd]
      rw [e]
    · rename_i hij hlt
      replace hij : ¬ (i : Int) < j := hij
      replace hlt : ¬ (i : Int) < l.length := hlt
      obtain rfl : i = pos l r a := by omega
      rw [atC_pos hs, List.getElem?_eq_none (by omega)]
      exact ⟨rfl, rfl⟩
theorem find_ok (l : List Cert) (r a : Int) (hl : few l) (hs : sortedC l) (hf : fitC l) (hr : isF r) (ha : isF a) : ACalls Tryz.prog 139 [.d (.sl 6 (certsD l)), .d (plb r a)] [] (fun av L => av = .tup [.d (.int .i64 (pos l r a)), .d (.bool (atC l r a).isSome)] ∧ L = []) := by
  (refine acalls_go ttOk zOk foOk Tryz.func139 rfl Tryz.ntmps139 rfl false rfl ?_); (conv => whnf)
  (refine (bsearch_ok l r a hl hs hf hr ha).mono ?_; rintro _ _ ⟨rfl, rfl⟩; (conv => whnf))
  exact ⟨rfl, rfl⟩
theorem take_pos {r a : Int} : ∀ {l : List Cert}, sortedC l → l.take (pos l r a) = l.filter (fun c => c.before r a) ∧ l.drop (pos l r a) = l.filter (fun c => !c.before r a)
  | [], _ => ⟨rfl, rfl⟩
  | x :: t, hs => by
    have hs' := List.pairwise_cons.1 hs
    obtain ⟨i1, i2⟩ := take_pos (r := r) (a := a) hs'.2
    cases hx : x.before r a with
    | true =>
      have hp : pos (x :: t) r a = pos t r a + 1 := by simp [pos, hx]
      rw [hp, List.take_succ_cons, List.drop_succ_cons, i1, i2]
      simp [hx]
    | false =>
      have hall : ∀ y ∈ t, y.before r a = false := by
        intro y hy
        cases hb : y.before r a with
        | false => rfl
        | true =>
          have h1 := before_iff.1 (hs'.1 y hy)
          have h2 := before_iff.1 hb
          have : x.before r a = true := before_iff.2 (by omega)
          rw [hx] at this; cases this
      have hf : t.filter (fun c => c.before r a) = [] := List.filter_eq_nil_iff.2 fun y hy => by simp [hall y hy]
      have hg : t.filter (fun c => !c.before r a) = t := List.filter_eq_self.2 fun y hy => by simp [hall y hy]
      have hp : pos (x :: t) r a = 0 := by simp [pos, hx, hf]
      rw [hp]
      simp [hx, hf, hg]
def ofR (l : List Cert) (r : Int) : List Cert := l.filter fun c => decide (c.round = r)
def auth (l : List Cert) : Prop := ∀ c ∈ l, 1 ≤ c.author ∧ c.author ≤ 16
theorem sortedC.filter {l : List Cert} (h : sortedC l) (p : Cert → Bool) : sortedC (l.filter p) := List.Pairwise.sublist List.filter_sublist h
theorem of_slice {l : List Cert} {r : Int} (hs : sortedC l) (ha : auth l) : pos l r 0 ≤ pos l r 17 ∧ (l.take (pos l r 17)).drop (pos l r 0) = ofR l r := by
  have h17 := (take_pos (r := r) (a := 17) hs).1
  have hle : pos l r 0 ≤ pos l r 17 := by
    unfold pos
    rw [← List.countP_eq_length_filter, ← List.countP_eq_length_filter]
    exact List.countP_mono_left fun c hc h => before_iff.2 (by have := before_iff.1 h; omega)
  refine ⟨hle, ?_⟩
  rw [h17]
  have hp : pos (l.filter fun c => c.before r 17) r 0 = pos l r 0 := by
    unfold pos
    rw [List.filter_filter]
    congr 1
    refine List.filter_congr fun c hc => ?_
    cases h : c.before r 0 with
    | false => rfl
    | true =>
      have : c.before r 17 = true := before_iff.2 (by have := before_iff.1 h; omega)
      rw [this]; rfl
  rw [← hp, (take_pos (r := r) (a := 0) (hs.filter _)).2, List.filter_filter]
  refine List.filter_congr fun c hc => ?_
  have := ha c hc
  by_cases h : c.round = r
  · have h1 : c.before r 17 = true := before_iff.2 (by omega)
    have h2 : c.before r 0 = false := by
      cases hb : c.before r 0 with
      | false => rfl
      | true => have := before_iff.1 hb; omega
    simp [h, h1, h2]
  · rcases Int.lt_or_gt_of_ne h with h1 | h1
    · have : c.before r 0 = true := before_iff.2 (.inl h1)
      simp [h, this]
    · have : c.before r 17 = false := by
        cases hb : c.before r 17 with
        | false => rfl
        | true => have := before_iff.1 hb; omega
      simp [h, this]
def topR (l : List Cert) : Int := (l.getLast?).elim 0 (·.round)
theorem high_ok (d : Dag) (hd : few d.certs) : ACalls Tryz.prog 97 [d.av] [] (fun av L => av = .d (.int .i64 (topR d.certs)) ∧ L = []) := by
  have hcl := certsD_length d.certs
  unfold few at hd
  (refine acalls_go ttOk zOk foOk Tryz.func97 rfl Tryz.ntmps97 rfl false rfl ?_); (conv => whnf)
  refine rdw ?_; repeat' ((with_reducible apply tw) <;> intro _)
  · rename_i h
    obtain ⟨c, hc⟩ : ∃ c, d.certs[d.certs.length - 1]? = some c := ⟨_, List.getElem?_eq_getElem (by omega)⟩
    have hl : d.certs.getLast? = some c := by rw [List.getLast?_eq_getElem?]; exact hc
    refine ⟨by omega, c.cs, by rw [show ((certsD d.certs).length - 1 : Int).toNat = d.certs.length - 1 by omega]; exact certsD_at hc, ?_⟩
    conv => whnf
    exact ⟨by rw [topR, hl]; rfl, rfl⟩
  · rename_i h
    have : d.certs = [] := List.eq_nil_of_length_eq_zero (by omega)
    exact ⟨by rw [topR, this]; rfl, rfl⟩
structure Dag.fit (d : Dag) : Prop where
  few : few d.certs
  sorted : sortedC d.certs
  fit : fitC d.certs
  auth : auth d.certs
theorem find0_ok (l : List Cert) (r : Int) (hl : few l) (hs : sortedC l) (hf : fitC l) (hr : isF r) : ACalls Tryz.prog 139 [.d (.sl 6 (certsD l)), .d (.cplx .f64 (fnear .f64 r) 0)] [] (fun av L => av = .tup [.d (.int .i64 (pos l r 0)), .d (.bool (atC l r 0).isSome)] ∧ L = []) := by
  have := find_ok l r 0 hl hs hf hr ⟨by decide, by decide⟩
  rw [plb, fnear_0] at this
  exact this
theorem find17_ok (l : List Cert) (r : Int) (hl : few l) (hs : sortedC l) (hf : fitC l) (hr : isF r) : ACalls Tryz.prog 139 [.d (.sl 6 (certsD l)), .d (.cplx .f64 (fnear .f64 r) 4625478292286210048)] [] (fun av L => av = .tup [.d (.int .i64 (pos l r 17)), .d (.bool (atC l r 17).isSome)] ∧ L = []) := by
  have := find_ok l r 17 hl hs hf hr ⟨by decide, by decide⟩
  rw [plb, fnear_17] at this
  exact this
theorem dagOf_ok (d : Dag) (hd : d.fit) (r : Int) (hr : isF r) : ACalls Tryz.prog 138 [d.av, .d (.int .i64 r)] [] (fun av L => av = .d (.sl 6 (certsD (ofR d.certs r))) ∧ L = []) := by
  have hcl := certsD_length d.certs
  obtain ⟨h1, h2⟩ := of_slice (r := r) hd.sorted hd.auth
  have h3 := pos_le d.certs r 17
  have h4 := hd.few
  unfold few at h4
  (refine acalls_go ttOk zOk foOk Tryz.func138 rfl Tryz.ntmps138 rfl false rfl ?_); (conv => whnf)
  refine (find0_ok d.certs r hd.few hd.sorted hd.fit hr).mono ?_
  rintro _ _ ⟨rfl, rfl⟩
  conv => whnf
  refine (find17_ok d.certs r hd.few hd.sorted hd.fit hr).mono ?_
  rintro _ _ ⟨rfl, rfl⟩
  conv => whnf
  refine rdw ?_; repeat' ((with_reducible apply tw) <;> intro _)
  refine ⟨by omega, by omega, by omega, ?_⟩
  conv => whnf
  rw [show (certsD (ofR d.certs r)) = ((certsD d.certs).take (pos d.certs r 17)).drop (pos d.certs r 0) by rw [← h2]; simp [certsD, List.map_drop, List.map_take]]
  exact ⟨rfl, rfl⟩
def zCert : AV := .agg [.d (.int .i64 0), .d (.int .i64 0), .d .nils, .d .nils, .d (.int .i64 0), .d .nils]
theorem there_ok (d : Dag) (hd : d.fit) (r a : Int) (hr : isF r) (ha : isF a) : ACalls Tryz.prog 120 [d.av, .d (plb r a)] [] (fun av L => ((∃ c, atC d.certs r a = some c ∧ av = .tup [c.av, .d (.bool true)]) ∨ (atC d.certs r a = none ∧ av = .tup [zCert, .d (.bool false)])) ∧ L = []) := by
  (refine acalls_go ttOk zOk foOk Tryz.func120 rfl Tryz.ntmps120 rfl false rfl ?_); (conv => whnf)
  refine (find_ok d.certs r a hd.few hd.sorted hd.fit hr ha).mono ?_
  rintro _ _ ⟨rfl, rfl⟩
  obtain ⟨b, hb⟩ : ∃ b, (atC d.certs r a).isSome = b := ⟨_, rfl⟩
  rw [hb]
  conv => whnf
  refine rdw ?_; repeat' ((with_reducible apply tw) <;> intro _)
  · rename_i h
    subst h
    exact ⟨.inr ⟨by simpa using hb, rfl⟩, rfl⟩
  · rename_i h
    subst h
    rw [atC_pos hd.sorted] at hb
    obtain ⟨c, hc⟩ : ∃ c, d.certs[pos d.certs r a]? = some c := by
      cases hg : d.certs[pos d.certs r a]? with
      | none => rw [hg] at hb; cases hb
      | some c => exact ⟨c, rfl⟩
    have he : atC d.certs r a = some c := by
      rw [atC_pos hd.sorted, hc]
      rw [hc] at hb
      revert hb
      by_cases h : c.round = r ∧ c.author = a <;> simp [Option.filter, h]
    refine ⟨by omega, c.cs, certsD_at hc, ?_⟩
    conv => whnf
    exact ⟨.inl ⟨c, he, rfl⟩, rfl⟩
theorem there_some (d : Dag) (hd : d.fit) (r a : Int) (hr : isF r) (ha : isF a) {c : Cert} (h : atC d.certs r a = some c) : ACalls Tryz.prog 120 [d.av, .d (plb r a)] [] (fun av L => av = .tup [c.av, .d (.bool true)] ∧ L = []) := by
  refine (there_ok d hd r a hr ha).mono ?_
  rintro _ _ ⟨⟨c', hc, rfl⟩ | ⟨hc, _⟩, rfl⟩
  · rw [h] at hc; cases hc; exact ⟨rfl, rfl⟩
  · rw [h] at hc; cases hc
theorem there_none (d : Dag) (hd : d.fit) (r a : Int) (hr : isF r) (ha : isF a) (h : atC d.certs r a = none) : ACalls Tryz.prog 120 [d.av, .d (plb r a)] [] (fun av L => av = .tup [zCert, .d (.bool false)] ∧ L = []) := by
  refine (there_ok d hd r a hr ha).mono ?_
  rintro _ _ ⟨⟨c', hc, _⟩ | ⟨_, rfl⟩, rfl⟩
  · rw [h] at hc; cases hc
  · exact ⟨rfl, rfl⟩
def leadI (n r : Int) : Int := (r / 2 - 1) % n + 1
theorem leads_ok (n r : Int) (hn : 0 < n ∧ n ≤ 16) (hr : 2 ≤ r ∧ r ≤ 1099511627777) : ACalls Tryz.prog 121 [.d (.int .i64 n), .d (.int .i64 r)] [] (fun av L => av = .d (.int .i64 (leadI n r)) ∧ L = []) := by
  have h1 := Int.emod_nonneg (r / 2 - 1) (show n ≠ 0 by omega)
  have h2 := Int.emod_lt_of_pos (r / 2 - 1) hn.1
  (refine acalls_go ttOk zOk foOk Tryz.func121 rfl Tryz.ntmps121 rfl false rfl ?_); (conv => whnf)
  refine ⟨by decide, ?_⟩
  intro z hz
  have : z = r / 2 := by rw [hz, Int.tdiv_eq_ediv_of_nonneg (by omega), wrapI (by omega)]
  clear hz
  subst this
  conv => whnf
  ((with_reducible apply z_wrap); (focus omega); (conv => whnf))
  refine ⟨by omega, ?_⟩
  intro z hz
  have : z = (r / 2 - 1) % n := by rw [hz, Int.tmod_eq_emod_of_nonneg (by omega)]
  clear hz
  subst this
  conv => whnf
  ((with_reducible apply z_wrap); (focus omega); (conv => whnf))
  exact ⟨rfl, rfl⟩
theorem lead_range {n r : Int} (hn : 0 < n ∧ n ≤ 16) : 1 ≤ leadI n r ∧ leadI n r ≤ 16 := by
  have h1 := Int.emod_nonneg (r / 2 - 1) (show n ≠ 0 by omega)
  have h2 := Int.emod_lt_of_pos (r / 2 - 1) hn.1
  unfold leadI
  omega
def anchorI (d : Dag) (r : Int) : Int := (atC d.certs r (leadI d.nodes r)).elim 0 (·.digest)
theorem anchorOf_ok (d : Dag) (hd : d.fit) (hn : 0 < d.nodes ∧ d.nodes ≤ 16) (r : Int) (hr : 2 ≤ r ∧ r ≤ 1099511627777) : ACalls Tryz.prog 99 [d.av, .d (.int .i64 r)] [] (fun av L => av = .d (.int .i64 (anchorI d r)) ∧ L = []) := by
  have h1 := lead_range (r := r) hn
  (refine acalls_go ttOk zOk foOk Tryz.func99 rfl Tryz.ntmps99 rfl false rfl ?_); (conv => whnf)
  obtain ⟨a, hla⟩ : ∃ a, leadI d.nodes r = a := ⟨_, rfl⟩
  rw [hla] at h1
  have hle := leads_ok d.nodes r hn hr
  rw [hla] at hle
  have hfr : isF r := ⟨by omega, by omega⟩
  have hfa : isF a := ⟨by omega, by omega⟩
  rw [anchorI, hla]
  cases hc : atC d.certs r a with
  | none =>
    have hth := there_none d hd r a hfr hfa hc
    ((with_reducible refine draw_pl ttOk zOk foOk mixedOk pl99x1 ?_ ?_); (focus kernel_rfl); (conv => whnf))
    refine rdw ?_; repeat' ((with_reducible apply tw) <;> intro _)
    ((with_reducible apply rd_intro); (focus (intro K hK; (conv => whnf); refine (hle).mono ?_; rintro _ _ ⟨rfl, rfl⟩; (conv => whnf); exact hK)); (conv => whnf))
    refine rdw ?_; repeat' ((with_reducible apply tw) <;> intro _)
    ((with_reducible apply rd_intro); (focus (intro K hK; (conv => whnf); refine (placeOf_ok r a).mono ?_; rintro _ _ ⟨rfl, rfl⟩; (conv => whnf); exact hK)); (conv => whnf))
    refine rdw ?_; repeat' ((with_reducible apply tw) <;> intro _)
    ((with_reducible apply rd_intro); (focus (intro K hK; (conv => whnf); refine (hth).mono ?_; rintro _ _ ⟨rfl, rfl⟩; (conv => whnf); exact hK)); (conv => whnf))
    refine rdw ?_; repeat' ((with_reducible apply tw) <;> intro _)
    ((with_reducible apply gd_and); (focus ((conv => whnf); intro K hK; (conv => whnf); refine (hth).mono ?_; rintro _ _ ⟨rfl, rfl⟩; (conv => whnf); exact hK)); (conv => whnf))
    refine rdw ?_; repeat' ((with_reducible apply tw) <;> intro _)
    ((with_reducible apply gd_and); (focus ((conv => whnf); intro K hK; (conv => whnf); refine (placeOf_ok r a).mono ?_; rintro _ _ ⟨rfl, rfl⟩; (conv => whnf); exact hK)); (conv => whnf))
    refine rdw ?_; repeat' ((with_reducible apply tw) <;> intro _)
    ((with_reducible apply gd_and); (focus ((conv => whnf); intro K hK; (conv => whnf); refine (hle).mono ?_; rintro _ _ ⟨rfl, rfl⟩; (conv => whnf); exact hK)); (conv => whnf))
    refine rdw ?_; repeat' ((with_reducible apply tw) <;> intro _)
    exact ⟨rfl, rfl⟩
  | some c =>
    have hth := there_some d hd r a hfr hfa hc
    ((with_reducible refine draw_pl ttOk zOk foOk mixedOk pl99x1 ?_ ?_); (focus kernel_rfl); (conv => whnf))
    refine rdw ?_; repeat' ((with_reducible apply tw) <;> intro _)
    ((with_reducible apply rd_intro); (focus (intro K hK; (conv => whnf); refine (hle).mono ?_; rintro _ _ ⟨rfl, rfl⟩; (conv => whnf); exact hK)); (conv => whnf))
    refine rdw ?_; repeat' ((with_reducible apply tw) <;> intro _)
    ((with_reducible apply rd_intro); (focus (intro K hK; (conv => whnf); refine (placeOf_ok r a).mono ?_; rintro _ _ ⟨rfl, rfl⟩; (conv => whnf); exact hK)); (conv => whnf))
    refine rdw ?_; repeat' ((with_reducible apply tw) <;> intro _)
    ((with_reducible apply rd_intro); (focus (intro K hK; (conv => whnf); refine (hth).mono ?_; rintro _ _ ⟨rfl, rfl⟩; (conv => whnf); exact hK)); (conv => whnf))
    refine rdw ?_; repeat' ((with_reducible apply tw) <;> intro _)
    ((with_reducible apply gd_and); (focus ((conv => whnf); intro K hK; (conv => whnf); refine (hth).mono ?_; rintro _ _ ⟨rfl, rfl⟩; (conv => whnf); exact hK)); (conv => whnf))
    refine rdw ?_; repeat' ((with_reducible apply tw) <;> intro _)
    ((with_reducible apply gd_and); (focus ((conv => whnf); intro K hK; (conv => whnf); refine (placeOf_ok r a).mono ?_; rintro _ _ ⟨rfl, rfl⟩; (conv => whnf); exact hK)); (conv => whnf))
    refine rdw ?_; repeat' ((with_reducible apply tw) <;> intro _)
    ((with_reducible apply gd_and); (focus ((conv => whnf); intro K hK; (conv => whnf); refine (hle).mono ?_; rintro _ _ ⟨rfl, rfl⟩; (conv => whnf); exact hK)); (conv => whnf))
    refine rdw ?_; repeat' ((with_reducible apply tw) <;> intro _)
    exact ⟨rfl, rfl⟩
theorem index_ok (l : List Int) (hl : few l) (x : Int) : ACalls Tryz.prog 140 [.d (.sl 1 (nums l)), .d (.int .i64 x)] [] (fun av L => (∃ z : Int, av = .d (.int .i64 z) ∧ (z ≥ 0 ↔ x ∈ l)) ∧ L = []) := by
  have hll := nums_length l
  unfold few at hl
  (refine acalls_go ttOk zOk foOk Tryz.func140 rfl Tryz.ntmps140 rfl false rfl ?_); (conv => whnf)
  refine loop_go ttOk zOk foOk (σ := Nat) (fun j => ([(0, .d (.sl 1 (nums l))), (1, .d (.int .i64 x)), (7, .d (.int .i64 l.length)), (8, .d (.int .i64 j))], [])) (fun j => j ≤ l.length ∧ ¬ x ∈ l.take j) (fun j => l.length - j) [0, 1, 7, 8] ?_ ?_
  · conv => whnf
    exact ⟨0, by rw [hll]; rfl, rfl, Nat.zero_le _, by simp⟩
  · rintro j ⟨h1, h2⟩
    conv => whnf
    refine rdw ?_; repeat' ((with_reducible apply tw) <;> intro _)
    · rename_i h
      obtain ⟨y, hy⟩ : ∃ y, l[j]? = some y := ⟨_, List.getElem?_eq_getElem (by omega)⟩
      refine ⟨by omega, [.int .i64 y], nums_at hy, ?_⟩
      conv => whnf
      refine rdw ?_; repeat' ((with_reducible apply tw) <;> intro _)
      · rename_i h3
        exact ⟨⟨_, rfl, by rw [h3]; exact ⟨fun _ => List.mem_of_getElem? hy, fun _ => Int.natCast_nonneg _⟩⟩, rfl⟩
      · rename_i h3
        exact ⟨j + 1, rfl, rfl, ⟨by omega, by rw [List.take_add_one, hy]; simpa using ⟨h2, h3⟩⟩, by omega⟩
    · rename_i h
      rw [show j = l.length by omega, List.take_length] at h2
      exact ⟨⟨_, rfl, ⟨fun h3 => absurd h3 (by decide), fun h3 => absurd h3 h2⟩⟩, rfl⟩
theorem contains_ok (l : List Int) (hl : few l) (x : Int) : ACalls Tryz.prog 124 [.d (.sl 1 (nums l)), .d (.int .i64 x)] [] (fun av L => av = .d (.bool (decide (x ∈ l))) ∧ L = []) := by
  (refine acalls_go ttOk zOk foOk Tryz.func124 rfl Tryz.ntmps124 rfl false rfl ?_); (conv => whnf)
  refine (index_ok l hl x).mono ?_
  rintro _ _ ⟨⟨z, rfl, hz⟩, rfl⟩
  conv => whnf
  exact ⟨boolEq (by simpa using hz), rfl⟩
end Go.Proofs.YtmmngmnmghpfaaaGreat
