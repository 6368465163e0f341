/- DiskExact: contracts. -/
import Derived.Test.YtgoejddmglgogaaDiskExactRowA
import Derived.Test.YtgoejddmglgogaaProg
import Derived.Shelf.SlIter.Nil
import Derived.Shelf.SortM.Plain
import Derived.Shelf.SortM.SortNone
import Derived.Ground.GgzProg
import Derived.Ground.SlgmProg
set_option linter.unusedVariables false
set_option linter.unusedSimpArgs false
namespace Go.Proofs.Ytgoejddmglgogaa
open Go.Ab Go.RowKit
def ttab : List (Nat × TI) := [
  (3,⟨(.int .i64),(.int .i64 0),1,8,false,false⟩),
  (5,⟨(.int .u8),(.int .u8 0),1,1,false,false⟩),
  (4,⟨(.bool),(.bool false),1,1,false,false⟩),
  (9,⟨(.string),(.string (ByteArray.mk #[])),1,16,false,false⟩),
  (39,⟨(.slice 5),(.slice none 0 0),1,24,false,false⟩),
  (76,⟨(.slice 9),(.slice none 0 0),1,24,false,false⟩),
  (40,⟨(.slice 3),(.slice none 0 0),1,24,false,false⟩),
  (50,⟨(.struct #[(Field.mk "Name" 9 0 false "" "" 0),(Field.mk "Data" 39 1 false "" "" 16)]),(.agg #[.string (ByteArray.mk #[]),.slice none 0 0]),2,40,false,false⟩),
  (22,⟨(.slice 50),(.slice none 0 0),1,24,false,false⟩),
  (2,⟨(.int .i64),(.int .i64 0),1,8,false,false⟩),
  (12,⟨(.int .u64),(.int .u64 0),1,8,false,false⟩),
  (21,⟨(.int .i32),(.int .i32 0),1,4,false,false⟩),
  (23,⟨(.slice 42),(.slice none 0 0),1,24,false,false⟩),
  (24,⟨(.struct #[(Field.mk "Files" 22 0 false "" "" 0),(Field.mk "L" 23 1 false "" "" 24)]),(.agg #[.slice none 0 0,.slice none 0 0]),2,48,false,false⟩),
  (25,⟨(.struct #[(Field.mk "Files" 22 0 false "" "" 0),(Field.mk "L" 23 1 false "" "" 24)]),(.agg #[.slice none 0 0,.slice none 0 0]),2,48,false,false⟩),
  (28,⟨(.pointer 48),(.pointer none),1,8,false,false⟩),
  (29,⟨(.int .i64),(.int .i64 0),1,8,false,false⟩),
  (36,⟨(.pointer 64),(.pointer none),1,8,false,false⟩),
  (41,⟨(.struct #[(Field.mk "Do" 3 0 false "" "" 0),(Field.mk "A" 9 1 false "" "" 8),(Field.mk "B" 9 2 false "" "" 24),(Field.mk "N" 3 3 false "" "" 40),(Field.mk "Bytes" 39 4 false "" "" 48),(Field.mk "Picks" 40 5 false "" "" 72)]),(.agg #[.int .i64 0,.string (ByteArray.mk #[]),.string (ByteArray.mk #[]),.int .i64 0,.slice none 0 0,.slice none 0 0]),6,96,false,false⟩),
  (42,⟨(.struct #[(Field.mk "Do" 3 0 false "" "" 0),(Field.mk "A" 9 1 false "" "" 8),(Field.mk "B" 9 2 false "" "" 24),(Field.mk "N" 3 3 false "" "" 40),(Field.mk "Bytes" 39 4 false "" "" 48),(Field.mk "Picks" 40 5 false "" "" 72)]),(.agg #[.int .i64 0,.string (ByteArray.mk #[]),.string (ByteArray.mk #[]),.int .i64 0,.slice none 0 0,.slice none 0 0]),6,96,false,false⟩),
  (44,⟨(.struct #[(Field.mk "calls" 3 0 false "" "drover/disk" 0),(Field.mk "off" 4 1 false "" "drover/disk" 8),(Field.mk "until" 3 2 false "" "drover/disk" 16)]),(.agg #[.int .i64 0,.bool false,.int .i64 0]),3,24,false,false⟩),
  (45,⟨(.struct #[(Field.mk "calls" 3 0 false "" "drover/disk" 0),(Field.mk "off" 4 1 false "" "drover/disk" 8),(Field.mk "until" 3 2 false "" "drover/disk" 16)]),(.agg #[.int .i64 0,.bool false,.int .i64 0]),3,24,false,false⟩),
  (46,⟨(.map 9 53),(.map none),1,8,false,false⟩),
  (47,⟨(.struct #[(Field.mk "power" 45 0 true "" "drover/disk" 0),(Field.mk "files" 46 3 false "" "drover/disk" 24)]),(.agg #[.int .i64 0,.bool false,.int .i64 0,.map none]),4,32,false,false⟩),
  (48,⟨(.struct #[(Field.mk "power" 45 0 true "" "drover/disk" 0),(Field.mk "files" 46 3 false "" "drover/disk" 24)]),(.agg #[.int .i64 0,.bool false,.int .i64 0,.map none]),4,32,false,false⟩),
  (49,⟨(.struct #[(Field.mk "Name" 9 0 false "" "" 0),(Field.mk "Data" 39 1 false "" "" 16)]),(.agg #[.string (ByteArray.mk #[]),.slice none 0 0]),2,40,false,false⟩),
  (53,⟨(.pointer 56),(.pointer none),1,8,false,false⟩),
  (55,⟨(.struct #[(Field.mk "safe" 39 0 false "" "drover/disk" 0),(Field.mk "seen" 39 1 false "" "drover/disk" 24)]),(.agg #[.slice none 0 0,.slice none 0 0]),2,48,false,false⟩),
  (56,⟨(.struct #[(Field.mk "safe" 39 0 false "" "drover/disk" 0),(Field.mk "seen" 39 1 false "" "drover/disk" 24)]),(.agg #[.slice none 0 0,.slice none 0 0]),2,48,true,false⟩),
  (62,⟨(.slice 66),(.slice none 0 0),1,24,false,false⟩),
  (63,⟨(.struct #[(Field.mk "l" 62 0 false "" "drover/droverref9" 0),(Field.mk "calls" 3 1 false "" "drover/droverref9" 24),(Field.mk "left" 3 2 false "" "drover/droverref9" 32),(Field.mk "off" 4 3 false "" "drover/droverref9" 40)]),(.agg #[.slice none 0 0,.int .i64 0,.int .i64 0,.bool false]),4,48,false,false⟩),
  (64,⟨(.struct #[(Field.mk "l" 62 0 false "" "drover/droverref9" 0),(Field.mk "calls" 3 1 false "" "drover/droverref9" 24),(Field.mk "left" 3 2 false "" "drover/droverref9" 32),(Field.mk "off" 4 3 false "" "drover/droverref9" 40)]),(.agg #[.slice none 0 0,.int .i64 0,.int .i64 0,.bool false]),4,48,false,true⟩),
  (65,⟨(.struct #[(Field.mk "name" 9 0 false "" "drover/droverref9" 0),(Field.mk "safe" 39 1 false "" "drover/droverref9" 16),(Field.mk "seen" 39 2 false "" "drover/droverref9" 40)]),(.agg #[.string (ByteArray.mk #[]),.slice none 0 0,.slice none 0 0]),3,64,false,false⟩),
  (66,⟨(.struct #[(Field.mk "name" 9 0 false "" "drover/droverref9" 0),(Field.mk "safe" 39 1 false "" "drover/droverref9" 16),(Field.mk "seen" 39 2 false "" "drover/droverref9" 40)]),(.agg #[.string (ByteArray.mk #[]),.slice none 0 0,.slice none 0 0]),3,64,false,false⟩),
  (87,⟨(.pointer 45),(.pointer none),1,8,false,false⟩),
  (90,⟨(.int .u64),(.int .u64 0),1,8,false,false⟩),
  (105,⟨(.slice 39),(.slice none 0 0),1,24,false,false⟩),
  (107,⟨(.int .i64),(.int .i64 0),1,8,false,false⟩),
  (116,⟨(.int .u32),(.int .u32 0),1,4,false,false⟩),
  (118,⟨(.int .u64),(.int .u64 0),1,8,false,false⟩),
  (119,⟨(.int .u64),(.int .u64 0),1,8,false,false⟩),
  (123,⟨(.pointer 3),(.pointer none),1,8,false,false⟩),
  (125,⟨(.pointer 119),(.pointer none),1,8,false,false⟩),
  (136,⟨(.pointer 5),(.pointer none),1,8,false,false⟩)]
noncomputable def tt : TypeId → Option TI := tget ttab
theorem ttOk : TTok Try.prog tt := TTok_of (by
  unfold ttab ttAll; refine ⟨⟨by kernel_rfl, by kernel_rfl⟩, ⟨by kernel_rfl, by kernel_rfl⟩, ⟨by kernel_rfl, by kernel_rfl⟩, ⟨by kernel_rfl, by kernel_rfl⟩, ⟨by kernel_rfl, by kernel_rfl⟩, ⟨by kernel_rfl, by kernel_rfl⟩, ⟨by kernel_rfl, by kernel_rfl⟩, ⟨by kernel_rfl, by kernel_rfl⟩, ⟨by kernel_rfl, by kernel_rfl⟩, ⟨by kernel_rfl, by kernel_rfl⟩, ⟨by kernel_rfl, by kernel_rfl⟩, ⟨by kernel_rfl, by kernel_rfl⟩, ⟨by kernel_rfl, by kernel_rfl⟩, ⟨by kernel_rfl, by kernel_rfl⟩, ⟨by kernel_rfl, by kernel_rfl⟩, ⟨by kernel_rfl, by kernel_rfl⟩, ⟨by kernel_rfl, by kernel_rfl⟩, ⟨by kernel_rfl, by kernel_rfl⟩, ⟨by kernel_rfl, by kernel_rfl⟩, ⟨by kernel_rfl, by kernel_rfl⟩, ⟨by kernel_rfl, by kernel_rfl⟩, ⟨by kernel_rfl, by kernel_rfl⟩, ⟨by kernel_rfl, by kernel_rfl⟩, ⟨by kernel_rfl, by kernel_rfl⟩, ⟨by kernel_rfl, by kernel_rfl⟩, ⟨by kernel_rfl, by kernel_rfl⟩, ⟨by kernel_rfl, by kernel_rfl⟩, ⟨by kernel_rfl, by kernel_rfl⟩, ⟨by kernel_rfl, by kernel_rfl⟩, ⟨by kernel_rfl, by kernel_rfl⟩, ⟨by kernel_rfl, by kernel_rfl⟩, ⟨by kernel_rfl, by kernel_rfl⟩, ⟨by kernel_rfl, by kernel_rfl⟩, ⟨by kernel_rfl, by kernel_rfl⟩, ⟨by kernel_rfl, by kernel_rfl⟩, ⟨by kernel_rfl, by kernel_rfl⟩, ⟨by kernel_rfl, by kernel_rfl⟩, ⟨by kernel_rfl, by kernel_rfl⟩, ⟨by kernel_rfl, by kernel_rfl⟩, ⟨by kernel_rfl, by kernel_rfl⟩, ⟨by kernel_rfl, by kernel_rfl⟩, ⟨by kernel_rfl, by kernel_rfl⟩, ⟨by kernel_rfl, by kernel_rfl⟩, ⟨by kernel_rfl, by kernel_rfl⟩, trivial⟩) (by kernel_rfl)
theorem zOk : ZOok tt := ZOok_of (by kernel_rfl)
def ftab : List Nat := [3, 4, 5, 6, 7, 8, 9, 10, 11, 12, 13, 14, 15, 16, 17, 18, 19, 20, 21, 22, 23, 24, 25, 26, 27, 28, 29, 30, 31, 32, 33, 34, 35, 36, 37, 38, 39, 40, 41, 42, 43, 44, 45, 46, 47, 48, 49, 50, 51, 52, 53, 54, 55, 56, 57, 58, 59, 60, 61, 62, 63, 64, 65, 66, 67, 68, 69, 70, 71, 72, 73, 74, 75, 76, 77, 78, 79, 80, 81, 82, 83, 84]
noncomputable def fo : FuncId → Bool := fun g => memB g ftab
theorem foOk : FOok Try.prog fo := FOok_of (by kernel_rfl)
end Go.Proofs.Ytgoejddmglgogaa
namespace Go.Proofs.Ytgoejddmglgogaa
open Go.Ab
def pl4x9 : Plan := ⟨[[],[],[1],[],[3,1,2],[2,1,3,4],[4,3,1,2,5],[5,2,1,3,4,6],[6,4,3,1,2,5,7,0],[],[9],[],[11,9,10],[10,9,11,12],[12,11,9,10,13],[13,10,9,11,12,14],[14,12,11,9,10,13,15,0,7,5,2,1,3,4,6,8],[8,6,4,3,1,2,5,7,0,15,13,10,9,11,12,14,16]],[0,1,2,3,4,5,6,7,8,9,10,11,12,13,14,15,16],[(17,[])]⟩
def pl6x5 : Plan := ⟨[[],[0],[0,1],[1,0,2],[2,0,1,3],[3,1,0,2,4],[4,2,0,1,3,5],[5,3,1,0,2,4,6],[6,4,2,0,1,3,5,7],[7,5,6,8,3,1,0,2,4],[4,2,0,1,3,8,6,5,7,9],[9,7,5,6,8,3,1,0,2,4,10],[10,4,2,0,1,3,8,6,5,7,9,11],[11,9,7,5,6,8,3,1,0,2,4,10,12],[12,10,4,2,0,1,3,8,6,5,7,9,11,13],[12,10,4,2,0,1,3,8,6,5,7,9,11,13],[13,11,9,7,5,6,8,3,1,0,2,4,10,12,15],[15,16,13,11,9,7,5,6,8,3,1,0,2,4,10,12,14],[14,12,10,4,2,0,1,3,8,6,5,7,9,11,13,16,15,17],[17,15,16,13,11,9,7,5,6,8,3,1,0,2,4,10,12,14,18],[12,10,4,2,0,1,3,8,6,5,7,9,11,13],[13,11,9,7,5,6,8,3,1,0,2,4,10,12,20],[20,21,18,14,12,10,4,2,0,1,3,8,6,5,7,9,11,13,16,15,17,19],[19,17,15,16,14,18,21,20,22,12,10,4,2,0,1,3,8,6,5,7,9,11,13],[13,11,12,22,20,21,18,14,16,15,17,19,23,9,7,5,6,8,3,1,0,2,4,10]],[0,1],[(2,[3,4,5,6,7,8,9,10,11,12,13,14,15,16,17,18,19,20,21,22,23,24])]⟩
def pl6x7 : Plan := ⟨[[],[0],[0,1],[1,0,2],[],[4],[],[6],[6,7],[],[9],[7,6,8,9,10],[10,9,11,7,6,8],[8,6,7,11,9,10,12],[12,10,9,11,7,6,8,13,4,5,2,0,1,3]],[0,1,2,3,4,5,6,7,9,10],[(8,[]),(11,[12]),(13,[]),(14,[])]⟩
def pl8x6 : Plan := ⟨[[],[],[1,0],[0,1,2],[2,1,0,3],[3,0,1,2,4],[4,2,1,0,3,5],[5,3,0,1,2,4,6],[6,4,2,1,0,3,5,7],[6,4,2,1,0,3,5,7],[9,7,5,3,0,1,2,4,6,8],[8,6,4,2,1,0,3,5,7,9,10],[10,9,7,5,3,0,1,2,4,6,8,11],[11,8,6,4,2,1,0,3,5,7,9,10,12],[12,10,9,7,5,3,0,1,2,4,6,8,11,13],[13,11,8,9,10,12,14,6,4,2,1,0,3,5,7],[7,5,3,0,1,2,4,6,14,12,10,9,8,11,13,15],[15,13,11,8,9,10,12,14,6,4,2,1,0,3,5,7,16],[16,7,5,3,0,1,2,4,6,14,12,10,9,8,11,13,15,17],[17,15,13,11,8,9,10,12,14,6,4,2,1,0,3,5,7,16,18],[18,16,7,5,3,0,1,2,4,6,14,12,10,9,8,11,13,15,17,19],[18,16,7,5,3,0,1,2,4,6,14,12,10,9,8,11,13,15,17,19],[19,17,15,13,11,8,9,10,12,14,6,4,2,1,0,3,5,7,16,18,21],[21,22,19,17,15,13,11,8,9,10,12,14,6,4,2,1,0,3,5,7,16,18,20],[20,18,16,7,5,3,0,1,2,4,6,14,12,10,9,8,11,13,15,17,19,22,21,23],[23,21,22,19,17,15,13,11,8,9,10,12,14,6,4,2,1,0,3,5,7,16,18,20,24],[18,16,7,5,3,0,1,2,4,6,14,12,10,9,8,11,13,15,17,19],[18,16,7,5,3,0,1,2,4,6,14,12,10,9,8,11,13,15,17,19],[27,19,17,15,13,11,8,9,10,12,14,6,4,2,1,0,3,5,7,16,18,26],[26,18,16,7,5,3,0,1,2,4,6,14,12,10,9,8,11,13,15,17,19,27,28],[28,27,19,17,15,13,11,8,9,10,12,14,6,4,2,1,0,3,5,7,16,18,26,29],[29,26,27,28,30,24,20,18,16,7,5,3,0,1,2,4,6,14,12,10,9,8,11,13,15,17,19,22,21,23,25],[25,23,21,22,20,24,30,28,27,26,29,31,18,16,7,5,3,0,1,2,4,6,14,12,10,9,8,11,13,15,17,19],[19,17,18,31,29,26,27,28,30,24,20,22,21,23,25,32,15,13,11,8,9,10,12,14,6,4,2,1,0,3,5,7,16]],[0,1,2,3,4],[(5,[6,7,8,9,10,11,12,13,14,15,16,17,18,19,20,21,22,23,24,25,26,27,28,29,30,31,32,33])]⟩
def pl11x6 : Plan := ⟨[[],[],[1],[1,2],[2,1,3],[],[],[6,5],[5,6,7],[7,6,5,8],[],[],[11,10,8,5,6,7,9],[9,7,6,5,8,10,11,12],[12,11,10,8,5,6,7,9,13,3,1,2,4],[14,13,12,11,10,9,8,7,6,5,4,3,2,1,0],[0,1,2,3,4,5,6,7,8,9,10,11,12,13,14,15],[15,14,13,12,11,10,9,8,7,6,5,4,3,2,1,0,16]],[0,1,2,3,4,5,6,7,8,9,10,11,12],[(13,[]),(14,[15,16]),(17,[])]⟩
def pl12x3 : Plan := ⟨[[],[],[1],[],[3],[3,4,1,2,0],[0,2,1,4,3,5],[],[],[8],[],[10],[5,3,4,1,2,0,6,10,11,8,9,7],[7,9,8,11,10,12,5,3,4,1,2,0,6],[6,0,2,1,4,3,5,12,10,11,8,9,7,13]],[0,1,2,3,4,7,8,9,10,11],[(5,[]),(6,[]),(12,[13,14])]⟩
def pl12x5 : Plan := ⟨[[],[],[1],[1,2,0],[0,2,1,3],[],[],[6],[3,1,2,0,4,6,7,5],[5,7,6,8,3,1,2,0,4],[4,0,2,1,3,8,6,7,5,9]],[0,1,2,5,6,7],[(3,[]),(4,[]),(8,[9,10])]⟩
def pl12x7 : Plan := ⟨[[],[],[1],[],[3],[3,4,1,2,0],[0,2,1,4,3,5],[],[],[8],[],[10],[5,3,4,1,2,0,6,10,11,8,9,7],[7,9,8,11,10,12,5,3,4,1,2,0,6],[6,0,2,1,4,3,5,12,10,11,8,9,7,13]],[0,1,2,3,4,7,8,9,10,11],[(5,[]),(6,[]),(12,[13,14])]⟩
def pl12x9 : Plan := ⟨[[],[],[1],[1,2,0],[0,2,1,3],[],[],[6],[3,1,2,0,4,6,7,5],[5,7,6,8,3,1,2,0,4],[4,0,2,1,3,8,6,7,5,9]],[0,1,2,5,6,7],[(3,[]),(4,[]),(8,[9,10])]⟩
def pl12x29 : Plan := ⟨[[],[0],[0,1],[],[3],[3,4,1,0,2]],[0,1,2,3,4],[(5,[])]⟩
def pl12x35 : Plan := ⟨[[],[0],[],[],[3],[],[5],[0,1,5,6,3,4,2],[2,4,3,6,5,7,0,1],[1,0,7,5,6,3,4,2,8]],[0,2,3,4,5,6],[(1,[]),(7,[8,9])]⟩
def pl22x6 : Plan := ⟨[[],[],[1,0],[0,1,2],[],[],[5,4],[4,5,6],[6,5,4,7,2,1,0,3]],[0,1,2,3,4,5,6,7,8],[]⟩
def pl26x10 : Plan := ⟨[[],[0],[0,1],[1,0,2],[],[],[5],[5,6],[6,5,7],[],[9,7,5,6,8],[8,6,5,7,9,10],[10,9,7,5,6,8,11],[],[13,11,8,6,5,7,9,10,12],[12,10,9,7,5,6,8,11,13,14],[15,14,13,12,11,10,9,8,7,6,5,4,2,0,1,3],[3,1,0,2,4,5,6,7,8,9,10,11,12,13,14,15,16],[16,15,14,13,12,11,10,9,8,7,6,5,4,2,0,1,3,17]],[0,1,2,3,4,5,6,7,8,9,10,11,12,13,14],[(15,[16,17]),(18,[])]⟩
def pl28x8 : Plan := ⟨[[],[0],[0,1],[1,0,2],[],[],[5],[5,6],[6,5,7],[],[9,7,5,6,8],[8,6,5,7,9,10],[10,9,7,5,6,8,11],[12,11,10,9,8,7,6,5,4,2,0,1,3],[3,1,0,2,4,5,6,7,8,9,10,11,12,13],[13,12,11,10,9,8,7,6,5,4,2,0,1,3,14]],[0,1,2,3,4,5,6,7,8,9,10,11,12,13,14],[(15,[])]⟩
def pl36x6 : Plan := ⟨[[],[],[1,0],[0,1,2],[],[],[5,4],[4,5,6],[6,5,4,7,2,1,0,3]],[0,1,2,3,4,5,6,7,8],[]⟩
def pl38x6 : Plan := ⟨[[],[0],[0,1],[1,0,2],[],[4],[4,5],[5,4,6],[6,4,5,7,2,0,1,3],[3,1,0,2,7,5,4,6,8]],[0,1,2,3,4,5,6,7],[(8,[9])]⟩
def pl38x9 : Plan := ⟨[[],[0],[0,1],[],[3],[1,0,2],[2,0,1,5,3,4]],[0,1,2,3,4,5],[(6,[])]⟩
def pl39x6 : Plan := ⟨[[],[],[1,0],[0,1,2],[],[],[5,4],[4,5,6],[6,5,4,7,2,1,0,3],[3,0,1,2,7,4,5,6,8]],[0,1,2,3,4,5,6,7],[(8,[9])]⟩
def pl40x17 : Plan := ⟨[[],[],[1],[1,2,0],[0,2,1,3]],[0,1],[(2,[]),(3,[4])]⟩
def pl40x18 : Plan := ⟨[[],[],[1],[],[3],[3,4,1,2],[2,1,4,3,5],[5,3,4,1,2,6,0],[0,6,2,1,4,3,5,7]],[0,1,2,3],[(4,[5]),(6,[]),(7,[]),(8,[])]⟩
def pl43x15 : Plan := ⟨[[],[0],[0,1],[1,0,2],[],[],[5],[5,6],[6,5,7],[],[9,7,5,6,8],[8,6,5,7,9,10],[10,9,7,5,6,8,11],[11,8,6,5,7,9,10,12],[],[14,12,10,9,7,5,6,8,11,13],[15,14,13,12,11,10,9,8,7,6,5,4,2,0,1,3],[3,1,0,2,4,5,6,7,8,9,10,11,12,13,14,15,16],[16,15,14,13,12,11,10,9,8,7,6,5,4,2,0,1,3,17]],[0,1,2,3,4,5,6,7,8,9,10,11,12,14],[(13,[]),(15,[16,17]),(18,[])]⟩
def pl48x2 : Plan := ⟨[[],[],[1],[1,2],[2,1,3],[3,1,2,4],[4,2,1,3,5,0],[0,5,3,1,2,4,6],[6,4,2,1,3,5,0,7],[7,0,5,3,1,2,4,6,8],[8,6,4,2,1,3,5,0,7,9],[9,7,0,5,3,1,2,4,6,8,10],[6,4,2,1,3,5,0,7],[12,10,8,6,4,2,1,3,5,0,7,9,11],[11,9,7,0,5,3,1,2,4,6,8,10,12,13],[13,12,10,8,6,4,2,1,3,5,0,7,9,11,14],[6,4,2,1,3,5,0,7],[7,0,5,3,1,2,4,6,16],[16,17,14,11,9,7,0,5,3,1,2,4,6,8,10,12,13,15],[15,13,12,10,8,9,11,14,17,16,18,6,4,2,1,3,5,0,7]],[0,1,2,3,4,5,6,7,8,9,10,11,12,13,14,15,16,17,18,19],[]⟩
def pl52x1 : Plan := ⟨[[],[],[1,0],[],[],[4,3],[0,1,2],[2,1,0,6,3,4,5]],[0,1,2,3,4,5,6,7],[]⟩
def pl53x1 : Plan := ⟨[[],[0],[0,1],[1,0,2],[],[4],[4,5],[5,4,6],[6,4,5,7,2,0,1,3],[3,1,0,2,7,5,4,6,8],[8,6,4,5,7,2,0,1,3,9]],[0,1,2,3,4,5,6,7],[(8,[]),(9,[10])]⟩
def pl53x5 : Plan := ⟨[[],[0],[0,1],[1,0,2],[2,0,1,3],[],[],[6],[6,7],[7,6,8],[8,6,7,9],[9,7,6,8,10,5],[5,10,8,6,7,9,11,3,1,0,2,4],[4,2,0,1,3,11,9,7,6,8,10,5,12]],[0,1,2,3,5,6,7,8,9,10,11],[(4,[]),(12,[13])]⟩
def pl53x6 : Plan := ⟨[[],[0],[0,1],[1,0,2],[2,0,1,3],[],[],[6],[6,7],[7,6,8],[8,6,7,9],[9,7,6,8,10,5],[5,10,8,6,7,9,11,3,1,0,2,4],[4,2,0,1,3,11,9,7,6,8,10,5,12]],[0,1,2,3,5,6,7,8,9,10,11],[(4,[]),(12,[13])]⟩
def pl58x1 : Plan := ⟨[[],[],[1],[1,2],[2,1,3],[3,1,2,4],[4,2,1,3,5],[5,3,1,2,4,6],[6,4,2,1,3,5,7],[7,5,3,1,2,4,6,8],[8,6,4,2,1,3,5,7,9],[9,7,5,3,1,2,4,6,8,10],[10,8,6,4,2,1,3,5,7,9,11],[11,9,7,5,3,1,2,4,6,8,10,12],[12,10,8,6,4,2,1,3,5,7,9,11,13],[13,11,9,7,5,3,1,2,4,6,8,10,12,14],[10,8,6,4,2,1,3,5,7,9,11],[11,9,7,5,3,1,2,4,6,8,10,16],[16,10,8,6,4,2,1,3,5,7,9,11,17],[17,11,9,7,5,3,1,2,4,6,8,10,16,18],[18,16,17,19,14,12,10,8,6,4,2,1,3,5,7,9,11,13,15],[15,13,12,14,19,17,16,18,20,10,8,6,4,2,1,3,5,7,9,11],[11,9,7,6,8,10,20,18,16,17,19,14,12,13,15,21,4,2,1,3,5],[22,21,20,19,18,17,16,15,14,13,12,11,10,9,8,7,6,5,4,3,2,1,0],[0,1,2,3,4,5,6,7,8,9,10,11,12,13,14,15,16,17,18,19,20,21,22,23],[23,22,21,20,19,18,17,16,15,14,13,12,11,10,9,8,7,6,5,4,3,2,1,0,24]],[0,1,2,3,4,5,6,7,8,9,10,11,12,13,14,15,16,17,18,19,20,21,22,23,24],[(25,[])]⟩
end Go.Proofs.Ytgoejddmglgogaa
namespace Go.Proofs.Ytgoejddmglgogaa
open Go.Ab Go.RowKit
theorem mixedOk : Try.prog.follows .mixedOrders = true := by kernel_rfl
structure FileS where
  name : ByteArray
  data : List UInt8
def nums (l : List Int) : List (List DV) := l.map fun n => [.int .i64 n]
def strs (l : List ByteArray) : List (List DV) := l.map fun s => [.str s]
def FileS.cs (f : FileS) : List DV := [.str f.name, .sl 1 (u8s f.data)]
structure ActS where
  act : Int
  a : ByteArray
  b : ByteArray
  n : Int
  bytes : List UInt8
  picks : List Int
def ActS.cs (x : ActS) : List DV := [.int .i64 x.act, .str x.a, .str x.b, .int .i64 x.n, .sl 1 (u8s x.bytes), .sl 1 (nums x.picks)]
structure ScriptS where
  files : List FileS
  acts : List ActS
def ScriptS.cells (p : ScriptS) : List AV := [.d (.sl 2 (p.files.map FileS.cs)), .d (.sl 6 (p.acts.map ActS.cs))]
def ScriptS.av (p : ScriptS) : AV := .agg p.cells
structure ActS.ok (x : ActS) : Prop where
  a : x.a.size ≤ 140737488355328
  b : x.b.size ≤ 140737488355328
  bytes : x.bytes.length ≤ 140737488355328
  picks : x.picks.length ≤ 140737488355328
  act : -9223372036854775808 ≤ x.act ∧ x.act < 9223372036854775808
  n : -9223372036854775808 ≤ x.n ∧ x.n < 9223372036854775808
  pick : ∀ k ∈ x.picks, -9223372036854775808 ≤ k ∧ k < 9223372036854775808
structure ScriptS.ok (p : ScriptS) : Prop where
  lf : p.files.length ≤ 140737488355328
  la : p.acts.length ≤ 140737488355328
  f : ∀ f ∈ p.files, f.name.size ≤ 140737488355328 ∧ f.data.length ≤ 140737488355328
  a : ∀ x ∈ p.acts, x.ok
def sumTo {α : Type} (f : α → Nat) (l : List α) (k : Nat) : Nat := ((l.take k).map f).sum
theorem sumTo_succ {α : Type} (f : α → Nat) (l : List α) {k : Nat} (h : k < l.length) : sumTo f l (k + 1) = sumTo f l k + f l[k] := by
  unfold sumTo
  rw [List.take_add_one, List.getElem?_eq_getElem h, List.map_append, List.sum_append]
  rfl
theorem sumTo_le {α : Type} (f : α → Nat) (m : Nat) (l : List α) (h : ∀ x ∈ l, f x ≤ m) : ∀ k, sumTo f l k ≤ k * m
  | 0 => by simp [sumTo]
  | k + 1 => by
    by_cases hk : k < l.length
    · rw [sumTo_succ f l hk, Nat.succ_mul]
      exact Nat.add_le_add (sumTo_le f m l h k) (h _ (List.getElem_mem hk))
    · have : sumTo f l (k + 1) = sumTo f l k := by
        unfold sumTo
        rw [List.take_of_length_le (by omega), List.take_of_length_le (by omega)]
      rw [this]
      exact Nat.le_trans (sumTo_le f m l h k) (Nat.mul_le_mul_right m (Nat.le_succ k))
def ScriptS.heavy (p : ScriptS) : Bool := decide (10000 < sumTo (fun f => f.data.length) p.files 40 + sumTo (fun x => x.bytes.length + x.picks.length) p.acts 40) || decide (40 < p.files.length)
theorem file_of {ds : List DV} (h : DTy tt 4 50 ds) : ∃ f : FileS, ds = f.cs ∧ (f.name.size ≤ 140737488355328 ∧ f.data.length ≤ 140737488355328) := by
  replace h : DTyF (DTy tt 3) [9, 39] ds := h
  obtain ⟨a, b, rfl, h1, c, d, rfl, h2, rfl⟩ := h
  replace h1 : ∃ s, a = [.str s] ∧ s.size ≤ 140737488355328 := h1
  replace h2 : ∃ xs, c = [.sl 1 xs] ∧ xs.length * 1 ≤ 140737488355328 ∧ ∀ x ∈ xs, DTy tt 2 5 x := h2
  obtain ⟨s, rfl, hs⟩ := h1
  obtain ⟨xs, rfl, hl, hx⟩ := h2
  obtain ⟨bs, rfl⟩ := u8_of hx
  exact ⟨⟨s, bs⟩, rfl, hs, by simpa using hl⟩
theorem nums_of {xs : List (List DV)} (h : ∀ x ∈ xs, ∃ n, x = [DV.int .i64 n] ∧ (Lit.int .i64 n).wf = true) : ∃ l : List Int, xs = nums l ∧ ∀ n ∈ l, -9223372036854775808 ≤ n ∧ n < 9223372036854775808 :=
  map_of (f := fun n : Int => [.int .i64 n]) fun x hx => by
    obtain ⟨n, h1, h2⟩ := h x hx
    have hb : -9223372036854775808 ≤ n ∧ n ≤ 9223372036854775807 := by simpa [Lit.wf, IntKind.min, IntKind.max, IntKind.signed, IntKind.bits] using h2
    exact ⟨n, h1, by omega⟩
theorem act_of {ds : List DV} (h : DTy tt 4 42 ds) : ∃ x : ActS, ds = x.cs ∧ x.ok := by
  replace h : DTyF (DTy tt 3) [3, 9, 9, 3, 39, 40] ds := h
  obtain ⟨a1, b1, rfl, h1, a2, b2, rfl, h2, a3, b3, rfl, h3, a4, b4, rfl, h4, a5, b5, rfl, h5, a6, b6, rfl, h6, rfl⟩ := h
  replace h1 : ∃ x, a1 = [.int .i64 x] ∧ (Lit.int .i64 x).wf = true := h1
  replace h2 : ∃ s, a2 = [.str s] ∧ s.size ≤ 140737488355328 := h2
  replace h3 : ∃ s, a3 = [.str s] ∧ s.size ≤ 140737488355328 := h3
  replace h4 : ∃ x, a4 = [.int .i64 x] ∧ (Lit.int .i64 x).wf = true := h4
  replace h5 : ∃ xs, a5 = [.sl 1 xs] ∧ xs.length * 1 ≤ 140737488355328 ∧ ∀ x ∈ xs, DTy tt 2 5 x := h5
  replace h6 : ∃ xs, a6 = [.sl 1 xs] ∧ xs.length * 8 ≤ 140737488355328 ∧ ∀ x ∈ xs, DTy tt 2 3 x := h6
  obtain ⟨x1, rfl, w1⟩ := h1
  obtain ⟨s2, rfl, w2⟩ := h2
  obtain ⟨s3, rfl, w3⟩ := h3
  obtain ⟨x4, rfl, w4⟩ := h4
  obtain ⟨x5, rfl, w5, e5⟩ := h5
  obtain ⟨x6, rfl, w6, e6⟩ := h6
  obtain ⟨bs, rfl⟩ := u8_of e5
  obtain ⟨l, rfl, hl⟩ := nums_of e6
  have b1 : -9223372036854775808 ≤ x1 ∧ x1 ≤ 9223372036854775807 := by simpa [Lit.wf, IntKind.min, IntKind.max, IntKind.signed, IntKind.bits] using w1
  have b4 : -9223372036854775808 ≤ x4 ∧ x4 ≤ 9223372036854775807 := by simpa [Lit.wf, IntKind.min, IntKind.max, IntKind.signed, IntKind.bits] using w4
  refine ⟨⟨x1, s2, s3, x4, bs, l⟩, rfl, ⟨w2, w3, by simpa using w5, ?_, ⟨b1.1, by show x1 < _; omega⟩, ⟨b4.1, by show x4 < _; omega⟩, hl⟩⟩
  have : (nums l).length = l.length := List.length_map ..
  show l.length ≤ _
  omega
theorem script_of {ds : List DV} (h : DTy tt 6 25 ds) : ∃ p : ScriptS, argS ds = p.av ∧ p.ok := by
  replace h : DTyF (DTy tt 5) [22, 23] ds := h
  obtain ⟨a, b, rfl, h1, c, d, rfl, h2, rfl⟩ := h
  replace h1 : ∃ xs, a = [.sl 2 xs] ∧ xs.length * 40 ≤ 140737488355328 ∧ ∀ x ∈ xs, DTy tt 4 50 x := h1
  replace h2 : ∃ xs, c = [.sl 6 xs] ∧ xs.length * 96 ≤ 140737488355328 ∧ ∀ x ∈ xs, DTy tt 4 42 x := h2
  obtain ⟨x1, rfl, w1, e1⟩ := h1
  obtain ⟨x2, rfl, w2, e2⟩ := h2
  obtain ⟨fs, rfl, hf⟩ := map_of (f := FileS.cs) fun x hx => file_of (e1 x hx)
  obtain ⟨al, rfl, ha⟩ := map_of (f := ActS.cs) fun x hx => act_of (e2 x hx)
  simp only [List.length_map] at w1 w2
  exact ⟨⟨fs, al⟩, rfl, ⟨by show fs.length ≤ _; omega, by show al.length ≤ _; omega, hf, ha⟩⟩
end Go.Proofs.Ytgoejddmglgogaa
namespace Go.Proofs.Ytgoejddmglgogaa
open Go.Ab Go.RowKit
attribute [local irreducible] ACalls AW ADraw Into
def gc (n : Nat) : Bool := (decide (97 ≤ n) && decide (n ≤ 122)) || (decide (48 ≤ n) && decide (n ≤ 57)) || decide (n = 46) || decide (n = 45)
def goodS (s : ByteArray) : Bool := decide (1 ≤ s.size) && decide (s.size ≤ 32) && s.data.toList.all fun b => gc b.toNat
theorem good_short {s : ByteArray} (h : s.size < 1 ∨ 32 < s.size) : goodS s = false := by
  unfold goodS
  rcases h with h | h
  · rw [decide_eq_false (show ¬ 1 ≤ s.size by omega)]; rfl
  · rw [decide_eq_false (show ¬ s.size ≤ 32 by omega)]; simp
theorem good_at {s : ByteArray} {k : Nat} (hk : k < s.size) (h1 : 1 ≤ s.size) (h2 : s.size ≤ 32) (ht : (s.data.toList.take k).all (fun b => gc b.toNat) = true) :
    (gc (s[k]'hk).toNat = true → (s.data.toList.take (k + 1)).all (fun b => gc b.toNat) = true) ∧ (gc (s[k]'hk).toNat = false → goodS s = false) := by
  have hk' : k < s.data.toList.length := by simpa using hk
  have e : s.data.toList[k]? = some (s[k]'hk) := by rw [List.getElem?_eq_getElem hk']; rfl
  constructor
  · intro hg
    rw [List.take_add_one, List.all_append, ht, e]
    simp [hg]
  · intro hg
    unfold goodS
    have : s.data.toList.all (fun b => gc b.toNat) = false := by
      rw [Bool.eq_false_iff]
      intro ha
      rw [List.all_eq_true] at ha
      have := ha _ (List.mem_of_getElem? e)
      rw [hg] at this
      cases this
    rw [this]; simp
theorem good_end {s : ByteArray} (h1 : 1 ≤ s.size) (h2 : s.size ≤ 32) (ht : (s.data.toList.take s.size).all (fun b => gc b.toNat) = true) : goodS s = true := by
  unfold goodS
  have e : s.data.toList.take s.size = s.data.toList := List.take_of_length_le (by simp only [Array.length_toList]; exact Nat.le_refl _)
  rw [e] at ht
  rw [ht]; simp [h1, h2]
theorem good_ok (s : ByteArray) : ACalls Try.prog 16 [.d (.str s)] [] (fun av L => av = .d (.bool (goodS s)) ∧ L = []) := by
  refine acalls_go ttOk zOk foOk Try.func16 rfl Try.ntmps16 rfl false rfl ?_
  conv => whnf
  refine scope_go ttOk zOk foOk (σ := Nat) (fun k => ([(0, .d (.str s)), (3, .d (.int .i64 k))], []))
    (fun l k => (l = 1 ∧ k ≤ s.size ∧ 1 ≤ s.size ∧ s.size ≤ 32 ∧ (s.data.toList.take k).all (fun b => gc b.toNat) = true) ∨ (l = 0 ∧ goodS s = false)) (fun l k => if l = 1 then s.size - k + 1 else 0) ?_ ?_
  · intro l rest hl k hi
    rcases hi with ⟨rfl, hk, h1, h2, ht⟩ | ⟨rfl, hg⟩
    · have e := Option.some.inj (show some _ = some rest from hl)
      subst e
      clear hl
      conv => whnf
      refine sp_eq (fun h => ?_) (fun h => ?_)
      · conv => whnf
        have : k = s.size := by omega
        subst this
        exact ⟨by rw [good_end h1 h2 ht]; rfl, rfl⟩
      · conv => whnf
        have hlt : k < s.size := by omega
        obtain ⟨hgt, hgf⟩ := good_at hlt h1 h2 ht
        obtain ⟨c0, hc0⟩ : ∃ c0, s[k] = c0 := ⟨_, rfl⟩
        rw [hc0] at hgt hgf
        refine ⟨by omega, c0, by simp [hlt, hc0], ?_⟩
        obtain ⟨c, hc⟩ : ∃ c, c0.toNat = c := ⟨_, rfl⟩
        rw [hc] at hgt hgf ⊢
        conv => whnf
        have okay : gc c = true → ∀ z, z = IntKind.i64.wrap ((k : Int) + 1) → z = ((k + 1 : Nat) : Int) ∧ _ := fun hg z hz => ⟨by rw [hz, wrapI (by omega)]; omega, hgt hg⟩
        repeat' (first
          | (refine sp_dec (fun _ => ?_) (fun _ => ?_) <;> (conv => whnf))
          | (refine sp_eq (fun _ => ?_) (fun _ => ?_) <;> (conv => whnf)))
        all_goals first
          | (refine AW_go ttOk zOk foOk ?_
             conv => whnf
             have hg : gc c = false := by unfold gc; simp; omega
             exact ⟨by rw [hgf hg]; rfl, rfl⟩)
          | (have hg : gc c = true := by unfold gc; simp; omega
             intro z hz
             obtain ⟨hz, hall⟩ := okay hg z hz
             subst hz
             conv => whnf
             refine into_of [0, 3] ?_
             conv => whnf
             exact ⟨k + 1, rfl, rfl, .inl ⟨rfl, by omega, h1, h2, hall⟩, by simp; omega⟩)
    · have e := Option.some.inj (show some _ = some rest from hl)
      subst e
      clear hl
      conv => whnf
      exact ⟨by rw [hg]; rfl, rfl⟩
  · intro pass
    conv => whnf
    refine sp_dec (fun h => ?_) (fun h => ?_)
    · conv => whnf
      refine into_of [0, 3] ?_
      conv => whnf
      exact ⟨0, rfl, rfl, .inr ⟨rfl, good_short (.inl (by omega))⟩⟩
    · conv => whnf
      refine sp_dec (fun h2 => ?_) (fun h2 => ?_)
      · conv => whnf
        refine into_of [0, 3] ?_
        conv => whnf
        exact ⟨0, rfl, rfl, .inr ⟨rfl, good_short (.inr (by omega))⟩⟩
      · conv => whnf
        refine aw_at (σ := Unit) (fun _ => ([(0, .d (.str s)), (3, .d (.int .i64 (0 : Nat)))], [])) (fun _ => True) [0, 3] ?_ ?_
        · conv => whnf
          exact ⟨(), rfl, rfl, trivial⟩
        · intro _ _
          exact pass 1 _ rfl 0 (.inl ⟨rfl, Nat.zero_le _, by omega, by omega, rfl⟩)
end Go.Proofs.Ytgoejddmglgogaa
namespace Go.Proofs.Ytgoejddmglgogaa
open Go.Ab Go.RowKit
structure Fl where
  name : ByteArray
  b : Nat
  safe : List UInt8
  seen : List UInt8
structure Dk where
  calls : Int
  off : Bool
  upto : Int
  fs : List Fl
def Fl.ent (f : Fl) : KV × MV := (.one (.str f.name), .box f.b [.sl 1 (u8s f.safe), .sl 1 (u8s f.seen)])
def Dk.L (d : Dk) : List AB := [.cells [.d (.int .i64 d.calls), .d (.bool d.off), .d (.int .i64 d.upto), .map 1], .map (d.fs.map Fl.ent)]
def Dk.spend (d : Dk) : Dk :=
  { d with calls := IntKind.i64.wrap (d.calls + 1), off := d.off || (decide (d.upto > 0) && decide (IntKind.i64.wrap (d.calls + 1) ≥ d.upto)) }
end Go.Proofs.Ytgoejddmglgogaa
namespace Go.Proofs.Ytgoejddmglgogaa
open Go.Ab Go.RowKit
attribute [local irreducible] ACalls AW ADraw Into
set_option maxRecDepth 100000 in
theorem spend_ok (d : Dk) : ACalls Try.prog 58 [.ptr 0 0] d.L (fun av L => av = .tup [] ∧ L = d.spend.L) := by
  refine acalls_go ttOk zOk foOk Try.func58 rfl Try.ntmps58 rfl false rfl ?_
  conv => whnf
  intro z hz
  conv => whnf
  refine draw_pl ttOk zOk foOk mixedOk pl58x1 (by kernel_rfl) ?_
  conv => whnf
  repeat' (first
    | (refine ⟨_, fun K hK => (by (conv => whnf); exact hK), ?_⟩; (conv => whnf))
    | (refine sp_dec (fun _ => ?_) (fun _ => ?_) <;> (conv => whnf))
    | (refine sp_any (fun _ => ?_) (fun _ => ?_) <;> (conv => whnf)))
  all_goals
    subst hz
    simp_all [Dk.spend, Dk.L, avOf1]
    try omega
end Go.Proofs.Ytgoejddmglgogaa
namespace Go.Proofs.Ytgoejddmglgogaa
open Go.Ab Go.RowKit Go.MapKept
attribute [local irreducible] ACalls AW ADraw Into
def findF (n : ByteArray) : List Fl → Nat → Option (Nat × Fl)
  | [], _ => none
  | f :: r, j => if n == f.name then some (j, f) else findF n r (j + 1)
def Fl.box (f : Fl) : MV := .box f.b [.sl 1 (u8s f.safe), .sl 1 (u8s f.seen)]
theorem mfind_ent (n : ByteArray) : ∀ (fs : List Fl) (j : Nat), mfind (.one (.str n)) (fs.map Fl.ent) j = some ((findF n fs j).map fun p => (p.1, p.2.box))
  | [], j => rfl
  | f :: r, j => by
    simp only [List.map_cons, Fl.ent, mfind, keqM, findF]
    cases h : n == f.name with
    | true => rfl
    | false => exact mfind_ent n r (j + 1)
def Dk.call (d : Dk) (ok : Bool) (n : ByteArray) (there : Bool) : AV × Int × Dk :=
  if !ok || !goodS n then (.d .nilp, 1, d) else
  if d.spend.off then (.d .nilp, 9, d.spend) else
  match findF n d.fs 0 with
  | none => if there then (.d .nilp, 3, d.spend) else (.d .nilp, 0, d.spend)
  | some (_, f) => (.mp 1 f.b 0, 0, d.spend)
set_option maxRecDepth 100000 in
theorem call_ok (d : Dk) (ok : Bool) (n : ByteArray) (there : Bool) : ACalls Try.prog 44 [.ptr 0 0, .d (.bool ok), .d (.str n), .d (.bool there)] d.L (fun av L => av = .tup [(d.call ok n there).1, .d (.int .i64 (d.call ok n there).2.1)] ∧ L = (d.call ok n there).2.2.L) := by
  refine acalls_go ttOk zOk foOk Try.func44 rfl Try.ntmps44 rfl false rfl ?_
  conv => whnf
  refine sp_not ?_
  refine sp_any (fun hok => ?_) (fun hok => ?_)
  · conv => whnf
    refine (good_ok n).mono ?_
    rintro _ _ ⟨rfl, rfl⟩
    conv => whnf
    refine sp_not ?_
    refine sp_any (fun hg => ?_) (fun hg => ?_)
    · conv => whnf
      refine (spend_ok d).mono ?_
      rintro _ _ ⟨rfl, rfl⟩
      conv => whnf
      refine ⟨_, mfind_ent n d.fs 0, ?_⟩
      cases hf : findF n d.fs 0 with
      | none =>
        conv => whnf
        refine sp_any (fun ho => ?_) (fun ho => ?_)
        · conv => whnf
          exact ⟨by simp [Dk.call, hok, hg, ho, avOf1], by simp [Dk.call, hok, hg, ho]; simp [Dk.L, ho]⟩
        · conv => whnf
          refine sp_any (fun ht => ?_) (fun ht => ?_)
          · conv => whnf
            exact ⟨by simp [Dk.call, hok, hg, ho, hf, ht, avOf1], by simp [Dk.call, hok, hg, ho, hf, ht]; simp [Dk.L, ho]⟩
          · conv => whnf
            exact ⟨by simp [Dk.call, hok, hg, ho, hf, ht, avOf1], by simp [Dk.call, hok, hg, ho, hf, ht]; simp [Dk.L, ho]⟩
      | some p =>
        obtain ⟨i, f⟩ := p
        conv => whnf
        refine sp_any (fun ho => ?_) (fun ho => ?_)
        · conv => whnf
          exact ⟨by simp [Dk.call, hok, hg, ho, avOf1], by simp [Dk.call, hok, hg, ho]; simp [Dk.L, ho]⟩
        · conv => whnf
          refine sp_any (fun ht => ?_) (fun ht => ?_)
          · conv => whnf
            exact ⟨by simp [Dk.call, hok, hg, ho, hf, ht, avOf1], by simp [Dk.call, hok, hg, ho, hf, ht]; simp [Dk.L, ho]⟩
          · conv => whnf
            exact ⟨by simp [Dk.call, hok, hg, ho, hf, ht, avOf1], by simp [Dk.call, hok, hg, ho, hf, ht]; simp [Dk.L, ho]⟩
    · conv => whnf
      exact ⟨by simp [Dk.call, hok, hg, avOf1], by simp [Dk.call, hok, hg]; rfl⟩
  · conv => whnf
    exact ⟨by simp [Dk.call, hok, avOf1], by simp [Dk.call, hok]; rfl⟩
end Go.Proofs.Ytgoejddmglgogaa
namespace Go.Proofs.Ytgoejddmglgogaa
open Go.Ab Go.RowKit
def lessS (a b : ByteArray) : Bool := Op.bytesLess a.toList b.toList
theorem bl_irr : ∀ (x : List UInt8), Op.bytesLess x x = false
  | [] => rfl
  | a :: x => by
    simp only [Op.bytesLess, bl_irr x, Bool.and_false, Bool.or_false]
    simp
theorem bl_trans : ∀ (x y z : List UInt8), Op.bytesLess x y = true → Op.bytesLess y z = true → Op.bytesLess x z = true
  | x, y, [], _, h => by cases y <;> simp [Op.bytesLess] at h
  | x, [], c :: z, h, _ => by cases x <;> simp [Op.bytesLess] at h
  | [], b :: y, c :: z, _, _ => rfl
  | a :: x, b :: y, c :: z, h1, h2 => by
    simp only [Op.bytesLess, Bool.or_eq_true, Bool.and_eq_true, beq_iff_eq, decide_eq_true_eq] at h1 h2 ⊢
    rcases h1 with h1 | ⟨rfl, h1⟩
    · rcases h2 with h2 | ⟨rfl, h2⟩
      · exact .inl (UInt8.lt_trans h1 h2)
      · exact .inl h1
    · rcases h2 with h2 | ⟨rfl, h2⟩
      · exact .inl h2
      · exact .inr ⟨rfl, bl_trans x y z h1 h2⟩
theorem bl_total : ∀ (x y : List UInt8), Op.bytesLess x y = false → Op.bytesLess y x = false → x = y
  | [], [], _, _ => rfl
  | [], b :: y, h, _ => by simp [Op.bytesLess] at h
  | a :: x, [], _, h => by simp [Op.bytesLess] at h
  | a :: x, b :: y, h1, h2 => by
    simp only [Op.bytesLess, Bool.or_eq_false_iff, Bool.and_eq_false_iff, decide_eq_false_iff_not, beq_eq_false_iff_ne] at h1 h2
    have hab : a = b := by
      have h3 := h1.1
      have h4 := h2.1
      rw [UInt8.lt_iff_toNat_lt] at h3 h4
      exact UInt8.toNat_inj.1 (by omega)
    subst hab
    have e1 := h1.2.resolve_left (fun h => h rfl)
    have e2 := h2.2.resolve_left (fun h => h rfl)
    rw [bl_total x y e1 e2]
theorem toList_inj {a b : ByteArray} (h : a.toList = b.toList) : a = b := by
  rw [ByteArray.toList_eq, ByteArray.toList_eq] at h
  cases a; cases b
  simp only at h
  congr 1
  exact Array.toList_inj.1 h
theorem ba_beq (a b : ByteArray) : (a == b) = decide (a = b) := by
  show (a.data == b.data) = _
  rw [Bool.eq_iff_iff]
  simp only [beq_iff_eq, decide_eq_true_eq]
  exact ⟨fun h => by cases a; cases b; simp_all, fun h => by rw [h]⟩
theorem lessS_irr (a : ByteArray) : lessS a a = false := bl_irr _
theorem lessS_trans {a b c : ByteArray} (h1 : lessS a b = true) (h2 : lessS b c = true) : lessS a c = true := bl_trans _ _ _ h1 h2
theorem findF_none {n : ByteArray} : ∀ {fs : List Fl} {j : Nat}, (∀ f ∈ fs, f.name ≠ n) → findF n fs j = none
  | [], _, _ => rfl
  | f :: r, j, h => by
    simp only [findF]
    have : (n == f.name) = false := by
      rw [ba_beq]
      exact decide_eq_false fun e => h f (by simp) e.symm
    rw [this]
    exact findF_none fun g hg => h g (by simp [hg])
def prevLess (files : List FileS) (k : Nat) (n : ByteArray) : Bool := match files[k - 1]? with | some g => lessS g.name n | none => false
def mayAt (files : List FileS) (k : Nat) : Bool :=
  match files[k]? with
  | some f => goodS f.name && decide (f.data.length ≤ 1048576) && (decide (k = 0) || prevLess files k f.name)
  | none => false
theorem mayAt_eq {files : List FileS} {k : Nat} {f : FileS} (h : files[k]? = some f) : mayAt files k = (goodS f.name && decide (f.data.length ≤ 1048576) && (decide (k = 0) || prevLess files k f.name)) := by unfold mayAt; rw [h]
theorem prevLess_eq {files : List FileS} {k : Nat} {g : FileS} (h : files[k - 1]? = some g) (n : ByteArray) : prevLess files k n = lessS g.name n := by unfold prevLess; rw [h]
def mayNew (files : List FileS) : Bool := (List.range files.length).all (mayAt files) && decide (files.length ≤ 16)
theorem may_lt {files : List FileS} {k : Nat} : ∀ {j i : Nat}, (∀ m, m ≤ j → mayAt files m = true) → i < j → ∀ {f g : FileS}, files[i]? = some f → files[j]? = some g → lessS f.name g.name = true
  | 0, i, _, h, _, _, _, _ => by omega
  | j + 1, i, hm, h, f, g, hf, hg => by
    have h1 := hm (j + 1) (Nat.le_refl _)
    unfold mayAt at h1
    rw [hg] at h1
    simp only [Bool.and_eq_true, Bool.or_eq_true] at h1
    have h2 := h1.2.resolve_left (by simp)
    unfold prevLess at h2
    simp only [Nat.add_sub_cancel] at h2
    cases hj : files[j]? with
    | none => rw [hj] at h2; cases h2
    | some x =>
      rw [hj] at h2
      rcases Nat.lt_or_ge i j with hij | hij
      · exact lessS_trans (may_lt (k := k) (fun m hmm => hm m (by omega)) hij hf hj) h2
      · have : i = j := by omega
        subst this
        rw [hf] at hj; cases hj
        exact h2
def newFl (fs : List Fl) (files : List FileS) : Prop := fs.map (fun f => (f.name, f.safe, f.seen)) = files.map fun f => (f.name, f.data, f.data)
theorem new_none {files : List FileS} {k : Nat} {fs : List Fl} {f : FileS} (hf : newFl fs (files.take k)) (hm : ∀ i, i ≤ k → mayAt files i = true) (hk : files[k]? = some f) (j : Nat) : findF f.name fs j = none := by
  refine findF_none fun g hg e => ?_
  have h1 : (g.name, g.safe, g.seen) ∈ fs.map (fun f => (f.name, f.safe, f.seen)) := List.mem_map.2 ⟨g, hg, rfl⟩
  rw [hf] at h1
  obtain ⟨x, hx, he⟩ := List.mem_map.1 h1
  obtain ⟨i, hi⟩ := List.mem_iff_getElem?.1 hx
  rw [List.getElem?_take] at hi
  split at hi
  · rename_i hik
    have := may_lt (k := k) hm hik hi hk
    simp only [Prod.mk.injEq] at he
    rw [he.1, e, lessS_irr] at this
    cases this
  · cases hi
end Go.Proofs.Ytgoejddmglgogaa
/-
  DERIVED: THE SHELF's CONTRACTS AT THIS DUMP, IN PLAIN WORDS (tools/lay-plain.mjs out of 'TrySortedShelf.lean', which tools/lay-shelf.mjs wrote): THE SAME DECLARATIONS UNDER THE SAME NAMES: 'import', 'namespace', 'open', 'def', 'theorem' AND NOTHING ELSE: no command of the shelf's: FOR A HAND-IN. Each laying: the table of numbers ('.._ren') and one theorem, a field a fact of the dump's own or the kernel's comparison; each contract: ONE APPLICATION.
-/
namespace Go.Proofs
open Go.Shelf
def Try.keys70_ren : Go.Shelf.Ren := ⟨fun | 7 => 50 | 10 => 61 | n => n, fun | 23 => 46 | 26 => 9 | 3 => 53 | 28 => 94 | 0 => 0 | 27 => 93 | 33 => 52 | 4 => 4 | n => n, fun | n => n⟩
theorem Try.keys70 : Go.Proofs.SlLaysZ.n7 Try.prog Try.keys70_ren := {
  mixed := by kernel_rfl
  f7 := ⟨Try.f50.name, by decide, Try.func50.trans (congrArg some (by kernel_rfl))⟩
  f10 := ⟨Try.f61.name, by decide, Try.func61.trans (congrArg some (by kernel_rfl))⟩
  t0 := Try.underlying0
  a0 := Try.isAgg0
  z0 := Try.sizeOf0
  v0 := Try.zeroValue0
  t4 := Try.underlying4
  a4 := Try.isAgg4
  z4 := Try.sizeOf4
  v4 := Try.zeroValue4
  t23 := Try.underlying46
  a23 := Try.isAgg46
  z23 := Try.sizeOf46
  v23 := Try.zeroValue46
  t26 := Try.underlying9
  a26 := Try.isAgg9
  z26 := Try.sizeOf9
  v26 := Try.zeroValue9
  t27 := Try.underlying93
  a27 := Try.isAgg93
  z27 := Try.sizeOf93
  v27 := Try.zeroValue93
  t28 := Try.underlying94
  a28 := Try.isAgg94
  z28 := Try.sizeOf94
  v28 := Try.zeroValue94
  t33 := Try.underlying52
  a33 := Try.isAgg52
  z33 := Try.sizeOf52
  v33 := Try.zeroValue52 }
def Try.sorted69_ren : Go.Shelf.Ren := ⟨fun | 6 => 49 | 8 => 59 | 9 => 60 | 11 => 64 | 13 => 66 | 12 => 65 | 23 => 76 | 24 => 77 | 14 => 67 | 15 => 68 | 16 => 69 | 17 => 70 | 18 => 71 | 19 => 72 | 20 => 73 | 21 => 74 | 22 => 75 | 25 => 78 | 26 => 79 | 27 => 80 | 28 => 81 | 29 => 82 | 30 => 83 | 31 => 84 | n => n, fun | 26 => 9 | 28 => 94 | 24 => 76 | 0 => 0 | 3 => 3 | 37 => 90 | 48 => 116 | 50 => 118 | 4 => 4 | 40 => 108 | 39 => 107 | 45 => 113 | 5 => 5 | 9 => 9 | 51 => 119 | 55 => 123 | 57 => 125 | 58 => 96 | 33 => 52 | n => n, fun | n => n⟩
theorem Try.sorted69 : Go.Proofs.SlLaysZ.n6 Try.prog Try.sorted69_ren := {
  mixed := by kernel_rfl
  f6 := ⟨Try.f49.name, by decide, Try.func49.trans (congrArg some (by kernel_rfl))⟩
  f8 := ⟨Try.f59.name, by decide, Try.func59.trans (congrArg some (by kernel_rfl))⟩
  f11 := ⟨Try.f64.name, by decide, Try.func64.trans (congrArg some (by kernel_rfl))⟩
  t0 := Try.underlying0
  a0 := Try.isAgg0
  z0 := Try.sizeOf0
  v0 := Try.zeroValue0
  t24 := Try.underlying76
  a24 := Try.isAgg76
  z24 := Try.sizeOf76
  v24 := Try.zeroValue76
  t26 := Try.underlying9
  a26 := Try.isAgg9
  z26 := Try.sizeOf9
  v26 := Try.zeroValue9
  t28 := Try.underlying94
  a28 := Try.isAgg94
  z28 := Try.sizeOf94
  v28 := Try.zeroValue94
  i26 := by kernel_rfl }
def Try.sort104_ren : Go.Shelf.Ren := ⟨fun | 6 => 60 | 8 => 66 | 9 => 65 | 19 => 76 | 20 => 77 | 21 => 67 | 22 => 68 | 23 => 69 | 24 => 70 | 25 => 71 | 26 => 72 | 27 => 73 | 28 => 74 | 29 => 75 | 36 => 78 | 31 => 79 | 32 => 80 | 37 => 81 | 38 => 82 | 39 => 83 | 41 => 84 | n => n, fun | 27 => 76 | 29 => 9 | 3 => 3 | 32 => 90 | 26 => 76 | 0 => 0 | 44 => 116 | 46 => 118 | 4 => 4 | 36 => 108 | 35 => 107 | 41 => 113 | 5 => 5 | 9 => 9 | 53 => 119 | 57 => 123 | 63 => 125 | 64 => 96 | n => n, fun | n => n⟩
theorem Try.sort104 : Go.Proofs.SlLaysM.n6 Try.prog Try.sort104_ren := {
  mixed := by kernel_rfl
  f6 := ⟨Try.f60.name, by decide, Try.func60.trans (congrArg some (by kernel_rfl))⟩
  f8 := Try.func66.trans (congrArg some (by kernel_rfl))
  f9 := ⟨Try.f65.name, by decide, Try.func65.trans (congrArg some (by kernel_rfl))⟩
  f19 := Try.func76.trans (congrArg some (by kernel_rfl))
  f20 := Try.func77.trans (congrArg some (by kernel_rfl))
  f21 := ⟨Try.f67.name, by decide, Try.func67.trans (congrArg some (by kernel_rfl))⟩
  f22 := ⟨Try.f68.name, by decide, Try.func68.trans (congrArg some (by kernel_rfl))⟩
  f23 := ⟨Try.f69.name, by decide, Try.func69.trans (congrArg some (by kernel_rfl))⟩
  f24 := ⟨Try.f70.name, by decide, Try.func70.trans (congrArg some (by kernel_rfl))⟩
  f25 := ⟨Try.f71.name, by decide, Try.func71.trans (congrArg some (by kernel_rfl))⟩
  f26 := ⟨Try.f72.name, by decide, Try.func72.trans (congrArg some (by kernel_rfl))⟩
  f27 := ⟨Try.f73.name, by decide, Try.func73.trans (congrArg some (by kernel_rfl))⟩
  f28 := ⟨Try.f74.name, by decide, Try.func74.trans (congrArg some (by kernel_rfl))⟩
  f29 := ⟨Try.f75.name, by decide, Try.func75.trans (congrArg some (by kernel_rfl))⟩
  f31 := Try.func79.trans (congrArg some (by kernel_rfl))
  f32 := Try.func80.trans (congrArg some (by kernel_rfl))
  f36 := ⟨Try.f78.name, by decide, Try.func78.trans (congrArg some (by kernel_rfl))⟩
  f37 := ⟨Try.f81.name, by decide, Try.func81.trans (congrArg some (by kernel_rfl))⟩
  f38 := ⟨Try.f82.name, by decide, Try.func82.trans (congrArg some (by kernel_rfl))⟩
  f39 := ⟨Try.f83.name, by decide, Try.func83.trans (congrArg some (by kernel_rfl))⟩
  f41 := ⟨Try.f84.name, by decide, Try.func84.trans (congrArg some (by kernel_rfl))⟩
  t0 := Try.underlying0
  a0 := Try.isAgg0
  z0 := Try.sizeOf0
  v0 := Try.zeroValue0
  t3 := Try.underlying3
  a3 := Try.isAgg3
  z3 := Try.sizeOf3
  v3 := Try.zeroValue3
  t4 := Try.underlying4
  a4 := Try.isAgg4
  z4 := Try.sizeOf4
  v4 := Try.zeroValue4
  t5 := Try.underlying5
  a5 := Try.isAgg5
  z5 := Try.sizeOf5
  v5 := Try.zeroValue5
  t9 := Try.underlying9
  a9 := Try.isAgg9
  z9 := Try.sizeOf9
  v9 := Try.zeroValue9
  t26 := Try.underlying76
  a26 := Try.isAgg76
  z26 := Try.sizeOf76
  v26 := Try.zeroValue76
  t27 := Try.underlying76
  a27 := Try.isAgg76
  z27 := Try.sizeOf76
  v27 := Try.zeroValue76
  t29 := Try.underlying9
  a29 := Try.isAgg9
  z29 := Try.sizeOf9
  v29 := Try.zeroValue9
  t32 := Try.underlying90
  a32 := Try.isAgg90
  z32 := Try.sizeOf90
  v32 := Try.zeroValue90
  t35 := Try.underlying107
  a35 := Try.isAgg107
  z35 := Try.sizeOf107
  v35 := Try.zeroValue107
  t36 := Try.underlying108
  a36 := Try.isAgg108
  z36 := Try.sizeOf108
  v36 := Try.zeroValue108
  t41 := Try.underlying113
  a41 := Try.isAgg113
  z41 := Try.sizeOf113
  v41 := Try.zeroValue113
  t44 := Try.underlying116
  a44 := Try.isAgg116
  z44 := Try.sizeOf116
  v44 := Try.zeroValue116
  t46 := Try.underlying118
  a46 := Try.isAgg118
  z46 := Try.sizeOf118
  v46 := Try.zeroValue118
  t53 := Try.underlying119
  a53 := Try.isAgg119
  z53 := Try.sizeOf119
  v53 := Try.zeroValue119
  t57 := Try.underlying123
  a57 := Try.isAgg123
  z57 := Try.sizeOf123
  v57 := Try.zeroValue123
  t63 := Try.underlying125
  a63 := Try.isAgg125
  z63 := Try.sizeOf125
  v63 := Try.zeroValue125
  t64 := Try.underlying96
  a64 := Try.isAgg96
  z64 := Try.sizeOf96
  v64 := Try.zeroValue96 }
open Go.RowKit Go.Maps Go.Sort in
theorem Try.sorts69 (m : Nat) : AnyZ.SortsIn Try.prog Try.sorted69_ren Fence.wide m :=
  ⟨fun blk off cap ss W hH hblk hsz => callsIn_wide.2 (AnyM.slices_Sort_string Try.sort104 blk off cap ss W hH hblk hsz),
   fun p cap W => callsIn_wide.2 (AnyM.slices_Sort_string_none Try.sort104 p cap W)⟩
end Go.Proofs
namespace Go.Proofs.Ytgoejddmglgogaa
open Go Go.Ab Go.RowKit Go.Maps Go.Sort Go.Shelf Go.MapKept
theorem bl_lt : ∀ (x y : List UInt8), Op.bytesLess x y = true ↔ x < y
  | [], [] => by simp [Op.bytesLess]
  | [], b :: y => by simp [Op.bytesLess]
  | a :: x, [] => by simp [Op.bytesLess]
  | a :: x, b :: y => by
    rw [List.cons_lt_cons_iff]
    simp only [Op.bytesLess, Bool.or_eq_true, Bool.and_eq_true, beq_iff_eq, decide_eq_true_eq, bl_lt x y]
theorem insert_perm {H : Type} (x : Lit × DataW H) : ∀ l : List (Lit × DataW H), (DataW.insert x l).Perm (x :: l)
  | [] => List.Perm.refl _
  | y :: r => by
    unfold DataW.insert
    split
    · exact List.Perm.refl _
    · exact ((insert_perm x r).cons y).trans (List.Perm.swap x y r)
theorem foldr_perm {H : Type} : ∀ l : List (Lit × DataW H), (l.foldr DataW.insert []).Perm l
  | [] => List.Perm.refl _
  | x :: l => (insert_perm x _).trans ((foldr_perm l).cons x)
def baOf (l : List UInt8) : ByteArray := ⟨l.toArray⟩
theorem baOf_toList (b : ByteArray) : baOf b.toList = b := by
  rw [ByteArray.toList_eq]; rfl
theorem toList_baOf (l : List UInt8) : (baOf l).toList = l := by
  rw [ByteArray.toList_eq]; rfl
theorem toList_data (b : ByteArray) : b.data.toList = b.toList := by rw [ByteArray.toList_eq]
theorem vme_keys {rd : Addr → Value → Prop} {w : World} : ∀ {es : List (KV × MV)} {ns : List ByteArray} {us : List MapEntry}, es.map (·.1) = ns.map (fun n => KV.one (.str n)) → VME rd w es us → us.map (·.key) = ns.map Value.string
  | [], [], us, _, h => by simp only [VME] at h; subst h; rfl
  | [], n :: ns, _, h, _ => by simp at h
  | e :: es, [], _, h, _ => by simp at h
  | (k, m) :: es, n :: ns, us, h, hv => by
    simp only [VME] at hv
    obtain ⟨u, us', rfl, h1, _, h3⟩ := hv
    simp only [List.map_cons, List.cons.injEq] at h
    obtain ⟨rfl, h⟩ := h
    simp only [VKV, VD] at h1
    simp only [List.map_cons, h1.2, vme_keys h h3]
theorem strs_VDs {rd : Addr → Value → Prop} : ∀ (l : List ByteArray), VDs rd (strs l).flatten (l.map Value.string)
  | [] => by simp [strs, VDs, Cs]
  | b :: bs => by
    simp only [strs, List.map_cons, List.flatten_cons, List.singleton_append, VDs, Cs]
    exact ⟨_, _, rfl, rfl, by simp [VD], by simpa [strs, VDs] using strs_VDs bs⟩
def risingS (l : List ByteArray) : Prop := l.Pairwise fun a b => lessS a b = true
set_option maxRecDepth 100000 in
theorem sorted_ok (es : List (KV × MV)) (ns : List ByteArray) (hk : es.map (·.1) = ns.map (fun n => KV.one (.str n))) (hnd : ns.Nodup) (hl : ns.length ≤ 1000000) (hsz : ∀ n ∈ ns, n.size ≤ maxLen) :
    ACalls Try.prog 49 [.fn 61 [.ptr 0 0]] [.cells [.map 1], .map es] (fun av L => av = .arr 2 ∧ ∃ ss : List ByteArray, ss.Perm ns ∧ risingS ss ∧ L = [.cells [.map 1], .map es, .row 9 1 (strs ss) false]) := by
  intro c vs hc hL0 hs hv
  simp only [VRt, VR] at hv
  obtain ⟨u, us', hvs, ⟨caps, rfl, u1, us1, hcaps, ⟨b0, hp, rfl⟩, rfl⟩, rfl⟩ := hv
  obtain ⟨ab, ha, _, hE0⟩ := hp
  have hb0 := hs.blk 0 _ rfl
  rw [hE0] at hb0
  simp only [BR] at hb0
  obtain ⟨b0', cur, e0, heq, hh0, hcs⟩ := hb0
  cases heq
  simp only [VRs, VR] at hcs
  obtain ⟨u2, us2, hcur, _, ⟨b1, hp1, rfl⟩, rfl⟩ := hcs
  obtain ⟨ab1, _, _, hE1⟩ := hp1
  have hb1 := hs.blk 1 _ rfl
  rw [hE1] at hb1
  simp only [BR] at hb1
  obtain ⟨b1', ents, clock, heq, hh1, hvme, hborn, hclock⟩ := hb1
  cases heq
  have hkeys := vme_keys hk hvme
  have hlen : ents.toList.length = ns.length := by have := congrArg List.length hkeys; simpa using this
  have hrd : ∀ x ∈ ents.toList, ∃ n ∈ ns, x.key = .string n := by
    intro x hx
    have : x.key ∈ ents.toList.map (·.key) := List.mem_map.2 ⟨x, hx, rfl⟩
    rw [hkeys] at this
    obtain ⟨n, h1, h2⟩ := List.mem_map.1 this
    exact ⟨n, h1, h2.symm⟩
  have hu9 : Try.prog.underlying 9 = some .string := Try.underlying9
  have hrd2 : ∀ x ∈ ents.toList, ∀ n, x.key = .string n → n ∈ ns → WideElems.rd (H := Unit) Try.prog 9 (fun _ => some (.nil, [])) x = some (.string n.toList, .nil) := by
    intro x hx n hn hm
    unfold WideElems.rd
    rw [hn, WideMaps.keyOf_string_mk hu9 (hsz n hm)]
    simp [toList_data]
  have hown : c.w0.ownsMap (H := Unit) Try.prog 9 (fun _ => some (.nil, [])) b1 ns.length (.map ((ents.toList.map (WideElems.rg Try.prog 9 (fun _ => some (.nil, [])))).foldr DataW.insert [])) := by
    refine ⟨ents, clock, hh1, ⟨?_, ⟨hclock, ?_, ?_⟩, ?_⟩, ?_, rfl⟩
    · have : ents.size = ns.length := by simpa using hlen
      have h2 : (1000000 : Nat) ≤ maxLen := by decide
      omega
    · exact hborn.imp fun h => Nat.ne_of_lt h
    · rw [hkeys]
      exact List.Pairwise.map _ (fun a b h e => h (by cases e; rfl)) hnd
    · intro x hx
      obtain ⟨n, h1, h2⟩ := hrd x hx
      exact ⟨_, hrd2 x hx n h2 h1⟩
    · simpa using Nat.le_of_eq hlen
  have hstr : (strKeys (H := Unit) (.map ((ents.toList.map (WideElems.rg Try.prog 9 (fun _ => some (.nil, [])))).foldr DataW.insert []))).Perm (ns.map ByteArray.toList) := by
    unfold strKeys
    refine ((foldr_perm _).map _).trans ?_
    refine List.Perm.of_eq ?_
    rw [List.map_map]
    have : ∀ (us : List MapEntry) (ms : List ByteArray), (∀ x ∈ us, x ∈ ents.toList) → (∀ n ∈ ms, n ∈ ns) → us.map (·.key) = ms.map Value.string →
        us.map ((fun p => strOf p.1) ∘ WideElems.rg (H := Unit) Try.prog 9 (fun _ => some (.nil, []))) = ms.map ByteArray.toList := by
      intro us
      induction us with
      | nil => intro ms _ _ h; cases ms with | nil => rfl | cons => simp at h
      | cons x us ih =>
        intro ms h1 h2 h
        cases ms with
        | nil => simp at h
        | cons n ms =>
          simp only [List.map_cons, List.cons.injEq] at h
          simp only [List.map_cons]
          rw [ih ms (fun y hy => h1 y (List.mem_cons_of_mem _ hy)) (fun y hy => h2 y (List.mem_cons_of_mem _ hy)) h.2]
          congr 1
          simp only [Function.comp, WideElems.rg_of (hrd2 x (h1 x (by simp)) n h.1 (h2 n (by simp)))]
          rfl
    exact this _ _ (fun _ h => h) (fun _ h => h) hkeys
  have hsize : Maps.size (H := Unit) (.map ((ents.toList.map (WideElems.rg Try.prog 9 (fun _ => some (.nil, [])))).foldr DataW.insert [])) = ns.length := by
    rw [Maps.size_eq, length_sorted, List.length_map, hlen]
  generalize hD : (DataW.map ((ents.toList.map (WideElems.rg (H := Unit) Try.prog 9 (fun _ => some (.nil, [])))).foldr DataW.insert [])) = D0 at hown hstr hsize
  have hm : (1000000 : Nat) ≤ maxLen := by decide
  have hseq := AnyZ.keys_gives (ρ := Try.keys70_ren) { Try.keys70 with } Fence.wide 2 trivial rfl (by omega) b0 b1 ns.length D0 c.w0 (by
      have := (Array.getElem?_eq_some_iff.1 hh0).1
      exact this) (by
      have hc1 : cur = #[.map (some b1)] := by cases cur; simpa using hcur
      simp [World.cell?, hh0, hc1]) hown
  have hcall := AnyZ.sorted_in Try.sorted69 Fence.wide 5 trivial trivial trivial trivial rfl (by omega) (Try.sorts69 _) (enters_of Try.func60 (by kernel_rfl) rfl) 61 #[.pointer (some ⟨b0, 0, none⟩)] trivial (enters_of Try.func61 (by kernel_rfl) rfl) _ _ (by rw [hsize]; omega) (by rw [hsize]; omega) _ hseq
  have hvs' : vs = #[.func (.func 61) #[] #[.pointer (some ⟨b0, 0, none⟩)]] := by cases vs; cases caps; simp_all
  rw [hvs']
  refine (callsIn_wide.1 hcall).mono ?_
  rintro e w' ⟨v, ss, rfl, hS, ⟨hrl, hrow⟩, hnil, hb⟩
  have hp : ss.Perm (ns.map ByteArray.toList) := hS.trans hstr
  have hpm := List.mergeSort_perm ss (fun x y => decide (x ≤ y))
  have hpw : (ss.mergeSort (fun x y => decide (x ≤ y))).Pairwise (fun x y => x ≤ y) := by
    have := List.pairwise_mergeSort (le := fun x y : List UInt8 => decide (x ≤ y)) (fun a b c h1 h2 => decide_eq_true (List.le_trans (of_decide_eq_true h1) (of_decide_eq_true h2))) (fun a b => by
      rcases List.le_total a b with h | h <;> simp [h]) ss
    exact this.imp fun h => of_decide_eq_true h
  have hnd' : (ss.mergeSort (fun x y => decide (x ≤ y))).Nodup := by
    refine (hpm.trans hp).nodup_iff.2 ?_
    exact List.Pairwise.map _ (fun a b h e => h (toList_inj e)) hnd
  generalize hms : ss.mergeSort (fun x y => decide (x ≤ y)) = ms at *
  have hlen2 : ms.length = ss.length := hpm.length_eq
  have hss : (ms.map baOf).Perm ns := by
    have := (hpm.trans hp).map baOf
    rwa [List.map_map, show (baOf ∘ ByteArray.toList) = id from funext baOf_toList, List.map_id] at this
  have hri : risingS (ms.map baOf) := by
    refine List.Pairwise.map _ (fun a b h => h) ?_
    refine (hpw.and hnd').imp ?_
    rintro a b ⟨h1, h2⟩
    show Op.bytesLess (baOf a).toList (baOf b).toList = true
    rw [toList_baOf, toList_baOf]
    cases h3 : Op.bytesLess a b with
    | true => rfl
    | false =>
      cases h4 : Op.bytesLess b a with
      | true => exact absurd ((bl_lt b a).1 h4) h1
      | false => exact absurd (bl_total a b h3 h4) h2
  have hkeep : Keeps c.w0 w' := ⟨hb.os, hb.tape, hb.output, hb.size, hb.block⟩
  have henc : ms.map encStr = (ms.map baOf).map Value.string := by rw [List.map_map]; rfl
  rcases hrow with ⟨rfl, h0⟩ | ⟨g, cap, cur, rfl, hg, hhg, hcap1, hcap2, hcs, htake⟩
  · have hm0 : ms = [] := by
      apply List.eq_nil_of_length_eq_zero; omega
    subst hm0
    refine ⟨_, .arr 2, _, Eupd c.E0 2 none, rfl, ⟨rfl, _, hss, hri, rfl⟩, hs.extend hc hkeep (.row 9 1 (strs (List.map baOf [])) false) none (fun b h => by cases h) (fun b h => by simp [AB.boxes] at h) (by simp [AB.boxes]) (fun b h => by simp [AB.boxes] at h) ?_, ?_⟩
    · simp only [BR]
      exact ⟨⟨by omega, by kernel_rfl⟩, by simp [strs], rfl⟩
    · exact ⟨_, rfl, by simp [arRel, Eupd]⟩
  · refine ⟨_, .arr 2, _, Eupd c.E0 2 (some g), rfl, ⟨rfl, _, hss, hri, rfl⟩, hs.extend hc hkeep (.row 9 1 (strs (List.map baOf ms)) false) (some g) (fun b h => by cases h; exact hg) (fun b h => by simp [AB.boxes] at h) (by simp [AB.boxes]) (fun b h => by simp [AB.boxes] at h) ?_, ?_⟩
    · simp only [BR]
      refine ⟨⟨by omega, by kernel_rfl⟩, by simp [strs], cap, cur, hhg, hcs, by simp [strs]; omega, hcap2, ?_⟩
      have : (cur.toList.take ((strs (List.map baOf ms)).length * 1)) = (ms.map baOf).map Value.string := by
        rw [← henc, ← htake]; congr 1; simp [strs, hlen2]
      rw [this]
      exact strs_VDs _
    · exact ⟨_, rfl, by
        simp only [arRel, Eupd]
        exact ⟨cap, cur, by simp [strs, hlen2], hhg, hcs⟩⟩
end Go.Proofs.Ytgoejddmglgogaa
namespace Go.Proofs.Ytgoejddmglgogaa
open Go.Ab Go.RowKit
structure FD where
  name : ByteArray
  safe : List UInt8
  seen : List UInt8
structure DD where
  calls : Int
  off : Bool
  upto : Int
  fs : List FD
def Fl.dat (f : Fl) : FD := ⟨f.name, f.safe, f.seen⟩
def Dk.dat (d : Dk) : DD := ⟨d.calls, d.off, d.upto, d.fs.map Fl.dat⟩
def DD.spend (d : DD) : DD :=
  { d with calls := IntKind.i64.wrap (d.calls + 1), off := d.off || (decide (d.upto > 0) && decide (IntKind.i64.wrap (d.calls + 1) ≥ d.upto)) }
theorem dat_spend_off (d : Dk) : d.spend.off = d.dat.spend.off := rfl
def getN (n : ByteArray) : List FD → Option FD
  | [] => none
  | f :: r => if n = f.name then some f else getN n r
def updN (n : ByteArray) (g : FD → FD) : List FD → List FD
  | [] => []
  | f :: r => if n = f.name then g f :: r else f :: updN n g r
def delN (n : ByteArray) : List FD → List FD
  | [] => []
  | f :: r => if n = f.name then r else f :: delN n r
def DD.append (d : DD) (n : ByteArray) (b : List UInt8) : Int × DD :=
  if goodS n = false then (1, d) else
  if d.spend.off = true then (9, d.spend) else
  match getN n d.fs with
  | none => if b.length > 1048576 then (2, d.spend) else if d.fs.length = 16 then (8, d.spend) else (0, { d.spend with fs := d.fs ++ [⟨n, [], b⟩] })
  | some f => if b.length > 1048576 - f.seen.length then (2, d.spend) else (0, { d.spend with fs := updN n (fun f => { f with seen := f.seen ++ b }) d.fs })
def DD.sync (d : DD) (n : ByteArray) : Int × DD :=
  if goodS n = false then (1, d) else
  if d.spend.off = true then (9, d.spend) else
  match getN n d.fs with
  | none => (3, d.spend)
  | some _ => (0, { d.spend with fs := updN n (fun f => { f with safe := f.seen }) d.fs })
def DD.read (d : DD) (n : ByteArray) : List UInt8 × Int :=
  if goodS n = false then ([], 1) else
  if d.off = true then ([], 9) else
  match getN n d.fs with
  | none => ([], 3)
  | some f => (f.seen, 0)
structure DD.ok (d : DD) : Prop where
  len : ∀ f ∈ d.fs, f.seen.length ≤ 1048576 ∧ f.safe.length ≤ 1048576
theorem findF_get {n : ByteArray} : ∀ {fs : List Fl} {j : Nat}, (findF n fs j).map (·.2.dat) = getN n (fs.map Fl.dat)
  | [], _ => rfl
  | f :: r, j => by
    simp only [findF, ba_beq, List.map_cons, getN]
    by_cases h : n = f.name
    · simp [h, Fl.dat]
    · have h' : ¬ n = f.dat.name := h
      simp only [decide_eq_false h, if_neg h']
      exact findF_get
theorem findF_at {n : ByteArray} : ∀ {fs : List Fl} {j i : Nat} {f : Fl}, findF n fs j = some (i, f) → j ≤ i ∧ fs[i - j]? = some f ∧ f.name = n ∧ ∀ g, updN n g (fs.map Fl.dat) = (fs.map Fl.dat).set (i - j) (g f.dat)
  | [], _, _, _, h => by simp [findF] at h
  | x :: r, j, i, f, h => by
    simp only [findF, ba_beq] at h
    by_cases e : n = x.name
    · rw [decide_eq_true e] at h
      simp at h
      obtain ⟨rfl, rfl⟩ := h
      have e' : n = x.dat.name := e
      refine ⟨Nat.le_refl _, by simp, e.symm, fun g => ?_⟩
      simp only [List.map_cons, updN, if_pos e', Nat.sub_self, List.set_cons_zero]
    · rw [decide_eq_false e] at h
      have e' : ¬ n = x.dat.name := e
      obtain ⟨h1, h2, h3, h4⟩ := findF_at (fs := r) h
      have hi : i - j = (i - (j + 1)) + 1 := by omega
      refine ⟨by omega, by rw [hi]; simpa using h2, h3, fun g => ?_⟩
      rw [hi]
      simp only [List.map_cons, updN, if_neg e', List.set_cons_succ, h4]
theorem getN_none {n : ByteArray} {d : Dk} (h : findF n d.fs 0 = none) : getN n d.dat.fs = none := by show getN n (d.fs.map Fl.dat) = _; rw [← findF_get (j := 0), h]; rfl
theorem getN_some {n : ByteArray} {d : Dk} {i : Nat} {f : Fl} (h : findF n d.fs 0 = some (i, f)) : getN n d.dat.fs = some f.dat := by show getN n (d.fs.map Fl.dat) = _; rw [← findF_get (j := 0), h]; rfl
theorem mem_getN {n : ByteArray} : ∀ {fs : List FD} {f : FD}, getN n fs = some f → f ∈ fs
  | x :: r, f, h => by
    simp only [getN] at h
    split at h
    · cases h; simp
    · exact List.mem_cons_of_mem _ (mem_getN h)
def Fl.cs (f : Fl) : List DV := [.sl 1 (u8s f.safe), .sl 1 (u8s f.seen)]
theorem boxcs_mem : ∀ {fs : List Fl} {f : Fl}, f ∈ fs → (f.b, f.cs) ∈ boxcsM (fs.map Fl.ent)
  | x :: r, f, h => by
    rcases List.mem_cons.1 h with rfl | h
    · simp [boxcsM, Fl.ent, Fl.cs]
    · simp only [List.map_cons, Fl.ent, boxcsM]
      exact List.mem_cons_of_mem _ (boxcs_mem h)
theorem box_at {fs : List Fl} {f : Fl} (h : f ∈ fs) {x : AB} {r : List AB} : BoxIn (x :: .map (fs.map Fl.ent) :: r) f.b f.cs := ⟨1, _, rfl, boxcs_mem h⟩
theorem findF_mem {n : ByteArray} {fs : List Fl} {i : Nat} {f : Fl} (h : findF n fs 0 = some (i, f)) : f ∈ fs := by
  have := (findF_at h).2.1
  exact List.mem_of_getElem? this
theorem ent_at {n : ByteArray} {fs : List Fl} {i : Nat} {f : Fl} (h : findF n fs 0 = some (i, f)) : (fs.map Fl.ent)[i]? = some (.one (.str f.name), .box f.b f.cs) := by
  have := (findF_at h).2.1
  simp only [Nat.sub_zero] at this
  rw [List.getElem?_map, this]; rfl
section
variable {d : DD} {n : ByteArray} {b : List UInt8}
theorem app_bad (h : goodS n = false) : d.append n b = (1, d) := by simp [DD.append, h]
theorem app_off (h : goodS n = true) (ho : d.spend.off = true) : d.append n b = (9, d.spend) := by simp [DD.append, h, ho]
theorem app_long0 (h : goodS n = true) (ho : d.spend.off = false) (hg : getN n d.fs = none) (hl : b.length > 1048576) : d.append n b = (2, d.spend) := by simp [DD.append, h, ho, hg, hl]
theorem app_full (h : goodS n = true) (ho : d.spend.off = false) (hg : getN n d.fs = none) (hl : ¬ b.length > 1048576) (h16 : d.fs.length = 16) : d.append n b = (8, d.spend) := by simp [DD.append, h, ho, hg, hl, h16]
theorem app_new (h : goodS n = true) (ho : d.spend.off = false) (hg : getN n d.fs = none) (hl : ¬ b.length > 1048576) (h16 : ¬ d.fs.length = 16) : d.append n b = (0, { d.spend with fs := d.fs ++ [⟨n, [], b⟩] }) := by simp [DD.append, h, ho, hg, hl, h16]
theorem app_long {f : FD} (h : goodS n = true) (ho : d.spend.off = false) (hg : getN n d.fs = some f) (hl : b.length > 1048576 - f.seen.length) : d.append n b = (2, d.spend) := by simp [DD.append, h, ho, hg, hl]
theorem app_old {f : FD} (h : goodS n = true) (ho : d.spend.off = false) (hg : getN n d.fs = some f) (hl : ¬ b.length > 1048576 - f.seen.length) : d.append n b = (0, { d.spend with fs := updN n (fun f => { f with seen := f.seen ++ b }) d.fs }) := by simp [DD.append, h, ho, hg, hl]
theorem sync_bad (h : goodS n = false) : d.sync n = (1, d) := by simp [DD.sync, h]
theorem sync_off (h : goodS n = true) (ho : d.spend.off = true) : d.sync n = (9, d.spend) := by simp [DD.sync, h, ho]
theorem sync_none (h : goodS n = true) (ho : d.spend.off = false) (hg : getN n d.fs = none) : d.sync n = (3, d.spend) := by simp [DD.sync, h, ho, hg]
theorem sync_some {f : FD} (h : goodS n = true) (ho : d.spend.off = false) (hg : getN n d.fs = some f) : d.sync n = (0, { d.spend with fs := updN n (fun f => { f with safe := f.seen }) d.fs }) := by simp [DD.sync, h, ho, hg]
theorem read_bad (h : goodS n = false) : d.read n = ([], 1) := by simp [DD.read, h]
theorem read_off (h : goodS n = true) (ho : d.off = true) : d.read n = ([], 9) := by simp [DD.read, h, ho]
theorem read_none (h : goodS n = true) (ho : d.off = false) (hg : getN n d.fs = none) : d.read n = ([], 3) := by simp [DD.read, h, ho, hg]
theorem read_some {f : FD} (h : goodS n = true) (ho : d.off = false) (hg : getN n d.fs = some f) : d.read n = (f.seen, 0) := by simp [DD.read, h, ho, hg]
end
def Dk.put (d : Dk) (i : Nat) (f : Fl) : Dk := { d with fs := d.fs.set i f }
theorem put_dat {d : Dk} {n : ByteArray} {i : Nat} {f : Fl} (h : findF n d.fs 0 = some (i, f)) (g : FD → FD) (f' : Fl) (hf : f'.dat = g f.dat) : (d.put i f').dat = { d.dat with fs := updN n g d.dat.fs } := by
  have := (findF_at h).2.2.2 g
  simp only [Nat.sub_zero] at this
  simp only [Dk.dat, Dk.put, this, List.map_set, hf]
theorem call_by (d : Dk) (ok : Bool) (n : ByteArray) (there : Bool) : ACalls Try.prog 44 [.ptr 0 0, .d (.bool ok), .d (.str n), .d (.bool there)] d.L (fun av L =>
    (av = .tup [.d .nilp, .d (.int .i64 1)] ∧ L = d.L ∧ (ok = false ∨ goodS n = false)) ∨
    (av = .tup [.d .nilp, .d (.int .i64 9)] ∧ L = d.spend.L ∧ ok = true ∧ goodS n = true ∧ d.dat.spend.off = true) ∨
    (av = .tup [.d .nilp, .d (.int .i64 (if there then 3 else 0))] ∧ L = d.spend.L ∧ ok = true ∧ goodS n = true ∧ d.dat.spend.off = false ∧ findF n d.fs 0 = none) ∨
    (∃ i f, av = .tup [.mp 1 f.b 0, .d (.int .i64 0)] ∧ L = d.spend.L ∧ ok = true ∧ goodS n = true ∧ d.dat.spend.off = false ∧ findF n d.fs 0 = some (i, f))) := by
  refine (call_ok d ok n there).mono ?_
  rintro _ _ ⟨rfl, rfl⟩
  cases ok with
  | false => exact .inl ⟨by simp [Dk.call], by simp [Dk.call], .inl rfl⟩
  | true =>
    cases hg : goodS n with
    | false => exact .inl ⟨by simp [Dk.call, hg], by simp [Dk.call, hg], .inr rfl⟩
    | true =>
      have hoo := dat_spend_off d
      cases ho' : d.dat.spend.off with
      | true =>
        have ho := hoo.trans ho'
        exact .inr (.inl ⟨by simp [Dk.call, hg, ho], by simp [Dk.call, hg, ho], rfl, rfl, rfl⟩)
      | false =>
        have ho := hoo.trans ho'
        cases hf : findF n d.fs 0 with
        | none => exact .inr (.inr (.inl ⟨by cases there <;> simp [Dk.call, hg, ho, hf], by cases there <;> simp [Dk.call, hg, ho, hf], rfl, rfl, rfl, rfl⟩))
        | some p => exact .inr (.inr (.inr ⟨p.1, p.2, by simp [Dk.call, hg, ho, hf], by simp [Dk.call, hg, ho, hf], rfl, rfl, rfl, rfl⟩))
end Go.Proofs.Ytgoejddmglgogaa
namespace Go.Proofs.Ytgoejddmglgogaa
open Go.Ab Go.RowKit Go.MapKept
attribute [local irreducible] ACalls AW ADraw Into fltB fnear
set_option maxRecDepth 100000
theorem keys_ok (es : List (KV × MV)) : ACalls Try.prog 50 [.map 0] [.map es] (fun av L => av = .fn 61 [.ptr 1 0] ∧ L = [.map es, .cells [.map 0]]) := by
  (refine acalls_go ttOk zOk foOk Try.func50 rfl Try.ntmps50 rfl true rfl ?_); (conv => whnf)
  exact ⟨rfl, rfl⟩
end Go.Proofs.Ytgoejddmglgogaa
namespace Go.Proofs.Ytgoejddmglgogaa
open Go.Ab Go.RowKit
def DD.cut (d : DD) (n : ByteArray) (k : Int) : Int × DD :=
  if k < 0 ∨ goodS n = false then (1, d) else
  if d.spend.off = true then (9, d.spend) else
  match getN n d.fs with
  | none => (3, d.spend)
  | some f => if (f.seen.length : Int) < k then (1, d.spend) else (0, { d.spend with fs := updN n (fun f => { f with seen := f.seen.take k.toNat }) d.fs })
def DD.remove (d : DD) (n : ByteArray) : Int × DD :=
  if goodS n = false then (1, d) else
  if d.spend.off = true then (9, d.spend) else
  match getN n d.fs with
  | none => (3, d.spend)
  | some _ => (0, { d.spend with fs := delN n d.fs })
def setN (g : FD) (fs : List FD) : List FD := match getN g.name fs with | none => fs ++ [g] | some _ => updN g.name (fun _ => g) fs
def DD.rename (d : DD) (n t : ByteArray) : Int × DD :=
  if goodS t = false ∨ goodS n = false then (1, d) else
  if d.spend.off = true then (9, d.spend) else
  match getN n d.fs with
  | none => (3, d.spend)
  | some f => (0, { d.spend with fs := setN { f with name := t } (delN n d.fs) })
def DD.turn (d : DD) (n : Int) : DD := if n < 1 then { d with off := true } else { d with upto := IntKind.i64.wrap (d.calls + n) }
section
variable {d : DD} {n t : ByteArray} {k : Int}
theorem cut_bad (h : k < 0 ∨ goodS n = false) : d.cut n k = (1, d) := by simp [DD.cut, h]
theorem cut_off (hk : ¬ k < 0) (h : goodS n = true) (ho : d.spend.off = true) : d.cut n k = (9, d.spend) := by simp [DD.cut, h, ho, hk]
theorem cut_none (hk : ¬ k < 0) (h : goodS n = true) (ho : d.spend.off = false) (hg : getN n d.fs = none) : d.cut n k = (3, d.spend) := by simp [DD.cut, h, ho, hg, hk]
theorem cut_long {f : FD} (hk : ¬ k < 0) (h : goodS n = true) (ho : d.spend.off = false) (hg : getN n d.fs = some f) (hl : (f.seen.length : Int) < k) : d.cut n k = (1, d.spend) := by simp [DD.cut, h, ho, hg, hk, hl]
theorem cut_some {f : FD} (hk : ¬ k < 0) (h : goodS n = true) (ho : d.spend.off = false) (hg : getN n d.fs = some f) (hl : ¬ (f.seen.length : Int) < k) : d.cut n k = (0, { d.spend with fs := updN n (fun f => { f with seen := f.seen.take k.toNat }) d.fs }) := by simp [DD.cut, h, ho, hg, hk, hl]
theorem rem_bad (h : goodS n = false) : d.remove n = (1, d) := by simp [DD.remove, h]
theorem rem_off (h : goodS n = true) (ho : d.spend.off = true) : d.remove n = (9, d.spend) := by simp [DD.remove, h, ho]
theorem rem_none (h : goodS n = true) (ho : d.spend.off = false) (hg : getN n d.fs = none) : d.remove n = (3, d.spend) := by simp [DD.remove, h, ho, hg]
theorem rem_some {f : FD} (h : goodS n = true) (ho : d.spend.off = false) (hg : getN n d.fs = some f) : d.remove n = (0, { d.spend with fs := delN n d.fs }) := by simp [DD.remove, h, ho, hg]
theorem ren_bad (h : goodS t = false ∨ goodS n = false) : d.rename n t = (1, d) := by simp [DD.rename, h]
theorem ren_off (ht : goodS t = true) (h : goodS n = true) (ho : d.spend.off = true) : d.rename n t = (9, d.spend) := by simp [DD.rename, h, ho, ht]
theorem ren_none (ht : goodS t = true) (h : goodS n = true) (ho : d.spend.off = false) (hg : getN n d.fs = none) : d.rename n t = (3, d.spend) := by simp [DD.rename, h, ho, hg, ht]
theorem ren_some {f : FD} (ht : goodS t = true) (h : goodS n = true) (ho : d.spend.off = false) (hg : getN n d.fs = some f) : d.rename n t = (0, { d.spend with fs := setN { f with name := t } (delN n d.fs) }) := by simp [DD.rename, h, ho, hg, ht]
end
theorem findF_del {n : ByteArray} : ∀ {fs : List Fl} {j i : Nat} {f : Fl}, findF n fs j = some (i, f) → (fs.eraseIdx (i - j)).map Fl.dat = delN n (fs.map Fl.dat)
  | [], _, _, _, h => by simp [findF] at h
  | x :: r, j, i, f, h => by
    simp only [findF, ba_beq] at h
    by_cases e : n = x.name
    · rw [decide_eq_true e] at h
      simp at h
      obtain ⟨rfl, rfl⟩ := h
      have e' : n = x.dat.name := e
      simp only [List.map_cons, delN, if_pos e', Nat.sub_self, List.eraseIdx_cons_zero]
    · rw [decide_eq_false e] at h
      have e' : ¬ n = x.dat.name := e
      have h4 := findF_del (fs := r) h
      have h1 := (findF_at (fs := r) h).1
      have hi : i - j = (i - (j + 1)) + 1 := by omega
      rw [hi]
      simp only [List.map_cons, delN, if_neg e', List.eraseIdx_cons_succ, h4]
theorem getN_del {n : ByteArray} {d : Dk} {i : Nat} {f : Fl} (h : findF n d.fs 0 = some (i, f)) : (d.fs.eraseIdx i).map Fl.dat = delN n d.dat.fs := findF_del (j := 0) h
theorem erase_map {α β : Type} (g : α → β) : ∀ (fs : List α) (i : Nat), (fs.map g).eraseIdx i = (fs.eraseIdx i).map g
  | [], _ => rfl
  | _ :: _, 0 => rfl
  | x :: r, i + 1 => by simp only [List.map_cons, List.eraseIdx_cons_succ, erase_map g r i]
theorem erase_ent {fs : List Fl} {i : Nat} : (fs.map Fl.ent).eraseIdx i = (fs.eraseIdx i).map Fl.ent := erase_map _ _ _
end Go.Proofs.Ytgoejddmglgogaa
namespace Go.Proofs.Ytgoejddmglgogaa
open Go.Ab Go.RowKit
structure DD.fine (d : DD) : Prop where
  ok : d.ok
  nd : (d.fs.map FD.name).Nodup
  good : ∀ f ∈ d.fs, goodS f.name = true
  few : d.fs.length ≤ 16
theorem goodS_size {n : ByteArray} (h : goodS n = true) : n.size ≤ 1000 := by
  unfold goodS at h
  simp only [Bool.and_eq_true, decide_eq_true_eq] at h
  omega
theorem inj_name : ∀ {fs : List FD}, (fs.map FD.name).Nodup → ∀ {x y : FD}, x ∈ fs → y ∈ fs → x.name = y.name → x = y
  | [], _, _, _, h, _, _ => by simp at h
  | f :: r, hn, x, y, hx, hy, e => by
    simp only [List.map_cons, List.nodup_cons] at hn
    rcases List.mem_cons.1 hx with rfl | hx' <;> rcases List.mem_cons.1 hy with rfl | hy'
    · rfl
    · exact absurd (List.mem_map.2 ⟨y, hy', e.symm⟩) hn.1
    · exact absurd (List.mem_map.2 ⟨x, hx', e⟩) hn.1
    · exact inj_name hn.2 hx' hy' e
theorem getN_name {n : ByteArray} : ∀ {fs : List FD} {f : FD}, getN n fs = some f → f.name = n
  | x :: r, f, h => by
    simp only [getN] at h
    split at h
    · cases h; rename_i h; exact h.symm
    · exact getN_name h
theorem getN_not {n : ByteArray} : ∀ {fs : List FD}, getN n fs = none → n ∉ fs.map FD.name
  | [], _ => by simp
  | x :: r, h => by
    simp only [getN] at h
    split at h
    · cases h
    · rename_i hx
      simp only [List.map_cons, List.mem_cons, not_or]
      exact ⟨hx, getN_not h⟩
theorem upd_names {n : ByteArray} {g : FD → FD} (hg : ∀ f, f.name = n → (g f).name = n) : ∀ (fs : List FD), (updN n g fs).map FD.name = fs.map FD.name
  | [] => rfl
  | x :: r => by
    simp only [updN]
    split
    · rename_i h
      simp only [List.map_cons, hg x h.symm, h]
    · simp only [List.map_cons, upd_names hg r]
theorem mem_updN {n : ByteArray} {g : FD → FD} : ∀ {fs : List FD} {f : FD}, f ∈ updN n g fs → f ∈ fs ∨ ∃ x ∈ fs, x.name = n ∧ f = g x
  | [], _, h => by simp [updN] at h
  | x :: r, f, h => by
    simp only [updN] at h
    split at h
    · rename_i hx
      rcases List.mem_cons.1 h with rfl | h
      · exact .inr ⟨x, by simp, hx.symm, rfl⟩
      · exact .inl (List.mem_cons_of_mem _ h)
    · rcases List.mem_cons.1 h with rfl | h
      · exact .inl (by simp)
      · rcases mem_updN h with h | ⟨y, h1, h2, h3⟩
        · exact .inl (List.mem_cons_of_mem _ h)
        · exact .inr ⟨y, List.mem_cons_of_mem _ h1, h2, h3⟩
theorem del_sub {n : ByteArray} : ∀ {fs : List FD}, (delN n fs).Sublist fs
  | [] => List.Sublist.refl _
  | x :: r => by
    simp only [delN]
    split
    · exact List.sublist_cons_self ..
    · exact del_sub.cons_cons x
theorem upd_length {n : ByteArray} {g : FD → FD} : ∀ (fs : List FD), (updN n g fs).length = fs.length
  | [] => rfl
  | x :: r => by
    simp only [updN]
    split
    · rfl
    · simp only [List.length_cons, upd_length r]
theorem DD.fine.spend {d : DD} (h : d.fine) : d.spend.fine := ⟨⟨h.ok.len⟩, h.nd, h.good, h.few⟩
theorem DD.fine.upd {d : DD} (h : d.fine) (n : ByteArray) (g : FD → FD) (hg : ∀ f, f.name = n → (g f).name = n) (hl : ∀ f ∈ d.fs, f.name = n → (g f).seen.length ≤ 1048576 ∧ (g f).safe.length ≤ 1048576) : ({ d with fs := updN n g d.fs } : DD).fine := by
  refine ⟨⟨fun f hf => ?_⟩, ?_, fun f hf => ?_, ?_⟩
  · rcases mem_updN hf with hf | ⟨x, hx, hn, rfl⟩
    · exact h.ok.len f hf
    · exact hl x hx hn
  · show ((updN n g d.fs).map FD.name).Nodup
    rw [upd_names hg]; exact h.nd
  · rcases mem_updN hf with hf | ⟨x, hx, hn, rfl⟩
    · exact h.good f hf
    · rw [hg x hn, ← hn]; exact h.good x hx
  · show (updN n g d.fs).length ≤ 16
    rw [upd_length]; exact h.few
theorem DD.fine.append {d : DD} (h : d.fine) (n : ByteArray) (b : List UInt8) : (d.append n b).2.fine := by
  unfold DD.append
  split
  · exact h
  rename_i hg
  split
  · exact h.spend
  split
  · rename_i hn
    split
    · exact h.spend
    split
    · exact h.spend
    · rename_i hb h16
      have hf := h.few
      refine ⟨⟨fun f hf => ?_⟩, ?_, fun f hf => ?_, ?_⟩
      · rcases List.mem_append.1 hf with hf | hf
        · exact h.ok.len f hf
        · simp only [List.mem_singleton] at hf; subst hf; exact ⟨by show b.length ≤ _; omega, by simp⟩
      · show ((d.fs ++ [_]).map FD.name).Nodup
        rw [List.map_append, List.nodup_append]
        refine ⟨h.nd, by simp, ?_⟩
        intro a ha c hc e
        simp only [List.map_cons, List.map_nil, List.mem_singleton] at hc
        subst hc; subst e
        exact getN_not hn ha
      · rcases List.mem_append.1 hf with hf | hf
        · exact h.good f hf
        · simp only [List.mem_singleton] at hf; subst hf
          simpa using hg
      · show (d.fs ++ [_]).length ≤ 16
        rw [List.length_append]; simp; omega
  · rename_i f hn
    split
    · exact h.spend
    · rename_i hb
      refine h.spend.upd n _ (fun f h => h) ?_
      intro x hx hxn
      have hxf : x = f := by
        have h1 := getN_name hn
        have h2 := mem_getN hn
        exact inj_name h.nd hx h2 (hxn.trans h1.symm)
      subst hxf
      have := h.ok.len x hx
      exact ⟨by simp; omega, this.2⟩
theorem DD.fine.sync {d : DD} (h : d.fine) (n : ByteArray) : (d.sync n).2.fine := by
  unfold DD.sync
  split
  · exact h
  split
  · exact h.spend
  split
  · exact h.spend
  · exact h.spend.upd n _ (fun f h => h) fun f hf _ => ⟨(h.ok.len f hf).1, (h.ok.len f hf).1⟩
theorem DD.fine.cut {d : DD} (h : d.fine) (n : ByteArray) (k : Int) : (d.cut n k).2.fine := by
  unfold DD.cut
  split
  · exact h
  split
  · exact h.spend
  split
  · exact h.spend
  split
  · exact h.spend
  · exact h.spend.upd n _ (fun f h => h) fun f hf _ => ⟨by have := (h.ok.len f hf).1; simp only [List.length_take]; omega, (h.ok.len f hf).2⟩
theorem DD.fine.del {d : DD} (h : d.fine) (n : ByteArray) : ({ d with fs := delN n d.fs } : DD).fine :=
  ⟨⟨fun f hf => h.ok.len f (del_sub.subset hf)⟩, h.nd.sublist (del_sub.map _), fun f hf => h.good f (del_sub.subset hf), Nat.le_trans del_sub.length_le h.few⟩
theorem DD.fine.set {d : DD} (h : d.fine) (g : FD) (hg : goodS g.name = true) (hl : g.seen.length ≤ 1048576 ∧ g.safe.length ≤ 1048576) (hf : d.fs.length < 16) : ({ d with fs := setN g d.fs } : DD).fine := by
  unfold setN
  cases hn : getN g.name d.fs with
  | some f => exact h.upd g.name _ (fun _ _ => rfl) fun _ _ _ => hl
  | none =>
    refine ⟨⟨fun f hf => ?_⟩, ?_, fun f hf => ?_, ?_⟩
    · rcases List.mem_append.1 hf with hf | hf
      · exact h.ok.len f hf
      · simp only [List.mem_singleton] at hf; subst hf; exact hl
    · show ((d.fs ++ [_]).map FD.name).Nodup
      rw [List.map_append, List.nodup_append]
      refine ⟨h.nd, by simp, ?_⟩
      intro a ha c hc e
      simp only [List.map_cons, List.map_nil, List.mem_singleton] at hc
      subst hc; subst e
      exact getN_not hn ha
    · rcases List.mem_append.1 hf with hf | hf
      · exact h.good f hf
      · simp only [List.mem_singleton] at hf; subst hf; exact hg
    · show (d.fs ++ [_]).length ≤ 16
      rw [List.length_append]; simp; omega
theorem del_length {n : ByteArray} : ∀ {fs : List FD} {f : FD}, getN n fs = some f → (delN n fs).length + 1 = fs.length
  | x :: r, f, h => by
    simp only [getN] at h
    simp only [delN]
    split at h
    · rename_i hx; rw [if_pos hx]; rfl
    · rename_i hx; rw [if_neg hx]
      simp only [List.length_cons, del_length h]
theorem DD.fine.rename {d : DD} (h : d.fine) (n t : ByteArray) : (d.rename n t).2.fine := by
  unfold DD.rename
  split
  · exact h
  rename_i hg
  split
  · exact h.spend
  split
  · exact h.spend
  · rename_i f hn
    have hm := h.ok.len f (mem_getN hn)
    refine (h.spend.del n).set { f with name := t } (by simpa using (not_or.1 hg).1) hm ?_
    have := del_length hn
    have h2 := h.few
    show (delN n d.spend.fs).length < 16
    show (delN n d.fs).length < 16
    omega
end Go.Proofs.Ytgoejddmglgogaa
namespace Go.Proofs.Ytgoejddmglgogaa
open Go.Ab Go.RowKit Go.MapKept
attribute [local irreducible] ACalls AW ADraw Into fltB fnear
set_option maxRecDepth 100000
theorem ent_keys (fs : List Fl) : (fs.map Fl.ent).map (·.1) = (fs.map Fl.name).map fun n => KV.one (.str n) := by
  rw [List.map_map, List.map_map]; rfl
theorem dat_names (fs : List Fl) : (fs.map Fl.dat).map FD.name = fs.map Fl.name := by
  rw [List.map_map]; rfl
def DD.list (d : DD) (ss : List ByteArray) : Prop := (d.off = true → ss = []) ∧ (d.off = false → ss.Perm (d.fs.map FD.name)) ∧ risingS ss
theorem list_row (d : Dk) (hd : d.dat.fine) : ACalls Try.prog 34 [.ptr 0 0] d.L (fun av L => av = .tup [.arr 2, .d (.int .i64 (if d.off then 9 else 0))] ∧ ∃ ss : List ByteArray, d.dat.list ss ∧ L = d.L ++ [.row 9 1 (strs ss) false]) := by
  (refine acalls_go ttOk zOk foOk Try.func34 rfl Try.ntmps34 rfl true rfl ?_); (conv => whnf)
  refine rdz ?_; repeat' ((with_reducible apply tw) <;> intro _)
  · rename_i ho
    refine ⟨by simp [ho, avOf1], [], ⟨fun _ => rfl, fun h => (by simp [Dk.dat, ho] at h), by simp [risingS]⟩, rfl⟩
  · rename_i ho
    ((with_reducible refine (keys_ok _).mono ?_); rintro _ _ ⟨rfl, rfl⟩; (conv => whnf))
    refine (sorted_ok _ (d.fs.map Fl.name) (ent_keys _) (by have := hd.nd; rwa [show d.dat.fs = d.fs.map Fl.dat from rfl, dat_names] at this) (by have := hd.few; simp [Dk.dat] at this ⊢; omega) ?_).mono ?_
    · intro n hn
      obtain ⟨f, hf, rfl⟩ := List.mem_map.1 hn
      have := goodS_size (hd.good f.dat (List.mem_map.2 ⟨f, hf, rfl⟩))
      have h2 : (1000 : Nat) ≤ maxLen := by decide
      exact Nat.le_trans this h2
    rintro _ _ ⟨rfl, ss, hp, hr, rfl⟩
    conv => whnf
    refine ⟨by simp [ho, avOf1], ss, ⟨fun h => (by simp [Dk.dat, ho] at h), fun _ => by rw [show d.dat.fs = d.fs.map Fl.dat from rfl, dat_names]; exact hp, hr⟩, rfl⟩
end Go.Proofs.Ytgoejddmglgogaa
namespace Go.Proofs.Ytgoejddmglgogaa
open Go.Ab Go.RowKit
attribute [local irreducible] ACalls AW ADraw Into
theorem clone_ok (xs : List UInt8) (hm : xs.length ≤ 140737488355328) : ACalls Try.prog 17 [.d (.sl 1 (u8s xs))] [] (fun av L => av = .d (.sl 1 (u8s xs)) ∧ L = []) := by
  refine acalls_go ttOk zOk foOk Try.func17 rfl Try.ntmps17 rfl false rfl ?_
  conv => whnf
  intro b hb
  conv => whnf
  refine sp_any (fun h => ?_) (fun h => ?_)
  · conv => whnf
    exact ⟨by rw [hb h], rfl⟩
  · conv => whnf
    refine ⟨by simp [u8s]; omega, ?_⟩
    conv => whnf
    exact ⟨rfl, rfl⟩
theorem clone_row (xs : List UInt8) (hm : xs.length ≤ 140737488355328) : ACalls Try.prog 17 [.d (.sl 1 (u8s xs))] [] (fun av L => av = .arr 0 ∧ L = [.row 5 1 (u8s xs) false]) := by
  (refine acalls_go ttOk zOk foOk Try.func17 rfl Try.ntmps17 rfl true rfl ?_); (conv => whnf)
  intro b hb
  conv => whnf
  refine sp_any (fun h => ?_) (fun h => ?_)
  · conv => whnf
    exact ⟨rfl, by rw [hb h]⟩
  · conv => whnf
    refine ⟨by simp [u8s]; omega, ?_⟩
    conv => whnf
    exact ⟨rfl, rfl⟩
end Go.Proofs.Ytgoejddmglgogaa
namespace Go.Proofs.Ytgoejddmglgogaa
open Go.Ab Go.RowKit Go.MapKept
attribute [local irreducible] ACalls AW ADraw Into fltB fnear
set_option maxRecDepth 100000
theorem equal_ok (a b : List UInt8) : ACalls Try.prog 51 [.d (.sl 1 (u8s a)), .d (.sl 1 (u8s b))] [] (fun av L => av = .d (.bool (decide (a = b))) ∧ L = []) := by
  (refine acalls_go ttOk zOk foOk Try.func51 rfl Try.ntmps51 rfl false rfl ?_); (conv => whnf)
  refine ⟨a, rfl, ?_⟩
  conv => whnf
  refine ⟨b, rfl, ?_⟩
  conv => whnf
  have h : ∀ x : List UInt8, (⟨x.toArray⟩ : ByteArray).toList = x := fun x => by rw [ByteArray.toList_eq]
  rw [h, h]
  refine ⟨?_, rfl⟩
  congr 2
  rw [Bool.eq_iff_iff]
  simp
theorem tdiv_in (p n : Int) (hn : 0 < n) (hp : -9223372036854775808 ≤ p ∧ p < 9223372036854775808) : -9223372036854775808 ≤ p.tdiv n ∧ p.tdiv n < 9223372036854775808 := by
  rcases Int.lt_or_le p 0 with h | h
  · have e : p.tdiv n = -((-p).tdiv n) := by rw [Int.neg_tdiv, Int.neg_neg]
    rw [e, Int.tdiv_eq_ediv_of_nonneg (by omega)]
    have h1 : (-p) / n ≤ -p := Int.ediv_le_self _ (by omega)
    have h2 : 0 ≤ (-p) / n := Int.ediv_nonneg (by omega) (by omega)
    omega
  · rw [Int.tdiv_eq_ediv_of_nonneg h]
    have h1 : p / n ≤ p := Int.ediv_le_self _ h
    have h2 : 0 ≤ p / n := Int.ediv_nonneg h (by omega)
    omega
theorem tmod_in (p n : Int) (hn : 0 < n) : (0 ≤ p.tmod n ∧ p.tmod n = p % n ∧ p.tdiv n = p / n ∧ p.tmod n < n) ∨ (-n < p.tmod n ∧ p.tmod n < 0 ∧ p.tmod n + n = p % n ∧ p.tdiv n - 1 = p / n) := by
  have hd := Int.mul_tdiv_add_tmod p n
  have h3 : p.tmod n < n := Int.tmod_lt_of_pos p hn
  have h4 : -n < p.tmod n := by
    have := Int.tmod_lt_of_pos (-p) hn
    rw [Int.neg_tmod] at this; omega
  rcases Int.lt_or_le (p.tmod n) 0 with h | h
  · right
    have := (Int.ediv_emod_unique (a := p) (b := n) (r := p.tmod n + n) (q := p.tdiv n - 1) hn).2 ⟨by rw [Int.mul_sub]; omega, by omega, by omega⟩
    exact ⟨h4, h, this.2.symm, this.1.symm⟩
  · left
    have := (Int.ediv_emod_unique (a := p) (b := n) (r := p.tmod n) (q := p.tdiv n) hn).2 ⟨by omega, h, h3⟩
    exact ⟨h, this.2.symm, this.1.symm, h3⟩
theorem modulo_ok (p n : Int) (hn : 0 < n) (hn2 : n ≤ 4611686018427387904) (hp : -9223372036854775808 ≤ p ∧ p < 9223372036854775808) : ACalls Try.prog 52 [.d (.int .i64 p), .d (.int .i64 n)] [] (fun av L => av = .tup [.d (.int .i64 (p % n)), .d (.int .i64 (p / n))] ∧ L = []) := by
  (refine acalls_go ttOk zOk foOk Try.func52 rfl Try.ntmps52 rfl false rfl ?_); (conv => whnf)
  ((with_reducible refine draw_pl ttOk zOk foOk mixedOk pl52x1 ?_ ?_); (focus kernel_rfl); (conv => whnf))
  refine rdw ?_; repeat' ((with_reducible apply tw) <;> intro _)
  ((with_reducible apply rd_intro); (focus (intro K hK; (conv => whnf); refine ⟨by omega, ?_⟩; intro z hz; subst hz; exact hK)); (conv => whnf))
  refine rdw ?_; repeat' ((with_reducible apply tw) <;> intro _)
  ((with_reducible apply rd_intro); (focus (intro K hK; (conv => whnf); refine ⟨by omega, ?_⟩; intro z hz; subst hz; exact hK)); (conv => whnf))
  have hq := tdiv_in p n hn hp
  rw [show IntKind.i64.wrap (p.tdiv n) = p.tdiv n from wrapI hq]
  have hl := tmod_in p n hn
  refine rdw ?_; repeat' ((with_reducible apply tw) <;> intro _)
  · intro z hz
    conv => whnf
    refine ⟨?_, rfl⟩
    subst hz
    rcases hl with hl | hl
    · omega
    · rw [show IntKind.i64.wrap (p.tdiv n - 1) = p.tdiv n - 1 from wrapI (by have := Int.le_ediv_of_mul_le (a := -9223372036854775808) (b := p) hn (by omega); omega)]
      rw [← hl.2.2.1, ← hl.2.2.2]
  · rcases hl with hl | hl
    · rw [← hl.2.1, ← hl.2.2.1]; exact ⟨rfl, rfl⟩
    · omega
end Go.Proofs.Ytgoejddmglgogaa
namespace Go.Proofs.Ytgoejddmglgogaa
open Go.Ab Go.RowKit
def padTo (n : Nat) (l : List UInt8) : List UInt8 := l ++ List.replicate (n - l.length) 0
def tornN (safe seen : List UInt8) (p : Int) : Nat := min ((p % (((max safe.length seen.length + 31) / 32 : Nat) + 1 : Int)).toNat * 32) (max safe.length seen.length)
def tornL (safe seen : List UInt8) (p : Int) : List UInt8 :=
  ((padTo (max safe.length seen.length) seen).take (tornN safe seen p) ++ (padTo (max safe.length seen.length) safe).drop (tornN safe seen p)).take seen.length
def headP : List Int → Int
  | [] => 0
  | p :: _ => p
def stepC (f : FD) (picks : List Int) : List UInt8 × List Int :=
  if f.safe = f.seen then (f.seen, picks) else
  (if headP picks % 3 = 0 then f.safe else if headP picks % 3 = 2 then tornL f.safe f.seen (headP picks / 3) else f.seen, picks.tail)
def crashAt (fs : List FD) (picks : List Int) : Nat → List FileS × List Int
  | 0 => ([], picks)
  | k + 1 => match fs[k]? with
    | none => crashAt fs picks k
    | some f => ((crashAt fs picks k).1 ++ [⟨f.name, (stepC f (crashAt fs picks k).2).1⟩], (stepC f (crashAt fs picks k).2).2)
theorem crashAt_succ {fs : List FD} {picks : List Int} {k : Nat} {f : FD} (h : fs[k]? = some f) : crashAt fs picks (k + 1) = ((crashAt fs picks k).1 ++ [⟨f.name, (stepC f (crashAt fs picks k).2).1⟩], (stepC f (crashAt fs picks k).2).2) := by
  simp only [crashAt, h]
theorem crash_length {fs : List FD} {picks : List Int} : ∀ {k : Nat}, k ≤ fs.length → (crashAt fs picks k).1.length = k
  | 0, _ => rfl
  | k + 1, h => by
    rw [crashAt_succ (List.getElem?_eq_getElem (show k < fs.length by omega))]
    simp [crash_length (show k ≤ fs.length by omega)]
theorem step_sub (f : FD) (picks : List Int) : (stepC f picks).2 = picks ∨ (stepC f picks).2 = picks.tail := by
  unfold stepC
  split
  · exact .inl rfl
  · exact .inr rfl
theorem crash_picks {fs : List FD} {picks : List Int} : ∀ {k : Nat}, ∀ x ∈ (crashAt fs picks k).2, x ∈ picks
  | 0, x, h => h
  | k + 1, x, h => by
    cases hf : fs[k]? with
    | none => simp only [crashAt, hf] at h; exact crash_picks x h
    | some f =>
      rw [crashAt_succ hf] at h
      rcases step_sub f (crashAt fs picks k).2 with e | e
      · simp only [e] at h; exact crash_picks x h
      · simp only [e] at h; exact crash_picks x (List.mem_of_mem_tail h)
def pickFs (ss : List ByteArray) (fs : List FD) : List FD := ss.filterMap fun n => getN n fs
theorem pick_names {fs : List FD} : ∀ {ss : List ByteArray}, (∀ n ∈ ss, n ∈ fs.map FD.name) → (pickFs ss fs).map FD.name = ss
  | [], _ => rfl
  | n :: r, h => by
    cases hg : getN n fs with
    | none => exact absurd (h n (by simp)) (getN_not hg)
    | some f =>
      have := pick_names (fs := fs) (ss := r) fun m hm => h m (by simp [hm])
      simp only [pickFs] at this
      simp only [pickFs, List.filterMap_cons, hg, List.map_cons, getN_name hg, this]
theorem getN_mem : ∀ {fs : List FD}, (fs.map FD.name).Nodup → ∀ {f : FD}, f ∈ fs → getN f.name fs = some f
  | [], _, _, h => by simp at h
  | x :: r, hn, f, h => by
    simp only [getN]
    split
    · rename_i he
      exact congrArg some (inj_name hn (by simp) h he.symm)
    · rename_i he
      rcases List.mem_cons.1 h with rfl | h
      · exact absurd rfl he
      · exact getN_mem (List.nodup_cons.1 hn).2 h
theorem pick_self {fs : List FD} (hn : (fs.map FD.name).Nodup) : pickFs (fs.map FD.name) fs = fs := by
  have : ∀ l : List FD, (∀ f ∈ l, f ∈ fs) → pickFs (l.map FD.name) fs = l := by
    intro l
    induction l with
    | nil => intro _; rfl
    | cons x r ih =>
      intro h
      have := ih fun f hf => h f (by simp [hf])
      simp only [pickFs] at this
      simp only [pickFs, List.map_cons, List.filterMap_cons, getN_mem hn (h x (by simp)), this]
  exact this fs fun f hf => hf
theorem pick_get {ss : List ByteArray} {fs : List FD} (h : ∀ n ∈ ss, n ∈ fs.map FD.name) {k : Nat} {f : FD} (hk : (pickFs ss fs)[k]? = some f) : ss[k]? = some f.name ∧ getN f.name fs = some f := by
  constructor
  · have := congrArg (fun l => l[k]?) (pick_names h)
    simp only [List.getElem?_map, hk, Option.map_some] at this
    exact this.symm
  · have := List.mem_of_getElem? hk
    unfold pickFs at this
    obtain ⟨n, _, hg⟩ := List.mem_filterMap.1 this
    rw [getN_name hg]; exact hg
theorem findF_of_get {n : ByteArray} {d : Dk} {g : FD} (h : getN n d.dat.fs = some g) : ∃ i f, findF n d.fs 0 = some (i, f) ∧ f.dat = g := by
  have := findF_get (n := n) (fs := d.fs) (j := 0)
  rw [show getN n (d.fs.map Fl.dat) = some g from h] at this
  cases hf : findF n d.fs 0 with
  | none => rw [hf] at this; cases this
  | some p => rw [hf] at this; exact ⟨p.1, p.2, rfl, by simpa using this⟩
end Go.Proofs.Ytgoejddmglgogaa
namespace Go.Proofs.Ytgoejddmglgogaa
open Go.Ab Go.RowKit Go.MapKept
attribute [local irreducible] ACalls AW ADraw Into fltB fnear
set_option maxRecDepth 100000
def longestL (l : List (List UInt8)) : Nat := l.foldl (fun m x => max m x.length) 0
end Go.Proofs.Ytgoejddmglgogaa
