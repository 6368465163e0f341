/- AuditDags: contracts. -/
import Derived.Test.YtodimgkpjnpbiaaGreatAuditDagsRowA
import Derived.Test.YtodimgkpjnpbiaaGreatProg
set_option linter.unusedVariables false
set_option linter.unusedSimpArgs false
namespace Go.Proofs.YtodimgkpjnpbiaaGreat
open Go.Ab Go.RowKit
def ttab:List (Nat×TI):=[
 (3,⟨(.int .i64),(.int .i64 0),1,8,false,false⟩),
 (4,⟨(.bool),(.bool false),1,1,false,false⟩),
 (23,⟨(.slice 3),(.slice none 0 0),1,24,false,false⟩),
 (47,⟨(.struct #[(Field.mk "Header" 45 0 false "" "" 0),(Field.mk "Digest" 3 4 false "" "" 64),(Field.mk "Signers" 23 5 false "" "" 72)]),(.agg #[.int .i64 0,.int .i64 0,.slice none 0 0,.slice none 0 0,.int .i64 0,.slice none 0 0]),6,96,false,false⟩),
 (22,⟨(.slice 47),(.slice none 0 0),1,24,false,false⟩),
 (29,⟨(.struct #[(Field.mk "Nodes" 3 0 false "" "" 0),(Field.mk "Low" 3 1 false "" "" 8),(Field.mk "Certs" 22 2 false "" "" 16)]),(.agg #[.int .i64 0,.int .i64 0,.slice none 0 0]),3,40,false,false⟩),
 (45,⟨(.struct #[(Field.mk "Author" 3 0 false "" "" 0),(Field.mk "Round" 3 1 false "" "" 8),(Field.mk "Batches" 23 2 false "" "" 16),(Field.mk "Parents" 23 3 false "" "" 40)]),(.agg #[.int .i64 0,.int .i64 0,.slice none 0 0,.slice none 0 0]),4,64,false,false⟩),
 (5,⟨(.int .u8),(.int .u8 0),1,1,false,false⟩),
 (9,⟨(.string),(.string (ByteArray.mk #[])),1,16,false,false⟩),
 (2,⟨(.int .i64),(.int .i64 0),1,8,false,false⟩),
 (12,⟨(.int .u64),(.int .u64 0),1,8,false,false⟩),
 (21,⟨(.int .i32),(.int .i32 0),1,4,false,false⟩),
 (24,⟨(.struct #[(Field.mk "N" 3 0 false "" "" 0),(Field.mk "L" 22 1 false "" "" 8),(Field.mk "Outs" 23 2 false "" "" 32)]),(.agg #[.int .i64 0,.slice none 0 0,.slice none 0 0]),3,56,false,false⟩),
 (25,⟨(.struct #[(Field.mk "N" 3 0 false "" "" 0),(Field.mk "L" 22 1 false "" "" 8),(Field.mk "Outs" 23 2 false "" "" 32)]),(.agg #[.int .i64 0,.slice none 0 0,.slice none 0 0]),3,56,false,false⟩),
 (28,⟨(.struct #[(Field.mk "Nodes" 3 0 false "" "" 0),(Field.mk "Low" 3 1 false "" "" 8),(Field.mk "Certs" 22 2 false "" "" 16)]),(.agg #[.int .i64 0,.int .i64 0,.slice none 0 0]),3,40,false,false⟩),
 (32,⟨(.int .i64),(.int .i64 0),1,8,false,false⟩),
 (44,⟨(.struct #[(Field.mk "Author" 3 0 false "" "" 0),(Field.mk "Round" 3 1 false "" "" 8),(Field.mk "Batches" 23 2 false "" "" 16),(Field.mk "Parents" 23 3 false "" "" 40)]),(.agg #[.int .i64 0,.int .i64 0,.slice none 0 0,.slice none 0 0]),4,64,false,false⟩),
 (46,⟨(.struct #[(Field.mk "Header" 45 0 false "" "" 0),(Field.mk "Digest" 3 4 false "" "" 64),(Field.mk "Signers" 23 5 false "" "" 72)]),(.agg #[.int .i64 0,.int .i64 0,.slice none 0 0,.slice none 0 0,.int .i64 0,.slice none 0 0]),6,96,false,false⟩),
 (81,⟨(.complex .f64),(.complex .f64 0 0),1,16,false,false⟩),
 (85,⟨(.struct #[(Field.mk "Round" 3 0 false "" "" 0),(Field.mk "Done" 23 1 false "" "" 8),(Field.mk "Count" 3 2 false "" "" 32)]),(.agg #[.int .i64 0,.slice none 0 0,.int .i64 0]),3,40,false,false⟩),
 (86,⟨(.struct #[(Field.mk "Round" 3 0 false "" "" 0),(Field.mk "Done" 23 1 false "" "" 8),(Field.mk "Count" 3 2 false "" "" 32)]),(.agg #[.int .i64 0,.slice none 0 0,.int .i64 0]),3,40,false,false⟩),
 (93,⟨(.float .f64),(.float .f64 0),1,8,false,false⟩),
 (98,⟨(.pointer 100),(.pointer none),1,8,false,false⟩),
 (99,⟨(.struct #[(Field.mk "d" 29 0 false "" "drover/cursor" 0),(Field.mk "c" 86 3 false "" "drover/cursor" 40),(Field.mk "outs" 23 6 false "" "drover/cursor" 80)]),(.agg #[.int .i64 0,.int .i64 0,.slice none 0 0,.int .i64 0,.slice none 0 0,.int .i64 0,.slice none 0 0]),7,104,false,false⟩),
 (100,⟨(.struct #[(Field.mk "d" 29 0 false "" "drover/cursor" 0),(Field.mk "c" 86 3 false "" "drover/cursor" 40),(Field.mk "outs" 23 6 false "" "drover/cursor" 80)]),(.agg #[.int .i64 0,.int .i64 0,.slice none 0 0,.int .i64 0,.slice none 0 0,.int .i64 0,.slice none 0 0]),7,104,false,true⟩),
 (103,⟨(.int .u64),(.int .u64 0),1,8,false,false⟩),
 (116,⟨(.map 3 4),(.map none),1,8,false,false⟩),
 (119,⟨(.int .i64),(.int .i64 0),1,8,false,false⟩),
 (125,⟨(.int .u32),(.int .u32 0),1,4,false,false⟩),
 (127,⟨(.int .u64),(.int .u64 0),1,8,false,false⟩),
 (128,⟨(.int .u64),(.int .u64 0),1,8,false,false⟩),
 (132,⟨(.pointer 3),(.pointer none),1,8,false,false⟩),
 (134,⟨(.pointer 128),(.pointer none),1,8,false,false⟩),
 (147,⟨(.pointer 5),(.pointer none),1,8,false,false⟩)]
noncomputable def tt:TypeId→Option TI:=tget ttab
theorem ttOk:TTok Tryz.prog tt:=TTok_of (by
 unfold ttab ttAll;refine ⟨⟨by kernel_rfl,by kernel_rfl⟩,⟨by kernel_rfl,by kernel_rfl⟩,⟨by kernel_rfl,by kernel_rfl⟩,⟨by kernel_rfl,by kernel_rfl⟩,⟨by kernel_rfl,by kernel_rfl⟩,⟨by kernel_rfl,by kernel_rfl⟩,⟨by kernel_rfl,by kernel_rfl⟩,⟨by kernel_rfl,by kernel_rfl⟩,⟨by kernel_rfl,by kernel_rfl⟩,⟨by kernel_rfl,by kernel_rfl⟩,⟨by kernel_rfl,by kernel_rfl⟩,⟨by kernel_rfl,by kernel_rfl⟩,⟨by kernel_rfl,by kernel_rfl⟩,⟨by kernel_rfl,by kernel_rfl⟩,⟨by kernel_rfl,by kernel_rfl⟩,⟨by kernel_rfl,by kernel_rfl⟩,⟨by kernel_rfl,by kernel_rfl⟩,⟨by kernel_rfl,by kernel_rfl⟩,⟨by kernel_rfl,by kernel_rfl⟩,⟨by kernel_rfl,by kernel_rfl⟩,⟨by kernel_rfl,by kernel_rfl⟩,⟨by kernel_rfl,by kernel_rfl⟩,⟨by kernel_rfl,by kernel_rfl⟩,⟨by kernel_rfl,by kernel_rfl⟩,⟨by kernel_rfl,by kernel_rfl⟩,⟨by kernel_rfl,by kernel_rfl⟩,⟨by kernel_rfl,by kernel_rfl⟩,⟨by kernel_rfl,by kernel_rfl⟩,⟨by kernel_rfl,by kernel_rfl⟩,⟨by kernel_rfl,by kernel_rfl⟩,⟨by kernel_rfl,by kernel_rfl⟩,⟨by kernel_rfl,by kernel_rfl⟩,⟨by kernel_rfl,by kernel_rfl⟩,⟨by kernel_rfl,by kernel_rfl⟩,trivial⟩) (by kernel_rfl)
theorem zOk:ZOok tt:=ZOok_of (by kernel_rfl)
def ftab:List Nat:=[3,4,5,6,7,8,9,10,11,12,13,14,15,16,17,18,19,20,21,22,23,24,25,26,27,28,29,30,31,32,33,34,35,36,37,38,39,40,41,42,43,44,45,46,47,48,49,50,51,52,53,54,55,56,57,58,59,60,61,62,63,64,65,66,67,68,69,70,71,72,73,74,75,76,78,79,80,81,82,83,84,85,86,87,88,89,90,91,92,93,94,95,96,97,98,99,100,101,102,103,104,105,106,107,108,109,110,111,112,113,114,115,116,117,118,119,120,121,122,123,124]
noncomputable def fo:FuncId→Bool:=fun g=>memB g ftab
theorem foOk:FOok Tryz.prog fo:=FOok_of (by kernel_rfl)
end Go.Proofs.YtodimgkpjnpbiaaGreat
namespace Go.Proofs.YtodimgkpjnpbiaaGreat
open Go.Ab
def pl6x8:Plan:=⟨[[],[],[],[2,1],[1,2,3],[3,2,1,4,0],[0,4,1,2,3,5],[5,3,2,1,4,0,6],[5,3,2,1,4,0,6],[],[6,0,4,1,2,3,5,7,9],[9,7,10,6,0,4,1,2,3,5,8]],[0,1,2,3,4,5,6,7,8],[(9,[]),(10,[11])]⟩
def pl11x6:Plan:=⟨[[],[],[1,0],[0,1,2],[],[],[5,4],[4,5,6],[6,5,4,7,2,1,0,3],[3,0,1,2,7,4,5,6,8]],[0,1,2,3,4,5,6,7],[(8,[9])]⟩
def pl16x14:Plan:=⟨[[],[],[1],[1,2],[2,1,3,0],[0,3,1,2,4],[4,2,1,3,0,5],[5,0,3,1,2,4,6],[4,2,1,3,0,5],[8,6,4,2,1,3,0,5,7],[7,5,0,3,1,2,4,6,8,9],[9,8,6,4,2,1,3,0,5,7,10],[10,7,5,0,3,1,2,4,6,8,9,11],[4,2,1,3,0,5],[5,0,3,1,2,4,13],[4,2,1,3,0,5],[15,13,4,2,1,3,0,5,14],[14,5,0,3,1,2,4,13,15,16],[16,15,13,4,2,1,3,0,5,14,17],[17,14,5,0,3,1,2,4,13,15,16,18],[4,2,1,3,0,5],[5,0,3,1,2,4,20],[20,4,2,1,3,0,5,21],[4,2,1,3,0,5],[5,0,3,1,2,4,23],[23,4,2,1,3,0,5,24],[24,23,25,21,20,22,18,16,15,13,14,17,19,11,9,8,6,4,2,1,3,0,5,7,10,12],[12,10,7,6,8,9,11,19,17,14,13,15,16,18,22,20,21,25,23,24,26,4,2,1,3,0,5]],[0,1,2,3,4,5,6,7,8,9,10,11,12,13,14,15,16,17,18,19,20,21,22,23,24,25],[(26,[27])]⟩
def pl16x17:Plan:=⟨[[],[0],[],[2,0,1],[1,0,2,3],[],[3,2,0,1,4,5],[5,4,1,0,2,3,6],[6,5,7,3,2,0,1,4],[8,7,6,5,4,3,2,1,0],[0,1,2,3,4,5,6,7,8,9]],[0,1,2,3,5],[(4,[]),(6,[]),(7,[]),(8,[9]),(10,[])]⟩
def pl16x18:Plan:=⟨[[],[0],[],[2],[],[4,2,3],[3,2,4,5],[5,4,2,3,6,0,1],[7,6,5,4,3,2,1,0],[0,1,2,3,4,5,6,7,8]],[0,1,2,3,4,5],[(6,[]),(7,[8]),(9,[])]⟩
def pl24x1:Plan:=⟨[[],[0],[0,1],[],[3],[3,4],[4,3,5,1,0,2],[2,0,1,5,3,4,6]],[0,1,3,4,5],[(2,[6,7])]⟩
def pl26x1:Plan:=⟨[[],[0],[],[2,0,1],[1,0,2,3],[3,2,0,1,4],[4,1,0,2,3,5],[5,3,2,0,1,4,6],[6,5,7,3,2,0,1,4],[4,1,0,2,3,7,5,6,8],[8,6,5,7,3,2,0,1,4,9],[9,4,1,0,2,3,7,5,6,8,10],[10,8,6,5,7,3,2,0,1,4,9,11],[11,10,12,8,6,5,7,3,2,0,1,4,9],[9,4,1,0,2,3,7,5,6,8,12,10,11,13],[13,11,10,12,8,6,5,7,3,2,0,1,4,9,14],[14,9,4,1,0,2,3,7,5,6,8,12,10,11,13,15],[13,11,10,12,8,6,5,7,3,2,0,1,4,9,14],[17,15,13,11,10,12,8,6,5,7,3,2,0,1,4,9,14,16],[16,15,17,18,13,11,10,12,8,6,5,7,3,2,0,1,4,9,14],[14,9,4,1,0,2,3,7,5,6,8,12,10,11,13,18,17,15,16,19],[19,16,15,17,18,13,11,10,12,8,6,5,7,3,2,0,1,4,9,14,20],[20,14,9,4,1,0,2,3,7,5,6,8,12,10,11,13,18,17,15,16,19,21],[21,19,16,15,17,18,13,11,10,12,8,6,5,7,3,2,0,1,4,9,14,20,22],[19,16,15,17,18,13,11,10,12,8,6,5,7,3,2,0,1,4,9,14,20],[20,14,9,4,1,0,2,3,7,5,6,8,12,10,11,13,18,17,15,16,19,24],[24,25,22,20,14,9,4,1,0,2,3,7,5,6,8,12,10,11,13,18,17,15,16,19,21,23],[23,21,22,25,24,26,19,16,15,17,18,13,11,10,12,8,6,5,7,3,2,0,1,4,9,14,20],[20,14,9,4,1,0,2,3,7,5,6,8,12,10,11,13,18,17,15,16,19,26,24,25,22,21,23,27]],[0,1,2],[(3,[4,5,6]),(7,[8,9,10,11]),(12,[13,14,15,16,17]),(18,[19,20,21,22,23,24]),(25,[26,27,28])]⟩
def pl29x7:Plan:=⟨[[],[],[1],[],[3,1,2],[2,1,3,4],[4,3,1,2,5,0],[0,5,2,1,3,4,6]],[0,1,2,3,4,5],[(6,[7])]⟩
def pl29x8:Plan:=⟨[[],[0],[0,1],[1,0,2],[2,0,1,3],[1,0,2],[5,3,1,0,2,4],[4,2,0,1,3,5,6],[6,5,3,1,0,2,4,7],[7,4,2,0,1,3,5,6,8],[1,0,2],[2,0,1,10],[10,1,0,2,11],[11,10,12,8,6,5,3,1,0,2,4,7,9],[9,7,4,3,5,6,8,12,10,11,13,1,0,2]],[0,1,2,3,4,5,6,7,8,9,10,11,12,13,14],[]⟩
def pl36x1:Plan:=⟨[[],[0],[],[2,0,1],[1,0,2,3],[3,2,0,1,4],[4,1,0,2,3,5],[5,3,2,0,1,4,6],[6,5,7,3,2,0,1,4],[4,1,0,2,3,7,5,6,8],[8,6,5,7,3,2,0,1,4,9],[9,4,1,0,2,3,7,5,6,8,10],[8,6,5,7,3,2,0,1,4,9],[12,10,8,6,5,7,3,2,0,1,4,9,11],[11,10,12,13,8,6,5,7,3,2,0,1,4,9],[9,4,1,0,2,3,7,5,6,8,13,12,10,11,14],[14,11,10,12,13,8,6,5,7,3,2,0,1,4,9,15],[15,9,4,1,0,2,3,7,5,6,8,13,12,10,11,14,16],[16,14,11,10,12,13,8,6,5,7,3,2,0,1,4,9,15,17],[14,11,10,12,13,8,6,5,7,3,2,0,1,4,9,15],[15,9,4,1,0,2,3,7,5,6,8,13,12,10,11,14,19],[19,20,17,15,9,4,1,0,2,3,7,5,6,8,13,12,10,11,14,16,18],[18,16,17,20,19,21,14,11,10,12,13,8,6,5,7,3,2,0,1,4,9,15],[15,9,4,1,0,2,3,7,5,6,8,13,12,10,11,14,21,19,20,17,16,18,22]],[0,1,2],[(3,[4,5,6]),(7,[8,9,10,11,12]),(13,[14,15,16,17,18,19]),(20,[21,22,23])]⟩
def pl39x1:Plan:=⟨[[],[0],[],[2],[2,3,0,1],[1,0,3,2,4],[4,2,3,0,1,5],[4,2,3,0,1,5],[5,1,0,3,2,4,6],[6,8,5,1,0,3,2,4,7]],[0,1,2],[(3,[]),(4,[5,6,7,8,9])]⟩
def pl39x4:Plan:=⟨[[],[0],[0,1],[1,0,2],[0,1],[4,2,0,1,3],[3,1,0,2,4,5],[5,4,2,0,1,3,6],[0,1],[1,0,8],[8,9,6,3,1,0,2,4,5,7],[7,5,4,2,3,6,9,8,10,0,1],[1,0,10,8,9,6,3,2,4,5,7,11]],[0,1,2,3,4,5,6,7,8,9,10,11,12],[]⟩
def pl39x10:Plan:=⟨[[],[0],[0,1],[],[],[1,0,2,4],[4,2,0,1,5],[5,4,6,3,1,0,2],[7,6,5,4,3,2,1,0],[0,1,2,3,4,5,6,7,8]],[0,1,3,4],[(2,[]),(5,[]),(6,[]),(7,[8]),(9,[])]⟩
def pl42x6:Plan:=⟨[[],[],[1,0],[0,1,2],[],[],[5,4],[4,5,6],[6,5,4,7,2,1,0,3]],[0,1,2,3,4,5,6,7,8],[]⟩
def pl46x6:Plan:=⟨[[],[],[1,0],[0,1,2],[],[],[5,4],[4,5,6],[6,5,4,7,2,1,0,3]],[0,1,2,3,4,5,6,7,8],[]⟩
def pl48x5:Plan:=⟨[[],[0],[0,1],[],[3],[3,4,1,0,2],[2,0,1,4,3,5]],[0,1,2,3],[(4,[5,6])]⟩
def pl50x4:Plan:=⟨[[],[],[1,0],[0,1,2],[],[],[5],[5,6,4],[4,6,5,7],[7,5,6,4,8,2,1,0,3]],[0,1,2,3,4,5,6,7,8,9],[]⟩
def pl54x1:Plan:=⟨[[],[0],[0,1],[1,0,2],[1,0,2],[4,2,0,1,3],[3,4,5,1,0,2],[2,0,1,5,4,3,6],[6,3,4,5,1,0,2,7],[7,2,0,1,5,4,3,6,8],[8,6,3,4,5,1,0,2,7,9],[9,7,2,0,1,5,4,3,6,8,10],[10,8,6,3,4,5,1,0,2,7,9,11],[11,9,7,2,0,1,5,4,3,6,8,10,12],[12,10,8,6,3,4,5,1,0,2,7,9,11,13],[10,8,6,3,4,5,1,0,2,7,9,11],[11,9,7,2,0,1,5,4,3,6,8,10,15],[15,16,13,11,9,7,2,0,1,5,4,3,6,8,10,12,14],[14,12,13,16,15,17,10,8,6,3,4,5,1,0,2,7,9,11],[11,9,8,10,17,15,16,13,12,14,18,6,3,4,5,1,0,2,7],[7,2,0,1,5,4,3,6,18,14,12,13,16,15,17,10,8,9,11,19]],[0],[(1,[2,3,4]),(5,[6,7,8,9,10,11,12,13,14,15]),(16,[17,18,19,20])]⟩
def pl58x1:Plan:=⟨[[],[0],[0,1],[],[3],[1,0,2,3,4],[4,3,2,1,0],[5,0,1,2,3,4,6],[7,6,5,4,3,2,1,0],[0,1,2,3,4,5,6,7,8]],[0,1,3,4],[(2,[6]),(5,[]),(7,[8]),(9,[])]⟩
def pl64x2:Plan:=⟨[[],[],[1],[1,2],[2,1,3],[3,1,2,4],[4,2,1,3,5,0],[0,5,3,1,2,4,6]],[0,1,2,3,4,5],[(6,[7])]⟩
def pl64x5:Plan:=⟨[[],[],[1],[1,2],[2,1,3],[3,1,2,4],[],[6,4,2,1,3,5,0],[0,5,3,1,2,4,6,7],[]],[0,1,2,3,4,5,6,9],[(7,[8])]⟩
def pl64x4:Plan:=⟨[[],[],[1],[1,2],[2,1,3],[3,1,2,4],[4,2,1,3,5,0],[0,5,3,1,2,4,6]],[0,1,2,3,4,5],[(6,[7])]⟩
def pl64x10:Plan:=⟨[[],[0],[0,1],[1,0,2],[],[4],[4,5],[5,4,6],[2,0,1,3],[3,1,0,2,8,6,4,5,7]],[0,1,2,3,4,5,6,7],[(8,[9])]⟩
def pl68x1:Plan:=⟨[[],[0],[0,1],[],[3],[1,0,2,3,4],[4,3,2,1,0],[5,0,1,2,3,4,6],[7,6,5,4,3,2,1,0],[0,1,2,3,4,5,6,7,8]],[0,1,3,4],[(2,[6]),(5,[]),(7,[8]),(9,[])]⟩
def pl80x2:Plan:=⟨[[],[],[1],[1,2],[2,1,3,0],[0,3,1,2,4]],[0,1,2,3],[(4,[5])]⟩
def pl81x1:Plan:=⟨[[],[0],[0,1],[1,0,2],[],[],[5],[5,6],[6,5,7],[7,5,6,8],[8,6,5,7,9,4,2,0,1,3],[3,1,0,2,4,9,7,5,6,8,10]],[0,1,2,3,4,5,6,7,8,9],[(10,[11])]⟩
def pl81x9:Plan:=⟨[[],[0],[0,1],[1,0,2],[2,0,1,3],[3,1,0,2,4],[4,2,0,1,3,5],[5,3,1,0,2,4,6],[1,0,2],[8,6,4,2,0,1,3,5,7],[7,5,3,1,0,2,4,6,8,9],[9,8,6,4,2,0,1,3,5,7,10],[10,7,5,3,1,0,2,4,6,8,9,11],[1,0,2],[2,0,1,13],[13,1,0,2,14],[14,2,0,1,13,15],[15,13,1,0,2,14,16],[16,14,2,0,1,13,15,17],[17,15,13,14,16,18,11,9,8,6,4,2,0,1,3,5,7,10,12],[12,10,7,5,3,4,6,8,9,11,18,16,14,13,15,17,19,1,0,2]],[0,1,2,3,4,5,6,7,8,9,10,11,12,13,14,15,16,17,18,19,20],[]⟩
def pl87x1:Plan:=⟨[[],[],[1,0],[],[3],[0,1,2,3,4],[4,3,5,0,1,2],[2,1,0,5,3,4,6]],[0,1,3,4],[(2,[]),(5,[6,7])]⟩
def pl88x1:Plan:=⟨[[],[],[],[2],[],[4,2,3],[3,2,4,5,1],[1,5,4,2,3,6,0],[0,6,3,2,4,5,1,7],[7,1,5,4,2,3,6,0,8],[7,1,5,4,2,3,6,0,8],[],[8,0,6,3,2,4,5,1,7,9,11],[11,9,12,8,0,6,3,2,4,5,1,7,10]],[0,1,2,3,4,5,6,7,8,9,10],[(11,[]),(12,[13])]⟩
def pl90x1:Plan:=⟨[[],[],[],[2],[],[4,2,3],[3,2,4,5],[5,4,2,3,6],[6,3,2,4,5,7],[7,5,4,2,3,6,8],[8,6,3,2,4,5,7,9,1,0],[],[11],[],[13,11,12],[12,11,13,14],[14,13,11,12,15],[15,12,11,13,14,16,0,1,9,7,5,4,2,3,6,8,10],[10,8,6,3,2,4,5,7,9,1,0,16,14,13,11,12,15,17]],[0,1,2,3,4,5,6,7,8,9,11,12,13,14,15,16],[(10,[]),(17,[18])]⟩
def pl91x3:Plan:=⟨[[],[],[],[],[],[],[5,4],[4,5,6],[],[],[9,8],[8,9,10],[10,9,8,11,7,6,5,4,1,0],[0,1,4,5,6,7,11,8,9,10,12],[13,12,11,10,9,8,7,6,5,4,1,0,3,2],[2,3,0,1,4,5,6,7,8,9,10,11,12,13,14]],[0,1,2,3,4,5,6,7,8,9,10,11,12],[(13,[14]),(15,[])]⟩
def pl92x1:Plan:=⟨[[],[],[],[2],[],[4,2,3],[3,2,4,5],[5,4,2,3,6],[6,3,2,4,5,7],[7,5,4,2,3,6,8],[8,6,3,2,4,5,7,9,1,0],[0,1,9,7,5,4,2,3,6,8,10],[]],[0,1,2,3,4,5,6,7,8,9,12],[(10,[11])]⟩
end Go.Proofs.YtodimgkpjnpbiaaGreat
namespace Go.Proofs.YtodimgkpjnpbiaaGreat
open Go.Ab Go.RowKit
theorem mixedOk:Tryz.prog.follows .mixedOrders=true:=by kernel_rfl
def nums (l:List Int):List (List DV):=l.map fun n=>[.int .i64 n]
theorem nums_length (l:List Int):(nums l).length=l.length:=List.length_map ..
theorem nums_at {l:List Int} {k:Nat} {a:Int} (h:l[k]? = some a):(nums l)[k]? = some [.int .i64 a]:=by simp [nums,h]
theorem nums_app (l:List Int) (a:Int):nums l++[[.int .i64 a]]=nums (l++[a]):=by simp [nums]
theorem nums_apps (l m:List Int):nums l++nums m=nums (l++m):=by simp [nums]
structure Cert where
 author:Int
 round:Int
 bats:List Int
 pars:List Int
 digest:Int
 sigs:List Int
def Cert.cs (c:Cert):List DV:=[.int .i64 c.author,.int .i64 c.round,.sl 1 (nums c.bats),.sl 1 (nums c.pars),.int .i64 c.digest,.sl 1 (nums c.sigs)]
def Cert.cells (c:Cert):List AV:=c.cs.map AV.d
def Cert.av (c:Cert):AV := .agg c.cells
def Cert.hcells (c:Cert):List AV:=[.d (.int .i64 c.author),.d (.int .i64 c.round),.d (.sl 1 (nums c.bats)),.d (.sl 1 (nums c.pars))]
def Cert.hav (c:Cert):AV := .agg c.hcells
structure Dag where
 nodes:Int
 low:Int
 certs:List Cert
def certsD (l:List Cert):List (List DV):=l.map Cert.cs
theorem certsD_length (l:List Cert):(certsD l).length=l.length:=List.length_map ..
theorem certsD_at {l:List Cert} {k:Nat} {c:Cert} (h:l[k]? = some c):(certsD l)[k]? = some c.cs:=by simp [certsD,h]
def Dag.cells (d:Dag):List AV:=[.d (.int .i64 d.nodes),.d (.int .i64 d.low),.d (.sl 6 (certsD d.certs))]
def Dag.av (d:Dag):AV := .agg d.cells
structure Cursor where
 round:Int
 done:List Int
 count:Int
def i64 (n:Int):Prop := -9223372036854775808≤n∧n<9223372036854775808
def few {α:Type} (l:List α):Prop:=l.length≤140737488355328
structure Cert.ok (c:Cert):Prop where
 author:i64 c.author
 round:i64 c.round
 bats:few c.bats∧∀ n∈c.bats,i64 n
 pars:few c.pars∧∀ n∈c.pars,i64 n
 digest:i64 c.digest
 sigs:few c.sigs∧∀ n∈c.sigs,i64 n
end Go.Proofs.YtodimgkpjnpbiaaGreat
namespace Go.Proofs.YtodimgkpjnpbiaaGreat
open Go.Ab Go.RowKit Go.MapKept
attribute [local irreducible] ACalls AW ADraw Into fltB fnear
set_option maxRecDepth 100000
def plb (r a:Int):DV := .cplx .f64 (fnear .f64 r) (fnear .f64 a)
theorem placeOf_ok (r a:Int):ACalls Tryz.prog 74 [.d (.int .i64 r),.d (.int .i64 a)] [] (fun av L=>av = .d (plb r a)∧L=[]):=by
 (refine acalls_go ttOk zOk foOk Tryz.func74 rfl Tryz.ntmps74 rfl false rfl ?_);(conv=>whnf)
 exact ⟨rfl,rfl⟩
theorem dagPlace_ok (c:Cert):ACalls Tryz.prog 60 [c.av] [] (fun av L=>av = .d (plb c.round c.author)∧L=[]):=by
 (refine acalls_go ttOk zOk foOk Tryz.func60 rfl Tryz.ntmps60 rfl false rfl ?_);(conv=>whnf)
 refine (placeOf_ok c.round c.author).mono ?_
 rintro _ _ ⟨rfl,rfl⟩
 conv=>whnf
 exact ⟨rfl,rfl⟩
theorem isNaN_ok {x:Int} (hx:isF x):ACalls Tryz.prog 84 [.d (.flt .f64 (fnear .f64 x))] [] (fun av L=>av = .d (.bool false)∧L=[]):=by
 (refine acalls_go ttOk zOk foOk Tryz.func84 rfl Tryz.ntmps84 rfl false rfl ?_);(conv=>whnf)
 rw [flt_neq hx hx,decide_eq_false (fun h=>h rfl)]
 exact ⟨rfl,rfl⟩
def cmpI (x y:Int):Int:=if x<y then -1 else if x>y then 1 else 0
theorem compare_ok {x y:Int} (hx:isF x) (hy:isF y):ACalls Tryz.prog 73 [.d (.flt .f64 (fnear .f64 x)),.d (.flt .f64 (fnear .f64 y))] [] (fun av L=>av = .d (.int .i64 (cmpI x y))∧L=[]):=by
 (refine acalls_go ttOk zOk foOk Tryz.func73 rfl Tryz.ntmps73 rfl false rfl ?_);(conv=>whnf)
 ((with_reducible refine (isNaN_ok hx).mono ?_);rintro _ _ ⟨rfl,rfl⟩;(conv=>whnf))
 ((with_reducible refine (isNaN_ok hy).mono ?_);rintro _ _ ⟨rfl,rfl⟩;(conv=>whnf))
 rw [flt_lss hx hy]
 ((with_reducible refine mt_dec (fun _ => ?_) (fun _ => ?_))<;>(conv=>whnf))
 ·rename_i h
  exact ⟨by rw [cmpI,if_pos h];rfl,rfl⟩
 rename_i h
 rw [flt_gtr hx hy]
 ((with_reducible refine mt_dec (fun _ => ?_) (fun _ => ?_))<;>(conv=>whnf))
 ·rename_i h2
  exact ⟨by rw [cmpI,if_neg h,if_pos h2];rfl,rfl⟩
 ·rename_i h2
  exact ⟨by rw [cmpI,if_neg h,if_neg h2];rfl,rfl⟩
theorem or_ok (x y:Int):ACalls Tryz.prog 72 [.d (.sl 1 [[.int .i64 x],[.int .i64 y]])] [] (fun av L=>av = .d (.int .i64 (if x≠0 then x else y))∧L=[]):=by
 (refine acalls_go ttOk zOk foOk Tryz.func72 rfl Tryz.ntmps72 rfl false rfl ?_);(conv=>whnf)
 refine loop_go ttOk zOk foOk (σ:=Nat) (fun j=>([(3,.d (.int .i64 0)),(6,.d (.sl 1 [[.int .i64 x],[.int .i64 y]])),(7,.d (.int .i64 2)),(8,.d (.int .i64 j))],[])) (fun j=>j≤2∧(1≤j→x=0)∧(2≤j→y=0)) (fun j=>2 - j) [3,6,7,8] ?_ ?_
 ·conv=>whnf
  exact ⟨0,rfl,rfl,by omega,by omega,by omega⟩
 ·rintro j ⟨h1,h2,h3⟩
  conv=>whnf
  refine rdz ?_;repeat' ((with_reducible apply tw)<;>intro _)
  ·rename_i h
   rcases (show j=0∨j=1 by omega) with rfl|rfl
   ·refine ⟨by omega,[.int .i64 x],rfl,?_⟩
    conv=>whnf
    refine rdz ?_;repeat' ((with_reducible apply tw)<;>intro _)
    ·rename_i h
     exact ⟨by rw [if_pos h],rfl⟩
    ·rename_i h
     exact ⟨1,rfl,rfl,⟨by omega,fun _=>h,by omega⟩,by omega⟩
   ·obtain rfl:=h2 (by omega)
    refine ⟨by omega,[.int .i64 y],rfl,?_⟩
    conv=>whnf
    refine rdz ?_;repeat' ((with_reducible apply tw)<;>intro _)
    ·exact ⟨rfl,rfl⟩
    ·rename_i h
     exact ⟨2,rfl,rfl,⟨by omega,by omega,fun _=>h⟩,by omega⟩
  ·obtain rfl:=h2 (by omega)
   obtain rfl:=h3 (by omega)
   exact ⟨rfl,rfl⟩
def cmpP (c:Cert) (r a:Int):Int:=if cmpI c.round r≠0 then cmpI c.round r else cmpI c.author a
theorem findf_ok (c:Cert) (r a:Int) (h1:isF c.round) (h2:isF c.author) (hr:isF r) (ha:isF a):ACalls Tryz.prog 71 [c.av,.d (plb r a)] [] (fun av L=>av = .d (.int .i64 (cmpP c r a))∧L=[]):=by
 (refine acalls_go ttOk zOk foOk Tryz.func71 rfl Tryz.ntmps71 rfl false rfl ?_);(conv=>whnf)
 (refine (dagPlace_ok c).mono ?_;rintro _ _ ⟨rfl,rfl⟩;(conv=>whnf))
 refine rdz ?_;repeat' ((with_reducible apply tw)<;>intro _)
 ((with_reducible refine (compare_ok h1 hr).mono ?_);rintro _ _ ⟨rfl,rfl⟩;(conv=>whnf))
 refine rdz ?_;repeat' ((with_reducible apply tw)<;>intro _)
 ((with_reducible refine (compare_ok h2 ha).mono ?_);rintro _ _ ⟨rfl,rfl⟩;(conv=>whnf))
 refine rdz ?_;repeat' ((with_reducible apply tw)<;>intro _)
 (refine Or.inl ?_;(conv=>whnf))
 ((with_reducible refine (or_ok (cmpI c.round r) (cmpI c.author a)).mono ?_);rintro _ _ ⟨rfl,rfl⟩;(conv=>whnf))
 exact ⟨rfl,rfl⟩
def Cert.before (c:Cert) (r a:Int):Bool:=decide (c.round<r∨c.round=r∧c.author<a)
def pos (l:List Cert) (r a:Int):Nat:=(l.filter fun c=>c.before r a).length
def sortedC (l:List Cert):Prop:=l.Pairwise fun x y=>x.before y.round y.author=true
def fitC (l:List Cert):Prop:=∀ c∈l,isF c.round∧isF c.author
def atC (l:List Cert) (r a:Int):Option Cert:=l.find? fun c=>decide (c.round=r∧c.author=a)
theorem before_iff {c:Cert} {r a:Int}:c.before r a=true↔c.round<r∨c.round=r∧c.author<a:=by simp [Cert.before]
theorem pos_le (l:List Cert) (r a:Int):pos l r a≤l.length:=List.length_filter_le ..
theorem pos_iff {r a:Int}:∀ {l:List Cert} {m:Nat} {c:Cert},sortedC l→l[m]? = some c→(c.before r a=true↔m<pos l r a)
 | [],m,c,_,h=>by simp at h
 | x :: t,m,c,hs,h=>by
   have hs':=List.pairwise_cons.1 hs
   cases hx:x.before r a with
   | true =>
     have hp:pos (x :: t) r a=pos t r a+1:=by simp [pos,hx]
     cases m with
     | zero =>
       simp only [List.getElem?_cons_zero,Option.some.injEq] at h
       subst h
       rw [hp];simp [hx]
     | succ m =>
       rw [List.getElem?_cons_succ] at h
       rw [pos_iff hs'.2 h,hp];omega
   | false =>
     have hall:∀ y∈t,y.before r a=false:=by
      intro y hy
      have h1:=before_iff.1 (hs'.1 y hy)
      cases hb:y.before r a with
      | false=>rfl
      | true =>
        have h2:=before_iff.1 hb
        have:x.before r a=true:=before_iff.2 (by omega)
        rw [hx] at this;cases this
     have hp:pos (x :: t) r a=0:=by
      unfold pos
      rw [List.filter_eq_nil_iff.2]
      ·rfl
      ·intro y hy
       rcases List.mem_cons.1 hy with rfl|hy
       ·simp [hx]
       ·simp [hall y hy]
     have hc:c.before r a=false:=by
      cases m with
      | zero =>
        simp only [List.getElem?_cons_zero,Option.some.injEq] at h
        subst h;exact hx
      | succ m =>
        rw [List.getElem?_cons_succ] at h
        exact hall c (List.mem_of_getElem? h)
     rw [hp,hc];simp
theorem atC_pos {l:List Cert} {r a:Int} (hs:sortedC l):atC l r a=(l[pos l r a]?).filter fun c=>decide (c.round=r∧c.author=a):=by
 obtain ⟨k,hk⟩:∃ k,pos l r a=k:=⟨_,rfl⟩
 cases hc:atC l r a with
 | none =>
   unfold atC at hc
   rw [List.find?_eq_none] at hc
   cases hg:l[pos l r a]? with
   | none=>rfl
   | some c =>
     have:=hc c (List.mem_of_getElem? hg)
     simp only [Option.filter,this]
     rfl
 | some c =>
   have hc1:decide (c.round=r∧c.author=a)=true:=by
    have:=List.find?_some hc;simpa using this
   have hcm:c∈l:=List.mem_of_find?_eq_some hc
   obtain ⟨m,hm⟩:=List.getElem?_of_mem hcm
   have hc2:=of_decide_eq_true hc1
   have hnb:¬m<pos l r a:=fun h=>by
    have:=before_iff.1 ((pos_iff hs hm).2 h)
    omega
   have heq:m=pos l r a:=by
    rcases Nat.lt_or_ge (pos l r a) m with h|h
    ·exfalso
     have hlt:m<l.length:=by
      rcases Nat.lt_or_ge m l.length with h2|h2
      ·exact h2
      ·rw [List.getElem?_eq_none h2] at hm;cases hm
     obtain ⟨x,hx⟩:∃ x,l[pos l r a]? = some x:=⟨_,List.getElem?_eq_getElem (by omega)⟩
     have hb:x.before c.round c.author=true:=by
      have:=List.pairwise_iff_getElem.1 hs (pos l r a) m (by omega) hlt h
      rw [List.getElem?_eq_getElem (by omega)] at hx hm
      cases hx;cases hm;exact this
     rw [hc2.1,hc2.2] at hb
     have:=(pos_iff hs hx).1 hb
     omega
    ·omega
   rw [← heq,hm]
   simp only [Option.filter,hc1]
   rfl
theorem cmpP_neg {c:Cert} {r a:Int}:cmpP c r a<0↔c.before r a=true:=by
 rw [before_iff]
 unfold cmpP cmpI
 split<;>split<;>(try split)<;>(try split)<;>omega
theorem cmpP_zero {c:Cert} {r a:Int}:cmpP c r a=0↔c.round=r∧c.author=a:=by
 unfold cmpP cmpI
 split<;>split<;>(try split)<;>(try split)<;>omega
theorem half {i j:Nat} {z z1 z2:Int} (hi:i≤140737488355328) (hj:j≤140737488355328) (h1:z=IntKind.u64.wrap ((i:Int)+j)) (h2:z1=ishr .u64 z 1) (h3:z2=IntKind.i64.wrap z1):z2=((i+j) / 2:Nat):=by
 have e1:IntKind.u64.wrap ((i:Int)+j)=(i:Int)+j:=by
  simp only [IntKind.wrap,IntKind.signed,IntKind.bits]
  simp
  omega
 have e2:z1=(((i+j) / 2:Nat):Int):=by
  rw [h2,h1,e1]
  have:ishr .u64 ((i:Int)+j) 1=((i:Int)+j).fdiv 2:=rfl
  rw [this,Int.fdiv_eq_ediv_of_nonneg _ (by decide)]
  omega
 rw [h3,e2,wrapI (by omega)]
set_option maxHeartbeats 4000000 in
theorem bsearch_ok (l:List Cert) (r a:Int) (hl:few l) (hs:sortedC l) (hf:fitC l) (hr:isF r) (ha:isF a):ACalls Tryz.prog 70 [.d (.sl 6 (certsD l)),.d (plb r a),.fn 71 []] [] (fun av L=>av = .tup [.d (.int .i64 (pos l r a)),.d (.bool (atC l r a).isSome)]∧L=[]):=by
 have hcl:=certsD_length l
 unfold few at hl
 (refine acalls_go ttOk zOk foOk Tryz.func70 rfl Tryz.ntmps70 rfl false rfl ?_);(conv=>whnf)
 refine loop_go ttOk zOk foOk (σ:=Nat×Nat) (fun s=>([(0,.d (.sl 6 (certsD l))),(1,.d (plb r a)),(2,.fn 71 []),(8,.d (.int .i64 l.length)),(9,.d (.int .i64 s.1)),(10,.d (.int .i64 s.2))],[])) (fun s=>s.1≤pos l r a∧pos l r a≤s.2∧s.2≤l.length) (fun s=>s.2 - s.1) [0,1,2,8,9,10] ?_ ?_
 ·conv=>whnf
  exact ⟨(0,l.length),by rw [hcl];rfl,rfl,Nat.zero_le _,pos_le l r a,Nat.le_refl _⟩
 ·rintro ⟨i,j⟩ ⟨h1,h2,h3⟩
  simp only at h1 h2 h3
  conv=>whnf
  refine rdz ?_;repeat' ((with_reducible apply tw)<;>intro _)
  ·rename_i hij
   intro z hz
   conv=>whnf
   refine ⟨by decide,?_⟩
   intro z1 hz1
   conv=>whnf
   intro z2 hz2
   have hh:=half (by omega) (by omega) hz hz1 hz2
   subst hh
   clear hz hz1 hz2
   obtain ⟨h,hh⟩:∃ h,(i+j) / 2=h:=⟨_,rfl⟩
   rw [hh]
   obtain ⟨c,hc⟩:∃ c,l[h]? = some c:=⟨_,List.getElem?_eq_getElem (by omega)⟩
   obtain ⟨f1,f2⟩:=hf c (List.mem_of_getElem? hc)
   conv=>whnf
   refine ⟨by omega,c.cs,certsD_at hc,?_⟩
   conv=>whnf
   refine rdz ?_;repeat' ((with_reducible apply tw)<;>intro _)
   refine (findf_ok c r a f1 f2 hr ha).mono ?_
   rintro _ _ ⟨rfl,rfl⟩
   have hp:=pos_iff (r:=r) (a:=a) hs hc
   rw [← cmpP_neg] at hp
   conv=>whnf
   refine rdz ?_;repeat' ((with_reducible apply tw)<;>intro _)
   ·rename_i hn
    exact ⟨(h+1,j),rfl,rfl,⟨by have:=hp.1 hn;show h+1≤_;omega,h2,h3⟩,by show j - (h+1)<j - i;omega⟩
   ·rename_i hn
    exact ⟨(i,h),rfl,rfl,⟨h1,by show _≤h;rcases Nat.lt_or_ge h (pos l r a) with h4|h4;exact absurd (hp.2 h4) hn;exact h4,by show h≤_;omega⟩,by show h - i<j - i;omega⟩
  ·rename_i hij hlt
   replace hij:¬(i:Int)<j:=hij
   replace hlt:(i:Int)<l.length:=hlt
   obtain rfl:i=pos l r a:=by omega
   obtain ⟨c,hc⟩:∃ c,l[pos l r a]? = some c:=⟨_,List.getElem?_eq_getElem (by omega)⟩
   obtain ⟨f1,f2⟩:=hf c (List.mem_of_getElem? hc)
   rw [atC_pos hs]
   refine ⟨by omega,c.cs,certsD_at hc,?_⟩
   conv=>whnf
   refine rdz ?_;repeat' ((with_reducible apply tw)<;>intro _)
   refine (findf_ok c r a f1 f2 hr ha).mono ?_
   rintro _ _ ⟨rfl,rfl⟩
   conv=>whnf
   refine ⟨?_,rfl⟩
   have e:(Option.filter (fun c:Cert=>decide (c.round=r∧c.author=a)) l[pos l r a]?).isSome=(cmpP c r a == 0):=by
    rw [hc,Bool.eq_iff_iff,beq_iff_eq,cmpP_zero]
    by_cases hd:c.round=r∧c.author=a<;>simp [Option.filter,hd]
   rw [e]
  ·rename_i hij hlt
   replace hij:¬(i:Int)<j:=hij
   replace hlt:¬(i:Int)<l.length:=hlt
   obtain rfl:i=pos l r a:=by omega
   rw [atC_pos hs,List.getElem?_eq_none (by omega)]
   exact ⟨rfl,rfl⟩
theorem find_ok (l:List Cert) (r a:Int) (hl:few l) (hs:sortedC l) (hf:fitC l) (hr:isF r) (ha:isF a):ACalls Tryz.prog 59 [.d (.sl 6 (certsD l)),.d (plb r a)] [] (fun av L=>av = .tup [.d (.int .i64 (pos l r a)),.d (.bool (atC l r a).isSome)]∧L=[]):=by
 (refine acalls_go ttOk zOk foOk Tryz.func59 rfl Tryz.ntmps59 rfl false rfl ?_);(conv=>whnf)
 (refine (bsearch_ok l r a hl hs hf hr ha).mono ?_;rintro _ _ ⟨rfl,rfl⟩;(conv=>whnf))
 exact ⟨rfl,rfl⟩
theorem take_pos {r a:Int}:∀ {l:List Cert},sortedC l→l.take (pos l r a)=l.filter (fun c=>c.before r a)∧l.drop (pos l r a)=l.filter (fun c => !c.before r a)
 | [],_=>⟨rfl,rfl⟩
 | x :: t,hs=>by
   have hs':=List.pairwise_cons.1 hs
   obtain ⟨i1,i2⟩:=take_pos (r:=r) (a:=a) hs'.2
   cases hx:x.before r a with
   | true =>
     have hp:pos (x :: t) r a=pos t r a+1:=by simp [pos,hx]
     rw [hp,List.take_succ_cons,List.drop_succ_cons,i1,i2]
     simp [hx]
   | false =>
     have hall:∀ y∈t,y.before r a=false:=by
      intro y hy
      cases hb:y.before r a with
      | false=>rfl
      | true =>
        have h1:=before_iff.1 (hs'.1 y hy)
        have h2:=before_iff.1 hb
        have:x.before r a=true:=before_iff.2 (by omega)
        rw [hx] at this;cases this
     have hf:t.filter (fun c=>c.before r a)=[]:=List.filter_eq_nil_iff.2 fun y hy=>by simp [hall y hy]
     have hg:t.filter (fun c => !c.before r a)=t:=List.filter_eq_self.2 fun y hy=>by simp [hall y hy]
     have hp:pos (x :: t) r a=0:=by simp [pos,hx,hf]
     rw [hp]
     simp [hx,hf,hg]
def ofR (l:List Cert) (r:Int):List Cert:=l.filter fun c=>decide (c.round=r)
def auth (l:List Cert):Prop:=∀ c∈l,1≤c.author∧c.author≤16
theorem sortedC.filter {l:List Cert} (h:sortedC l) (p:Cert→Bool):sortedC (l.filter p):=List.Pairwise.sublist List.filter_sublist h
theorem of_slice {l:List Cert} {r:Int} (hs:sortedC l) (ha:auth l):pos l r 0≤pos l r 17∧(l.take (pos l r 17)).drop (pos l r 0)=ofR l r:=by
 have h17:=(take_pos (r:=r) (a:=17) hs).1
 have hle:pos l r 0≤pos l r 17:=by
  unfold pos
  rw [← List.countP_eq_length_filter,← List.countP_eq_length_filter]
  exact List.countP_mono_left fun c hc h=>before_iff.2 (by have:=before_iff.1 h;omega)
 refine ⟨hle,?_⟩
 rw [h17]
 have hp:pos (l.filter fun c=>c.before r 17) r 0=pos l r 0:=by
  unfold pos
  rw [List.filter_filter]
  congr 1
  refine List.filter_congr fun c hc => ?_
  cases h:c.before r 0 with
  | false=>rfl
  | true =>
    have:c.before r 17=true:=before_iff.2 (by have:=before_iff.1 h;omega)
    rw [this];rfl
 rw [← hp,(take_pos (r:=r) (a:=0) (hs.filter _)).2,List.filter_filter]
 refine List.filter_congr fun c hc => ?_
 have:=ha c hc
 by_cases h:c.round=r
 ·have h1:c.before r 17=true:=before_iff.2 (by omega)
  have h2:c.before r 0=false:=by
   cases hb:c.before r 0 with
   | false=>rfl
   | true=>have:=before_iff.1 hb;omega
  simp [h,h1,h2]
 ·rcases Int.lt_or_gt_of_ne h with h1|h1
  ·have:c.before r 0=true:=before_iff.2 (.inl h1)
   simp [h,this]
  ·have:c.before r 17=false:=by
    cases hb:c.before r 17 with
    | false=>rfl
    | true=>have:=before_iff.1 hb;omega
   simp [h,this]
def topR (l:List Cert):Int:=(l.getLast?).elim 0 (·.round)
theorem high_ok (d:Dag) (hd:few d.certs):ACalls Tryz.prog 86 [d.av] [] (fun av L=>av = .d (.int .i64 (topR d.certs))∧L=[]):=by
 have hcl:=certsD_length d.certs
 unfold few at hd
 (refine acalls_go ttOk zOk foOk Tryz.func86 rfl Tryz.ntmps86 rfl false rfl ?_);(conv=>whnf)
 refine rdw ?_;repeat' ((with_reducible apply tw)<;>intro _)
 ·rename_i h
  obtain ⟨c,hc⟩:∃ c,d.certs[d.certs.length - 1]? = some c:=⟨_,List.getElem?_eq_getElem (by omega)⟩
  have hl:d.certs.getLast? = some c:=by rw [List.getLast?_eq_getElem?];exact hc
  refine ⟨by omega,c.cs,by rw [show ((certsD d.certs).length - 1:Int).toNat=d.certs.length - 1 by omega];exact certsD_at hc,?_⟩
  conv=>whnf
  exact ⟨by rw [topR,hl];rfl,rfl⟩
 ·rename_i h
  have:d.certs=[]:=List.eq_nil_of_length_eq_zero (by omega)
  exact ⟨by rw [topR,this];rfl,rfl⟩
structure Dag.fit (d:Dag):Prop where
 few:few d.certs
 sorted:sortedC d.certs
 fit:fitC d.certs
 auth:auth d.certs
theorem find0_ok (l:List Cert) (r:Int) (hl:few l) (hs:sortedC l) (hf:fitC l) (hr:isF r):ACalls Tryz.prog 59 [.d (.sl 6 (certsD l)),.d (.cplx .f64 (fnear .f64 r) 0)] [] (fun av L=>av = .tup [.d (.int .i64 (pos l r 0)),.d (.bool (atC l r 0).isSome)]∧L=[]):=by
 have:=find_ok l r 0 hl hs hf hr ⟨by decide,by decide⟩
 rw [plb,fnear_0] at this
 exact this
theorem find17_ok (l:List Cert) (r:Int) (hl:few l) (hs:sortedC l) (hf:fitC l) (hr:isF r):ACalls Tryz.prog 59 [.d (.sl 6 (certsD l)),.d (.cplx .f64 (fnear .f64 r) 4625478292286210048)] [] (fun av L=>av = .tup [.d (.int .i64 (pos l r 17)),.d (.bool (atC l r 17).isSome)]∧L=[]):=by
 have:=find_ok l r 17 hl hs hf hr ⟨by decide,by decide⟩
 rw [plb,fnear_17] at this
 exact this
theorem dagOf_ok (d:Dag) (hd:d.fit) (r:Int) (hr:isF r):ACalls Tryz.prog 76 [d.av,.d (.int .i64 r)] [] (fun av L=>av = .d (.sl 6 (certsD (ofR d.certs r)))∧L=[]):=by
 have hcl:=certsD_length d.certs
 obtain ⟨h1,h2⟩:=of_slice (r:=r) hd.sorted hd.auth
 have h3:=pos_le d.certs r 17
 have h4:=hd.few
 unfold few at h4
 (refine acalls_go ttOk zOk foOk Tryz.func76 rfl Tryz.ntmps76 rfl false rfl ?_);(conv=>whnf)
 refine (find0_ok d.certs r hd.few hd.sorted hd.fit hr).mono ?_
 rintro _ _ ⟨rfl,rfl⟩
 conv=>whnf
 refine (find17_ok d.certs r hd.few hd.sorted hd.fit hr).mono ?_
 rintro _ _ ⟨rfl,rfl⟩
 conv=>whnf
 refine rdw ?_;repeat' ((with_reducible apply tw)<;>intro _)
 refine ⟨by omega,by omega,by omega,?_⟩
 conv=>whnf
 rw [show (certsD (ofR d.certs r))=((certsD d.certs).take (pos d.certs r 17)).drop (pos d.certs r 0) by rw [← h2];simp [certsD,List.map_drop,List.map_take]]
 exact ⟨rfl,rfl⟩
def zCert:AV := .agg [.d (.int .i64 0),.d (.int .i64 0),.d .nils,.d .nils,.d (.int .i64 0),.d .nils]
theorem there_ok (d:Dag) (hd:d.fit) (r a:Int) (hr:isF r) (ha:isF a):ACalls Tryz.prog 96 [d.av,.d (plb r a)] [] (fun av L=>((∃ c,atC d.certs r a=some c∧av = .tup [c.av,.d (.bool true)])∨(atC d.certs r a=none∧av = .tup [zCert,.d (.bool false)]))∧L=[]):=by
 (refine acalls_go ttOk zOk foOk Tryz.func96 rfl Tryz.ntmps96 rfl false rfl ?_);(conv=>whnf)
 refine (find_ok d.certs r a hd.few hd.sorted hd.fit hr ha).mono ?_
 rintro _ _ ⟨rfl,rfl⟩
 obtain ⟨b,hb⟩:∃ b,(atC d.certs r a).isSome=b:=⟨_,rfl⟩
 rw [hb]
 conv=>whnf
 refine rdw ?_;repeat' ((with_reducible apply tw)<;>intro _)
 ·rename_i h
  subst h
  exact ⟨.inr ⟨by simpa using hb,rfl⟩,rfl⟩
 ·rename_i h
  subst h
  rw [atC_pos hd.sorted] at hb
  obtain ⟨c,hc⟩:∃ c,d.certs[pos d.certs r a]? = some c:=by
   cases hg:d.certs[pos d.certs r a]? with
   | none=>rw [hg] at hb;cases hb
   | some c=>exact ⟨c,rfl⟩
  have he:atC d.certs r a=some c:=by
   rw [atC_pos hd.sorted,hc]
   rw [hc] at hb
   revert hb
   by_cases h:c.round=r∧c.author=a<;>simp [Option.filter,h]
  refine ⟨by omega,c.cs,certsD_at hc,?_⟩
  conv=>whnf
  exact ⟨.inl ⟨c,he,rfl⟩,rfl⟩
theorem there_some (d:Dag) (hd:d.fit) (r a:Int) (hr:isF r) (ha:isF a) {c:Cert} (h:atC d.certs r a=some c):ACalls Tryz.prog 96 [d.av,.d (plb r a)] [] (fun av L=>av = .tup [c.av,.d (.bool true)]∧L=[]):=by
 refine (there_ok d hd r a hr ha).mono ?_
 rintro _ _ ⟨⟨c',hc,rfl⟩|⟨hc,_⟩,rfl⟩
 ·rw [h] at hc;cases hc;exact ⟨rfl,rfl⟩
 ·rw [h] at hc;cases hc
theorem there_none (d:Dag) (hd:d.fit) (r a:Int) (hr:isF r) (ha:isF a) (h:atC d.certs r a=none):ACalls Tryz.prog 96 [d.av,.d (plb r a)] [] (fun av L=>av = .tup [zCert,.d (.bool false)]∧L=[]):=by
 refine (there_ok d hd r a hr ha).mono ?_
 rintro _ _ ⟨⟨c',hc,_⟩|⟨_,rfl⟩,rfl⟩
 ·rw [h] at hc;cases hc
 ·exact ⟨rfl,rfl⟩
def leadI (n r:Int):Int:=(r / 2 - 1) % n+1
theorem leads_ok (n r:Int) (hn:0<n∧n≤16) (hr:2≤r∧r≤1099511627777):ACalls Tryz.prog 97 [.d (.int .i64 n),.d (.int .i64 r)] [] (fun av L=>av = .d (.int .i64 (leadI n r))∧L=[]):=by
 have h1:=Int.emod_nonneg (r / 2 - 1) (show n≠0 by omega)
 have h2:=Int.emod_lt_of_pos (r / 2 - 1) hn.1
 (refine acalls_go ttOk zOk foOk Tryz.func97 rfl Tryz.ntmps97 rfl false rfl ?_);(conv=>whnf)
 refine ⟨by decide,?_⟩
 intro z hz
 have:z=r / 2:=by rw [hz,Int.tdiv_eq_ediv_of_nonneg (by omega),wrapI (by omega)]
 clear hz
 subst this
 conv=>whnf
 ((with_reducible apply z_wrap);(focus omega);(conv=>whnf))
 refine ⟨by omega,?_⟩
 intro z hz
 have:z=(r / 2 - 1) % n:=by rw [hz,Int.tmod_eq_emod_of_nonneg (by omega)]
 clear hz
 subst this
 conv=>whnf
 ((with_reducible apply z_wrap);(focus omega);(conv=>whnf))
 exact ⟨rfl,rfl⟩
theorem lead_range {n r:Int} (hn:0<n∧n≤16):1≤leadI n r∧leadI n r≤16:=by
 have h1:=Int.emod_nonneg (r / 2 - 1) (show n≠0 by omega)
 have h2:=Int.emod_lt_of_pos (r / 2 - 1) hn.1
 unfold leadI
 omega
def anchorI (d:Dag) (r:Int):Int:=(atC d.certs r (leadI d.nodes r)).elim 0 (·.digest)
theorem anchorOf_ok (d:Dag) (hd:d.fit) (hn:0<d.nodes∧d.nodes≤16) (r:Int) (hr:2≤r∧r≤1099511627777):ACalls Tryz.prog 88 [d.av,.d (.int .i64 r)] [] (fun av L=>av = .d (.int .i64 (anchorI d r))∧L=[]):=by
 have h1:=lead_range (r:=r) hn
 (refine acalls_go ttOk zOk foOk Tryz.func88 rfl Tryz.ntmps88 rfl false rfl ?_);(conv=>whnf)
 obtain ⟨a,hla⟩:∃ a,leadI d.nodes r=a:=⟨_,rfl⟩
 rw [hla] at h1
 have hle:=leads_ok d.nodes r hn hr
 rw [hla] at hle
 have hfr:isF r:=⟨by omega,by omega⟩
 have hfa:isF a:=⟨by omega,by omega⟩
 rw [anchorI,hla]
 cases hc:atC d.certs r a with
 | none =>
   have hth:=there_none d hd r a hfr hfa hc
   ((with_reducible refine draw_pl ttOk zOk foOk mixedOk pl88x1 ?_ ?_);(focus kernel_rfl);(conv=>whnf))
   refine rdw ?_;repeat' ((with_reducible apply tw)<;>intro _)
   ((with_reducible apply rd_intro);(focus (intro K hK;(conv=>whnf);refine (hle).mono ?_;rintro _ _ ⟨rfl,rfl⟩;(conv=>whnf);exact hK));(conv=>whnf))
   refine rdw ?_;repeat' ((with_reducible apply tw)<;>intro _)
   ((with_reducible apply rd_intro);(focus (intro K hK;(conv=>whnf);refine (placeOf_ok r a).mono ?_;rintro _ _ ⟨rfl,rfl⟩;(conv=>whnf);exact hK));(conv=>whnf))
   refine rdw ?_;repeat' ((with_reducible apply tw)<;>intro _)
   ((with_reducible apply rd_intro);(focus (intro K hK;(conv=>whnf);refine (hth).mono ?_;rintro _ _ ⟨rfl,rfl⟩;(conv=>whnf);exact hK));(conv=>whnf))
   refine rdw ?_;repeat' ((with_reducible apply tw)<;>intro _)
   ((with_reducible apply gd_and);(focus ((conv=>whnf);intro K hK;(conv=>whnf);refine (hth).mono ?_;rintro _ _ ⟨rfl,rfl⟩;(conv=>whnf);exact hK));(conv=>whnf))
   refine rdw ?_;repeat' ((with_reducible apply tw)<;>intro _)
   ((with_reducible apply gd_and);(focus ((conv=>whnf);intro K hK;(conv=>whnf);refine (placeOf_ok r a).mono ?_;rintro _ _ ⟨rfl,rfl⟩;(conv=>whnf);exact hK));(conv=>whnf))
   refine rdw ?_;repeat' ((with_reducible apply tw)<;>intro _)
   ((with_reducible apply gd_and);(focus ((conv=>whnf);intro K hK;(conv=>whnf);refine (hle).mono ?_;rintro _ _ ⟨rfl,rfl⟩;(conv=>whnf);exact hK));(conv=>whnf))
   refine rdw ?_;repeat' ((with_reducible apply tw)<;>intro _)
   exact ⟨rfl,rfl⟩
 | some c =>
   have hth:=there_some d hd r a hfr hfa hc
   ((with_reducible refine draw_pl ttOk zOk foOk mixedOk pl88x1 ?_ ?_);(focus kernel_rfl);(conv=>whnf))
   refine rdw ?_;repeat' ((with_reducible apply tw)<;>intro _)
   ((with_reducible apply rd_intro);(focus (intro K hK;(conv=>whnf);refine (hle).mono ?_;rintro _ _ ⟨rfl,rfl⟩;(conv=>whnf);exact hK));(conv=>whnf))
   refine rdw ?_;repeat' ((with_reducible apply tw)<;>intro _)
   ((with_reducible apply rd_intro);(focus (intro K hK;(conv=>whnf);refine (placeOf_ok r a).mono ?_;rintro _ _ ⟨rfl,rfl⟩;(conv=>whnf);exact hK));(conv=>whnf))
   refine rdw ?_;repeat' ((with_reducible apply tw)<;>intro _)
   ((with_reducible apply rd_intro);(focus (intro K hK;(conv=>whnf);refine (hth).mono ?_;rintro _ _ ⟨rfl,rfl⟩;(conv=>whnf);exact hK));(conv=>whnf))
   refine rdw ?_;repeat' ((with_reducible apply tw)<;>intro _)
   ((with_reducible apply gd_and);(focus ((conv=>whnf);intro K hK;(conv=>whnf);refine (hth).mono ?_;rintro _ _ ⟨rfl,rfl⟩;(conv=>whnf);exact hK));(conv=>whnf))
   refine rdw ?_;repeat' ((with_reducible apply tw)<;>intro _)
   ((with_reducible apply gd_and);(focus ((conv=>whnf);intro K hK;(conv=>whnf);refine (placeOf_ok r a).mono ?_;rintro _ _ ⟨rfl,rfl⟩;(conv=>whnf);exact hK));(conv=>whnf))
   refine rdw ?_;repeat' ((with_reducible apply tw)<;>intro _)
   ((with_reducible apply gd_and);(focus ((conv=>whnf);intro K hK;(conv=>whnf);refine (hle).mono ?_;rintro _ _ ⟨rfl,rfl⟩;(conv=>whnf);exact hK));(conv=>whnf))
   refine rdw ?_;repeat' ((with_reducible apply tw)<;>intro _)
   exact ⟨rfl,rfl⟩
theorem index_ok (l:List Int) (hl:few l) (x:Int):ACalls Tryz.prog 105 [.d (.sl 1 (nums l)),.d (.int .i64 x)] [] (fun av L=>(∃ z:Int,av = .d (.int .i64 z)∧(z≥0↔x∈l))∧L=[]):=by
 have hll:=nums_length l
 unfold few at hl
 (refine acalls_go ttOk zOk foOk Tryz.func105 rfl Tryz.ntmps105 rfl false rfl ?_);(conv=>whnf)
 refine loop_go ttOk zOk foOk (σ:=Nat) (fun j=>([(0,.d (.sl 1 (nums l))),(1,.d (.int .i64 x)),(7,.d (.int .i64 l.length)),(8,.d (.int .i64 j))],[])) (fun j=>j≤l.length∧¬x∈l.take j) (fun j=>l.length - j) [0,1,7,8] ?_ ?_
 ·conv=>whnf
  exact ⟨0,by rw [hll];rfl,rfl,Nat.zero_le _,by simp⟩
 ·rintro j ⟨h1,h2⟩
  conv=>whnf
  refine rdw ?_;repeat' ((with_reducible apply tw)<;>intro _)
  ·rename_i h
   obtain ⟨y,hy⟩:∃ y,l[j]? = some y:=⟨_,List.getElem?_eq_getElem (by omega)⟩
   refine ⟨by omega,[.int .i64 y],nums_at hy,?_⟩
   conv=>whnf
   refine rdw ?_;repeat' ((with_reducible apply tw)<;>intro _)
   ·rename_i h3
    exact ⟨⟨_,rfl,by rw [h3];exact ⟨fun _=>List.mem_of_getElem? hy,fun _=>Int.natCast_nonneg _⟩⟩,rfl⟩
   ·rename_i h3
    exact ⟨j+1,rfl,rfl,⟨by omega,by rw [List.take_add_one,hy];simpa using ⟨h2,h3⟩⟩,by omega⟩
  ·rename_i h
   rw [show j=l.length by omega,List.take_length] at h2
   exact ⟨⟨_,rfl,⟨fun h3=>absurd h3 (by decide),fun h3=>absurd h3 h2⟩⟩,rfl⟩
theorem contains_ok (l:List Int) (hl:few l) (x:Int):ACalls Tryz.prog 99 [.d (.sl 1 (nums l)),.d (.int .i64 x)] [] (fun av L=>av = .d (.bool (decide (x∈l)))∧L=[]):=by
 (refine acalls_go ttOk zOk foOk Tryz.func99 rfl Tryz.ntmps99 rfl false rfl ?_);(conv=>whnf)
 refine (index_ok l hl x).mono ?_
 rintro _ _ ⟨⟨z,rfl,hz⟩,rfl⟩
 conv=>whnf
 exact ⟨boolEq (by simpa using hz),rfl⟩
def votes (d:Dag) (r:Int):Nat:=((ofR d.certs (r+1)).filter fun c=>decide (anchorI d r>0∧anchorI d r∈c.pars)).length
def fewC (d:Dag):Prop:=∀ c∈d.certs,few c.pars
theorem count_ok (d:Dag) (hd:d.fit) (hn:0<d.nodes∧d.nodes≤16) (hp:fewC d) (r:Int) (hr:2≤r∧r≤1099511627776):ACalls Tryz.prog 95 [d.av,.d (.int .i64 r)] [] (fun av L=>av = .d (.int .i64 (votes d r))∧L=[]):=by
 have hfl:few (ofR d.certs (r+1)):=Nat.le_trans (List.length_filter_le ..) hd.few
 have hfp:∀ c∈ofR d.certs (r+1),few c.pars:=fun c hc=>hp c (List.mem_filter.1 hc).1
 (refine acalls_go ttOk zOk foOk Tryz.func95 rfl Tryz.ntmps95 rfl false rfl ?_);(conv=>whnf)
 refine (anchorOf_ok d hd hn r ⟨hr.1,by omega⟩).mono ?_
 rintro _ _ ⟨rfl,rfl⟩
 obtain ⟨a,ha⟩:∃ a,anchorI d r=a:=⟨_,rfl⟩
 rw [votes,ha]
 conv=>whnf
 refine rdw ?_;repeat' ((with_reducible apply tw)<;>intro _)
 refine (dagOf_ok d hd (r+1) ⟨by omega,by omega⟩).mono ?_
 rintro _ _ ⟨rfl,rfl⟩
 obtain ⟨l,hl⟩:∃ l,ofR d.certs (r+1)=l:=⟨_,rfl⟩
 rw [hl] at hfl hfp ⊢
 have hll:=certsD_length l
 unfold few at hfl
 conv=>whnf
 refine loop_go ttOk zOk foOk (σ:=Nat) (fun j=>([(4,.d (.int .i64 (((l.take j).filter fun c=>decide (a>0∧a∈c.pars)).length:Nat))),(5,.d (.int .i64 a)),(14,.d (.sl 6 (certsD l))),(15,.d (.int .i64 l.length)),(16,.d (.int .i64 j))],[])) (fun j=>j≤l.length) (fun j=>l.length - j) [4,5,14,15,16] ?_ ?_
 ·conv=>whnf
  exact ⟨0,by rw [hll];rfl,rfl,Nat.zero_le _⟩
 ·intro j hj
  conv=>whnf
  refine rdw ?_;repeat' ((with_reducible apply tw)<;>intro _)
  ·rename_i h
   obtain ⟨c,hc⟩:∃ c,l[j]? = some c:=⟨_,List.getElem?_eq_getElem (by omega)⟩
   refine ⟨by omega,c.cs,certsD_at hc,?_⟩
   have hlen:((l.take j).filter fun c=>decide (a>0∧a∈c.pars)).length≤j:=by
    have h1:=List.length_filter_le (fun c:Cert=>decide (a>0∧a∈c.pars)) (l.take j)
    rw [List.length_take] at h1
    omega
   conv=>whnf
   refine rdw ?_;repeat' ((with_reducible apply tw)<;>intro _)
   ·rename_i ha0
    refine (contains_ok c.pars (hfp c (List.mem_of_getElem? hc)) a).mono ?_
    rintro _ _ ⟨rfl,rfl⟩
    conv=>whnf
    refine rdw ?_;repeat' ((with_reducible apply tw)<;>intro _)
    ·rename_i hac
     refine ⟨j+1,?_,rfl,by omega,by omega⟩
     rw [List.take_add_one,hc]
     simp only [Option.toList_some,List.filter_append,List.length_append,List.filter_cons,hac,ha0]
     rfl
    ·rename_i hac
     refine ⟨j+1,?_,rfl,by omega,by omega⟩
     rw [List.take_add_one,hc]
     simp only [Option.toList_some,List.filter_append,List.length_append,List.filter_cons,hac,and_false,decide_false]
     rfl
   ·rename_i ha0
    refine ⟨j+1,?_,rfl,by omega,by omega⟩
    rw [List.take_add_one,hc]
    simp only [Option.toList_some,List.filter_append,List.length_append,List.filter_cons,ha0,false_and,decide_false]
    rfl
  ·rename_i h
   rw [List.take_of_length_le (by omega)]
   exact ⟨rfl,rfl⟩
theorem cf_ok (n:Int) (hn:0<n∧n≤16):ACalls Tryz.prog 67 [.d (.int .i64 n)] [] (fun av L=>av = .d (.int .i64 ((n - 1) / 3))∧L=[]):=by
 (refine acalls_go ttOk zOk foOk Tryz.func67 rfl Tryz.ntmps67 rfl false rfl ?_);(conv=>whnf)
 ((with_reducible apply z_wrap);(focus omega);(conv=>whnf))
 refine ⟨by decide,?_⟩
 intro z hz
 have:z=(n - 1) / 3:=by rw [hz,Int.tdiv_eq_ediv_of_nonneg (by omega),wrapI (by omega)]
 clear hz
 subst this
 conv=>whnf
 exact ⟨rfl,rfl⟩
def settled (d:Dag) (r:Int):Bool:=decide ((votes d r:Int)>(d.nodes - 1) / 3)
theorem settled_ok (d:Dag) (hd:d.fit) (hn:0<d.nodes∧d.nodes≤16) (hp:fewC d) (r:Int) (hr:2≤r∧r≤1099511627776):ACalls Tryz.prog 87 [d.av,.d (.int .i64 r)] [] (fun av L=>av = .d (.bool (settled d r))∧L=[]):=by
 (refine acalls_go ttOk zOk foOk Tryz.func87 rfl Tryz.ntmps87 rfl false rfl ?_);(conv=>whnf)
 ((with_reducible refine draw_pl ttOk zOk foOk mixedOk pl87x1 ?_ ?_);(focus kernel_rfl);(conv=>whnf))
 refine rdw ?_;repeat' ((with_reducible apply tw)<;>intro _)
 refine (count_ok d hd hn hp r hr).mono ?_
 rintro _ _ ⟨rfl,rfl⟩
 conv=>whnf
 refine rdw ?_;repeat' ((with_reducible apply tw)<;>intro _)
 refine (cf_ok d.nodes hn).mono ?_
 rintro _ _ ⟨rfl,rfl⟩
 conv=>whnf
 refine rdw ?_;repeat' ((with_reducible apply tw)<;>intro _)
 exact ⟨rfl,rfl⟩
def nextR (d:Dag) (r:Int):Int:=if h:r≥topR d.certs then 0 else if settled d r then r else nextR d (r+2)
termination_by (topR d.certs - r).toNat
theorem next_top {d:Dag} {r:Int} (h:r≥topR d.certs):nextR d r=0:=by rw [nextR,dif_pos h]
theorem next_here {d:Dag} {r:Int} (h:¬r≥topR d.certs) (h2:settled d r=true):nextR d r=r:=by rw [nextR,dif_neg h,if_pos h2]
theorem next_on {d:Dag} {r:Int} (h:¬r≥topR d.certs) (h2:settled d r=false):nextR d r=nextR d (r+2):=by rw [nextR,dif_neg h,if_neg (by simp [h2])]
def nextC (d:Dag) (after:Int):Int:=nextR d (max after (d.low - d.low % 2)+2)
structure Dag.well (d:Dag):Prop where
 fit:d.fit
 nodes:0<d.nodes∧d.nodes≤16
 pars:fewC d
 low:0≤d.low∧d.low≤1099511627776
 top:topR d.certs≤1099511627776
 len:d.certs.length≤65536
 dig:(d.certs.map (·.digest)).Nodup
 pos:∀ c∈d.certs,1≤c.digest
set_option maxHeartbeats 1000000 in
theorem next_ok (d:Dag) (hw:d.well) (after:Int) (ha:0≤after∧after≤1099511627776):ACalls Tryz.prog 79 [d.av,.d (.int .i64 after)] [] (fun av L=>av = .d (.int .i64 (nextC d after))∧L=[]):=by
 have hlow:=hw.low
 have htop:=hw.top
 (refine acalls_go ttOk zOk foOk Tryz.func79 rfl Tryz.ntmps79 rfl false rfl ?_);(conv=>whnf)
 obtain ⟨r0,hr0⟩:∃ r0,max after (d.low - d.low % 2)+2=r0:=⟨_,rfl⟩
 rw [nextC,hr0]
 refine scope_go ttOk zOk foOk (σ:=Int) (fun r=>([(2,.ptr 0 0),(5,.d (.int .i64 r)),(6,.d (.int .i64 (topR d.certs)))],[.cells d.cells]))
  (fun l r=>l=0∧2≤r∧r≤2199023255552∧nextR d r=nextR d r0) (fun _ r=>(topR d.certs - r).toNat) ?_ ?_
 ·rintro l rest hl r ⟨rfl,h1,h2,h3⟩
  have e:=Option.some.inj (show some _=some rest from hl)
  subst e
  clear hl
  rw [← h3]
  conv=>whnf
  refine rdw ?_;repeat' ((with_reducible apply tw)<;>intro _)
  ·rename_i h
   exact ⟨by rw [next_top h];rfl,rfl⟩
  ·rename_i h
   refine (settled_ok d hw.fit hw.nodes hw.pars r ⟨h1,by omega⟩).mono ?_
   rintro _ _ ⟨rfl,rfl⟩
   obtain ⟨b,hb⟩:∃ b,settled d r=b:=⟨_,rfl⟩
   rw [hb]
   conv=>whnf
   refine rdw ?_;repeat' ((with_reducible apply tw)<;>intro _)
   ·rename_i h4
    subst h4
    exact ⟨by rw [next_here h hb],rfl⟩
   ·rename_i h4
    subst h4
    refine into_of [2,5,6] ?_
    conv=>whnf
    exact ⟨r+2,rfl,rfl,⟨rfl,by omega,by omega,(next_on h hb).symm⟩,by omega⟩
 ·intro pass
  conv=>whnf
  refine rdw ?_;repeat' ((with_reducible apply tw)<;>intro _)
  refine ⟨by decide,?_⟩
  intro z hz
  have:z=d.low % 2:=by rw [hz,Int.tmod_eq_emod_of_nonneg (by omega)]
  clear hz
  subst this
  conv=>whnf
  refine rdw ?_;repeat' ((with_reducible apply tw)<;>intro _)
  rw [hr0]
  refine (high_ok d hw.fit.few).mono ?_
  rintro _ _ ⟨rfl,rfl⟩
  conv=>whnf
  refine aw_at (σ:=Unit) (fun _=>([(2,.ptr 0 0),(5,.d (.int .i64 r0)),(6,.d (.int .i64 (topR d.certs)))],[.cells d.cells])) (fun _=>True) [2,5,6] ?_ ?_
  ·conv=>whnf
   exact ⟨(),rfl,rfl,trivial⟩
  ·intro _ _
   exact pass 0 _ rfl r0 ⟨rfl,by omega,by omega,rfl⟩
def getC (l:List Cert) (x:Int):Option Nat:=l.findIdx? fun c=>decide (c.digest=x)
def getI (l:List Cert) (x:Int):Int:=(getC l x).elim (-1) fun i=>(i:Int)
theorem getf_ok (c:Cert) (x:Int):ACalls Tryz.prog 98 [c.av,.ptr 0 0] [.cells [.d (.int .i64 x)]] (fun av L=>av = .d (.bool (c.digest == x))∧L=[.cells [.d (.int .i64 x)]]):=by
 (refine acalls_go ttOk zOk foOk Tryz.func98 rfl Tryz.ntmps98 rfl false rfl ?_);(conv=>whnf)
 exact ⟨rfl,rfl⟩
theorem indexF_ok (l:List Cert) (hl:few l) (x:Int):ACalls Tryz.prog 53 [.d (.sl 6 (certsD l)),.fn 98 [.ptr 0 0]] [.cells [.d (.int .i64 x)]] (fun av L=>av = .d (.int .i64 (getI l x))∧L=[.cells [.d (.int .i64 x)]]):=by
 have hll:=certsD_length l
 unfold few at hl
 (refine acalls_go ttOk zOk foOk Tryz.func53 rfl Tryz.ntmps53 rfl false rfl ?_);(conv=>whnf)
 refine loop_go ttOk zOk foOk (σ:=Nat) (fun j=>([(1,.fn 98 [.ptr 0 0]),(0,.d (.sl 6 (certsD l))),(7,.d (.int .i64 l.length)),(8,.d (.int .i64 j))],[.cells [.d (.int .i64 x)]])) (fun j=>j≤l.length∧∀ i c,i<j→l[i]? = some c→c.digest≠x) (fun j=>l.length - j) [1,0,7,8] ?_ ?_
 ·conv=>whnf
  exact ⟨0,by rw [hll];rfl,rfl,Nat.zero_le _,by omega⟩
 ·rintro j ⟨h1,h2⟩
  conv=>whnf
  refine rdw ?_;repeat' ((with_reducible apply tw)<;>intro _)
  ·rename_i h
   obtain ⟨c,hc⟩:∃ c,l[j]? = some c:=⟨_,List.getElem?_eq_getElem (by omega)⟩
   refine ⟨by omega,c.cs,certsD_at hc,?_⟩
   conv=>whnf
   refine (getf_ok c x).mono ?_
   rintro _ _ ⟨rfl,rfl⟩
   conv=>whnf
   refine rdw ?_;repeat' ((with_reducible apply tw)<;>intro _)
   ·rename_i h3
    have:getC l x=some j:=by
     unfold getC
     rw [List.findIdx?_eq_some_iff_getElem]
     refine ⟨by omega,?_,?_⟩
     ·rw [List.getElem?_eq_getElem (by omega)] at hc
      rw [Option.some.inj hc]
      simpa using h3
     ·intro i hi
      have:=h2 i l[i] hi (List.getElem?_eq_getElem (by omega))
      simpa using this
    exact ⟨by rw [getI,this];rfl,rfl⟩
   ·rename_i h3
    refine ⟨j+1,rfl,rfl,⟨by omega,fun i c' hi hc' => ?_⟩,by omega⟩
    rcases Nat.lt_or_ge i j with h4|h4
    ·exact h2 i c' h4 hc'
    ·obtain rfl:i=j:=by omega
     rw [hc] at hc';cases hc';exact h3
  ·rename_i h
   have:getC l x=none:=by
    unfold getC
    rw [List.findIdx?_eq_none_iff]
    intro c hc
    obtain ⟨i,hi⟩:=List.getElem?_of_mem hc
    have hlt:i<l.length:=by
     rcases Nat.lt_or_ge i l.length with h2|h2
     ·exact h2
     ·rw [List.getElem?_eq_none h2] at hi;cases hi
    have:=h2 i c (by omega) hi
    simpa using this
   exact ⟨by rw [getI,this];rfl,rfl⟩
theorem get_ok (d:Dag) (hd:few d.certs) (x:Int):ACalls Tryz.prog 89 [d.av,.d (.int .i64 x)] [] (fun av L=>av = .d (.int .i64 (getI d.certs x))∧L=[]):=by
 (refine acalls_go ttOk zOk foOk Tryz.func89 rfl Tryz.ntmps89 rfl false rfl ?_);(conv=>whnf)
 refine (indexF_ok d.certs hd x).mono ?_
 rintro _ _ ⟨rfl,rfl⟩
 conv=>whnf
 exact ⟨rfl,rfl⟩
end Go.Proofs.YtodimgkpjnpbiaaGreat
namespace Go.Proofs.YtodimgkpjnpbiaaGreat
open Go.Ab Go.RowKit
def setM (ks:List Int):List (KV×MV):=ks.map fun k=>(.one (.int .i64 k),.v (.one (.bool true)))
def insS (ks:List Int) (k:Int):List Int:=if k∈ks then ks else ks++[k]
theorem setM_find (k:Int):∀ (ks:List Int) (j:Nat),mfind (.one (.int .i64 k)) (setM ks) j=some (if k∈ks then some (j+ks.idxOf k,.v (.one (.bool true))) else none)
 | [],j=>by simp [setM,mfind]
 | x :: r,j=>by
   have ih:=setM_find k r (j+1)
   have e:mfind (.one (.int .i64 k)) (setM (x :: r)) j=match some (k == x) with
     | some true=>some (some (j,.v (.one (.bool true))))
     | some false=>mfind (.one (.int .i64 k)) (setM r) (j+1)
     | none=>none:=rfl
   rw [e]
   by_cases h:k=x
   ·subst h;simp
   ·have hb:(k == x)=false:=by simpa using h
    have hb2:(x == k)=false:=by simpa using Ne.symm h
    rw [hb,ih]
    have:List.idxOf k (x :: r)=List.idxOf k r+1:=by rw [List.idxOf_cons,hb2];rfl
    by_cases hm:k∈r
    ·rw [if_pos hm,if_pos (List.mem_cons_of_mem _ hm),this,show j+1+List.idxOf k r=j+(List.idxOf k r+1) by omega]
    ·rw [if_neg hm,if_neg (by simp [h,hm])]
theorem setM_look (ks:List Int) (k:Int):∃ r,mfind (.one (.int .i64 k)) (setM ks) 0=some r∧((k∈ks∧∃ j,r=some (j,.v (.one (.bool true))))∨(k∉ks∧r=none)):=by
 refine ⟨_,setM_find k ks 0,?_⟩
 by_cases h:k∈ks
 ·rw [if_pos h];exact .inl ⟨h,_,rfl⟩
 ·rw [if_neg h];exact .inr ⟨h,rfl⟩
theorem setM_put (ks:List Int) (k:Int):∃ r,mfind (.one (.int .i64 k)) (setM ks) 0=some r∧mputAt (setM ks) r (.one (.int .i64 k)) (.v (.one (.bool true)))=setM (insS ks k):=by
 refine ⟨_,setM_find k ks 0,?_⟩
 unfold insS
 by_cases h:k∈ks
 ·rw [if_pos h,if_pos h]
  simp only [mputAt,Nat.zero_add]
  have hi:ks.idxOf k<ks.length:=List.idxOf_lt_length_of_mem h
  refine List.ext_getElem? fun j => ?_
  by_cases hj:j=ks.idxOf k
  ·subst hj
   rw [List.getElem?_set_self (by simpa [setM] using hi)]
   simp [setM,List.getElem?_map,List.getElem?_eq_getElem hi]
  ·rw [List.getElem?_set_ne (Ne.symm hj)]
 ·rw [if_neg h,if_neg h]
  simp [mputAt,setM]
def addS (ks ps:List Int):List Int:=ps.foldl insS ks
def downL (dl low:Int):List Cert→List Int→List Int
 | [],_=>[]
 | c :: r,ks=>if c.round≤low then [] else if c.digest∈ks then c.digest :: downL dl low r (if c.round>dl+1 then addS ks c.pars else ks) else downL dl low r ks
def downI (d:Dag) (i:Nat) (low:Int):List Int:=downL d.low low (d.certs.take (i+1)).reverse ((d.certs[i]?).toList.map (·.digest))
theorem take_rev {α:Type} {l:List α} {k:Nat} {c:α} (h:l[k]? = some c):(l.take (k+1)).reverse=c :: (l.take k).reverse:=by
 rw [List.take_add_one,h];simp
structure D6 where
 (a b c d e f:DV)
def D6.cells (x:D6):List AV:=[.d x.a,.d x.b,.d x.c,.d x.d,.d x.e,.d x.f]
end Go.Proofs.YtodimgkpjnpbiaaGreat
namespace Go.Proofs.YtodimgkpjnpbiaaGreat
open Go.Ab Go.RowKit Go.MapKept
attribute [local irreducible] ACalls AW ADraw Into fltB fnear
set_option maxRecDepth 100000
def downSt (d:Dag) (low:Int):Int×List Int×List Int×D6→AF×List AB
 | (k,ks,out,x)=>([(2,.d (.int .i64 low)),(3,.ptr 0 0),(6,.arr 1),(7,.map 2),(8,.ptr 3 0),(9,.d (.int .i64 k))],[.cells d.cells,.row 3 1 (nums out) false,.map (setM ks),.cells x.cells])
def downInv (d:Dag) (i:Nat) (low:Int) (l:Nat):Int×List Int×List Int×D6→Prop
 | (k,ks,out,_)=>(l=1 ∧ -1≤k∧k<d.certs.length∧out.length+(k+1).toNat≤d.certs.length∧downI d i low=out++downL d.low low (d.certs.take (k+1).toNat).reverse ks)∨(l=0∧downI d i low=out)
def downMu (l:Nat):Int×List Int×List Int×D6→Nat
 | (k,_,_,_)=>if l=1 then (k+1).toNat+1 else 0
def parSt (d:Dag) (low k:Int) (out:List Int) (c:Cert) (ks:List Int) (j:Nat):AF×List AB :=
 ([(2,.d (.int .i64 low)),(3,.ptr 0 0),(6,.arr 1),(7,.map 2),(8,.ptr 3 0),(9,.d (.int .i64 k)),(54,.d (.sl 1 (nums c.pars))),(55,.d (.int .i64 c.pars.length)),(56,.d (.int .i64 j))],[.cells d.cells,.row 3 1 (nums out) false,.map (setM (addS ks (c.pars.take j))),.cells c.cells])
set_option maxHeartbeats 2000000 in
theorem down_ok (d:Dag) (hd:d.certs.length≤65536) (hp:fewC d) (hlow:0≤d.low∧d.low≤1099511627776) (i:Nat) (hi:i<d.certs.length) (low:Int):ACalls Tryz.prog 100 [d.av,.d (.int .i64 i),.d (.int .i64 low)] [] (fun av L=>av = .arr 0∧L=[.row 3 1 (nums (downI d i low)) false]):=by
 have hcl:=certsD_length d.certs
 obtain ⟨c0,hc0⟩:∃ c,d.certs[i]? = some c:=⟨_,List.getElem?_eq_getElem hi⟩
 (refine acalls_go ttOk zOk foOk Tryz.func100 rfl Tryz.ntmps100 rfl true rfl ?_);(conv=>whnf)
 refine scope_go ttOk zOk foOk (σ:=Int×List Int×List Int×D6) (downSt d low) (downInv d i low) downMu ?_ ?_
 ·rintro l rest hl ⟨k,ks,out,⟨x1,x2,x3,x4,x5,x6⟩⟩ hh
  rcases hh with ⟨rfl,h1,h2,h3,h4⟩|⟨rfl,h4⟩
  ·have e:=Option.some.inj (show some _=some rest from hl)
   subst e
   clear hl
   conv=>whnf
   refine rdz ?_;repeat' ((with_reducible apply tw)<;>intro _)
   ·rename_i h
    refine into_of [2,3,6,7,8,9] ?_
    conv=>whnf
    refine ⟨(k,ks,out,⟨_,_,_,_,_,_⟩),rfl,rfl,.inr ⟨rfl,?_⟩,by show 0<(k+1).toNat+1;omega⟩
    rw [h4,show (k+1).toNat=0 by omega]
    simp [downL]
   ·rename_i h
    obtain ⟨m,hm⟩:∃ m:Nat,k=m:=⟨k.toNat,by omega⟩
    subst hm
    obtain ⟨c,hc⟩:∃ c,d.certs[m]? = some c:=⟨_,List.getElem?_eq_getElem (by omega)⟩
    have hpf:=hp c (List.mem_of_getElem? hc)
    have hpl:=nums_length c.pars
    unfold few at hpf
    rw [show ((m:Int)+1).toNat=m+1 by omega,take_rev hc] at h4
    refine ⟨by omega,c.cs,certsD_at hc,?_⟩
    conv=>whnf
    refine rdz ?_;repeat' ((with_reducible apply tw)<;>intro _)
    ·rename_i h5
     refine into_of [2,3,6,7,8,9] ?_
     conv=>whnf
     refine ⟨(m,ks,out,⟨_,_,_,_,_,_⟩),rfl,rfl,.inr ⟨rfl,?_⟩,by show 0<((m:Int)+1).toNat+1;omega⟩
     rw [h4,downL,if_pos h5,List.append_nil]
    ·rename_i h5
     rw [downL,if_neg h5] at h4
     obtain ⟨q,hq,hq2⟩:=setM_look ks c.digest
     refine ⟨q,hq,?_⟩
     have hmu:∀ z:Int×List Int×List Int×D6,z.1=(m:Int) - 1→downMu 1 z<downMu 1 ((m:Int),ks,out,D6.mk x1 x2 x3 x4 x5 x6):=by
      rintro ⟨a,_,_,_⟩ hz
      replace hz:a=(m:Int) - 1:=hz
      subst hz
      show ((m:Int) - 1+1).toNat+1<((m:Int)+1).toNat+1
      omega
     rcases hq2 with ⟨hin,j,rfl⟩|⟨hin,rfl⟩
     ·rw [if_pos hin] at h4
      conv=>whnf
      refine ⟨by rw [nums_length,List.length_singleton];show (out.length+1) * 8≤_;omega,?_⟩
      conv=>whnf
      rw [nums_app]
      refine rdz ?_;repeat' ((with_reducible apply tw)<;>intro _)
      ·rename_i h6
       rw [if_pos h6] at h4
       refine loop_go ttOk zOk foOk (σ:=Nat) (parSt d low ((m:Int) - 1) (out++[c.digest]) c ks) (fun j=>j≤c.pars.length) (fun j=>c.pars.length - j) [2,3,6,7,8,9,54,55,56] ?_ ?_
       ·conv=>whnf
        refine ⟨0,?_,?_,Nat.zero_le _⟩
        ·rw [hpl];rfl
        ·rfl
       ·intro j hj
        conv=>whnf
        refine rdz ?_;repeat' ((with_reducible apply tw)<;>intro _)
        ·rename_i h7
         obtain ⟨x,hx⟩:∃ x,c.pars[j]? = some x:=⟨_,List.getElem?_eq_getElem (by omega)⟩
         refine ⟨by omega,[.int .i64 x],nums_at hx,?_⟩
         conv=>whnf
         obtain ⟨q,hq,hq2⟩:=setM_put (addS ks (c.pars.take j)) x
         refine ⟨q,hq,?_⟩
         rw [show mputAt (setM (addS ks (c.pars.take j))) q (.one (.int .i64 x)) (.v (.one (avOf1 (Value.bool true))))=setM (addS ks (c.pars.take (j+1))) by rw [List.take_add_one,hx];simp only [addS,Option.toList_some,List.foldl_append,List.foldl_cons,List.foldl_nil];exact hq2]
         conv=>whnf
         refine rdz ?_;repeat' ((with_reducible apply tw)<;>intro _)
         exact ⟨j+1,rfl,rfl,by omega,by omega⟩
        ·rename_i h7
         obtain rfl:j=c.pars.length:=by omega
         refine into_of [2,3,6,7,8,9] ?_
         conv=>whnf
         rw [List.take_length]
         refine ⟨((m:Int) - 1,addS ks c.pars,out++[c.digest],⟨_,_,_,_,_,_⟩),rfl,rfl,.inl ⟨rfl,by omega,by omega,by rw [List.length_append,List.length_singleton];omega,?_⟩,hmu _ rfl⟩
         rw [h4,show ((m:Int) - 1+1).toNat=m by omega,List.append_assoc]
         rfl
      ·rename_i h6
       rw [if_neg h6] at h4
       refine into_of [2,3,6,7,8,9] ?_
       conv=>whnf
       refine ⟨((m:Int) - 1,ks,out++[c.digest],⟨_,_,_,_,_,_⟩),rfl,rfl,.inl ⟨rfl,by omega,by omega,by rw [List.length_append,List.length_singleton];omega,?_⟩,hmu _ rfl⟩
       rw [h4,show ((m:Int) - 1+1).toNat=m by omega,List.append_assoc]
       rfl
     ·rw [if_neg hin] at h4
      conv=>whnf
      refine rdz ?_;repeat' ((with_reducible apply tw)<;>intro _)
      refine into_of [2,3,6,7,8,9] ?_
      conv=>whnf
      refine ⟨((m:Int) - 1,ks,out,⟨_,_,_,_,_,_⟩),rfl,rfl,.inl ⟨rfl,by omega,by omega,by omega,?_⟩,hmu _ rfl⟩
      rw [h4,show ((m:Int) - 1+1).toNat=m by omega]
  ·have e:=Option.some.inj (show some _=some rest from hl)
   subst e
   clear hl
   rw [h4]
   conv=>whnf
   exact ⟨rfl,rfl⟩
 ·intro pass
  conv=>whnf
  refine rdz ?_;repeat' ((with_reducible apply tw)<;>intro _)
  refine ⟨by omega,c0.cs,certsD_at hc0,?_⟩
  conv=>whnf
  refine ⟨none,rfl,?_⟩
  conv=>whnf
  have hstart:downInv d i low 1 ((i:Int),[c0.digest],[],⟨.int .i64 0,.int .i64 0,.nils,.nils,.int .i64 0,.nils⟩):=by
   refine .inl ⟨rfl,by omega,by omega,by show 0+((i:Int)+1).toNat≤_;omega,?_⟩
   rw [downI,hc0,show ((i:Int)+1).toNat=i+1 by omega]
   rfl
  refine aw_at (σ:=Unit) (fun _=>downSt d low ((i:Int),[c0.digest],[],⟨.int .i64 0,.int .i64 0,.nils,.nils,.int .i64 0,.nils⟩)) (fun _=>True) [2,3,6,7,8,9] ?_ ?_
  ·conv=>whnf
   exact ⟨(),rfl,rfl,trivial⟩
  ·intro _ _
   exact pass 1 _ rfl _ hstart
end Go.Proofs.YtodimgkpjnpbiaaGreat
