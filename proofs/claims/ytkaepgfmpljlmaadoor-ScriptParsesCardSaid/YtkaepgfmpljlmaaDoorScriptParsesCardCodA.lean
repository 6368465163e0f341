/- ScriptParsesCard: contracts. -/
import Derived.Test.YtkaepgfmpljlmaaDoorScriptParsesCardRowA
import Derived.Test.YtkaepgfmpljlmaaDoorProg
import Derived.Lib.AtoiAll
import Derived.Lib.ItoaLen
import Derived.Lib.SplitLaws
import Derived.Shelf.Strings.Builder1
import Derived.Shelf.Strings.Builder2
import Derived.Shelf.Strings.OnBuilder
import Derived.Shelf.Strings.BuilderF
import Derived.Shelf.Strings.BuilderK
import Derived.Shelf.Utf8.RuneCount
import Derived.Shelf.Strings.Builder2Cap
import Derived.Shelf.Strconv.Atoi
import Derived.Shelf.Strconv.Itoa0
import Derived.Shelf.Strconv.Itoa1
import Derived.Shelf.LaysM
import Derived.Shelf.Strconv.Itoa2
import Derived.Shelf.Strconv.Itoa3
import Derived.Shelf.Strconv.AtoiErrFast
import Derived.Shelf.Strconv.ParseIntEmpty
import Derived.Shelf.Strconv.AtoiFail
import Derived.Shelf.Strconv.Clone
import Derived.Shelf.Strconv.SyntaxError
import Derived.Shelf.LaysC
import Derived.Shelf.Strconv.ToError
import Derived.Shelf.Strconv.Lower
import Derived.Shelf.Strconv.ParseUint10
import Derived.Shelf.Strconv.ParseUint10Empty
import Derived.Shelf.Strconv.ParseUint10Any
import Derived.Shelf.Strconv.RangeError
import Derived.Shelf.Strconv.ToErrorRange
import Derived.Shelf.Strconv.ParseUintEmpty
import Derived.Shelf.Strconv.ParseUint10b64
import Derived.Shelf.Strconv.ParseUint10b32
import Derived.Shelf.Strconv.ParseUint10b16
import Derived.Shelf.Strconv.ParseUint10b8
import Derived.Shelf.Strconv.ParseUint10At
import Derived.Shelf.Strings.Search1
import Derived.Shelf.Strings.Search2
import Derived.Shelf.Strings.Search3
import Derived.Shelf.Strings.Count
import Derived.Shelf.Strings.Shaped
import Derived.Shelf.Strings.Split
import Derived.Shelf.Strings.SplitShaped
import Derived.Shelf.Unicode.Decode
import Derived.Shelf.Strings.RuneCount
import Derived.Shelf.Strings.Explode
import Derived.Shelf.Unicode.DecodeSlow
import Derived.Shelf.Unicode.DecodeAny
import Derived.Shelf.Strings.BuilderCap
import Derived.Shelf.Strconv.AtoiAll
import Derived.Ground.NamesProg
import Derived.Lib.AtoiAllCases
import Derived.BigCall
import Derived.Lib.AtoiErrMem
set_option linter.unusedVariables false
set_option linter.unusedSimpArgs false
namespace Go.Proofs.YtkaepgfmpljlmaaDoor
open Go.Ab Go.RowKit
def ttab : List (Nat × TI) := [
  (2,⟨(.int .i64),(.int .i64 0),1,8,false,false⟩),
  (3,⟨(.int .i64),(.int .i64 0),1,8,false,false⟩),
  (4,⟨(.bool),(.bool false),1,1,false,false⟩),
  (5,⟨(.int .u8),(.int .u8 0),1,1,false,false⟩),
  (9,⟨(.string),(.string (ByteArray.mk #[])),1,16,false,false⟩),
  (12,⟨(.int .u64),(.int .u64 0),1,8,false,false⟩),
  (21,⟨(.int .i32),(.int .i32 0),1,4,false,false⟩),
  (22,⟨(.slice 40),(.slice none 0 0),1,24,false,false⟩),
  (24,⟨(.slice 3),(.slice none 0 0),1,24,false,false⟩),
  (25,⟨(.struct #[(Field.mk "Sender" 3 0 false "" "" 0),(Field.mk "Seq" 3 1 false "" "" 8),(Field.mk "Key" 9 2 false "" "" 16),(Field.mk "Val" 9 3 false "" "" 32)]),(.agg #[.int .i64 0,.int .i64 0,.string (ByteArray.mk #[]),.string (ByteArray.mk #[])]),4,48,false,false⟩),
  (26,⟨(.struct #[(Field.mk "Sender" 3 0 false "" "" 0),(Field.mk "Seq" 3 1 false "" "" 8),(Field.mk "Key" 9 2 false "" "" 16),(Field.mk "Val" 9 3 false "" "" 32)]),(.agg #[.int .i64 0,.int .i64 0,.string (ByteArray.mk #[]),.string (ByteArray.mk #[])]),4,48,false,false⟩),
  (27,⟨(.slice 26),(.slice none 0 0),1,24,false,false⟩),
  (28,⟨(.struct #[(Field.mk "Author" 3 0 false "" "" 0),(Field.mk "N" 3 1 false "" "" 8),(Field.mk "Txs" 27 2 false "" "" 16)]),(.agg #[.int .i64 0,.int .i64 0,.slice none 0 0]),3,40,false,false⟩),
  (29,⟨(.struct #[(Field.mk "Author" 3 0 false "" "" 0),(Field.mk "N" 3 1 false "" "" 8),(Field.mk "Txs" 27 2 false "" "" 16)]),(.agg #[.int .i64 0,.int .i64 0,.slice none 0 0]),3,40,false,false⟩),
  (30,⟨(.struct #[(Field.mk "Author" 3 0 false "" "" 0),(Field.mk "Round" 3 1 false "" "" 8),(Field.mk "Batches" 24 2 false "" "" 16),(Field.mk "Parents" 24 3 false "" "" 40)]),(.agg #[.int .i64 0,.int .i64 0,.slice none 0 0,.slice none 0 0]),4,64,false,false⟩),
  (31,⟨(.struct #[(Field.mk "Author" 3 0 false "" "" 0),(Field.mk "Round" 3 1 false "" "" 8),(Field.mk "Batches" 24 2 false "" "" 16),(Field.mk "Parents" 24 3 false "" "" 40)]),(.agg #[.int .i64 0,.int .i64 0,.slice none 0 0,.slice none 0 0]),4,64,false,false⟩),
  (32,⟨(.struct #[(Field.mk "Header" 31 0 false "" "" 0),(Field.mk "Digest" 3 4 false "" "" 64),(Field.mk "Signers" 24 5 false "" "" 72)]),(.agg #[.int .i64 0,.int .i64 0,.slice none 0 0,.slice none 0 0,.int .i64 0,.slice none 0 0]),6,96,false,false⟩),
  (33,⟨(.struct #[(Field.mk "Header" 31 0 false "" "" 0),(Field.mk "Digest" 3 4 false "" "" 64),(Field.mk "Signers" 24 5 false "" "" 72)]),(.agg #[.int .i64 0,.int .i64 0,.slice none 0 0,.slice none 0 0,.int .i64 0,.slice none 0 0]),6,96,false,false⟩),
  (34,⟨(.struct #[(Field.mk "Kind" 3 0 false "" "" 0),(Field.mk "From" 3 1 false "" "" 8),(Field.mk "To" 3 2 false "" "" 16),(Field.mk "Digest" 3 3 false "" "" 24),(Field.mk "Batch" 29 4 false "" "" 32),(Field.mk "Header" 31 7 false "" "" 72),(Field.mk "Cert" 33 11 false "" "" 136),(Field.mk "Digests" 24 17 false "" "" 232)]),(.agg #[.int .i64 0,.int .i64 0,.int .i64 0,.int .i64 0,.int .i64 0,.int .i64 0,.slice none 0 0,.int .i64 0,.int .i64 0,.slice none 0 0,.slice none 0 0,.int .i64 0,.int .i64 0,.slice none 0 0,.slice none 0 0,.int .i64 0,.slice none 0 0,.slice none 0 0]),18,256,false,false⟩),
  (35,⟨(.struct #[(Field.mk "Kind" 3 0 false "" "" 0),(Field.mk "From" 3 1 false "" "" 8),(Field.mk "To" 3 2 false "" "" 16),(Field.mk "Digest" 3 3 false "" "" 24),(Field.mk "Batch" 29 4 false "" "" 32),(Field.mk "Header" 31 7 false "" "" 72),(Field.mk "Cert" 33 11 false "" "" 136),(Field.mk "Digests" 24 17 false "" "" 232)]),(.agg #[.int .i64 0,.int .i64 0,.int .i64 0,.int .i64 0,.int .i64 0,.int .i64 0,.slice none 0 0,.int .i64 0,.int .i64 0,.slice none 0 0,.slice none 0 0,.int .i64 0,.int .i64 0,.slice none 0 0,.slice none 0 0,.int .i64 0,.slice none 0 0,.slice none 0 0]),18,256,false,false⟩),
  (36,⟨(.slice 5),(.slice none 0 0),1,24,false,false⟩),
  (37,⟨(.struct #[(Field.mk "Kind" 3 0 false "" "" 0),(Field.mk "Node" 3 1 false "" "" 8),(Field.mk "Peer" 3 2 false "" "" 16),(Field.mk "N" 3 3 false "" "" 24),(Field.mk "Picks" 24 4 false "" "" 32),(Field.mk "Tx" 26 5 false "" "" 56),(Field.mk "Message" 35 9 false "" "" 104),(Field.mk "Bytes" 36 27 false "" "" 360)]),(.agg #[.int .i64 0,.int .i64 0,.int .i64 0,.int .i64 0,.slice none 0 0,.int .i64 0,.int .i64 0,.string (ByteArray.mk #[]),.string (ByteArray.mk #[]),.int .i64 0,.int .i64 0,.int .i64 0,.int .i64 0,.int .i64 0,.int .i64 0,.slice none 0 0,.int .i64 0,.int .i64 0,.slice none 0 0,.slice none 0 0,.int .i64 0,.int .i64 0,.slice none 0 0,.slice none 0 0,.int .i64 0,.slice none 0 0,.slice none 0 0,.slice none 0 0]),28,384,false,false⟩),
  (38,⟨(.struct #[(Field.mk "Kind" 3 0 false "" "" 0),(Field.mk "Node" 3 1 false "" "" 8),(Field.mk "Peer" 3 2 false "" "" 16),(Field.mk "N" 3 3 false "" "" 24),(Field.mk "Picks" 24 4 false "" "" 32),(Field.mk "Tx" 26 5 false "" "" 56),(Field.mk "Message" 35 9 false "" "" 104),(Field.mk "Bytes" 36 27 false "" "" 360)]),(.agg #[.int .i64 0,.int .i64 0,.int .i64 0,.int .i64 0,.slice none 0 0,.int .i64 0,.int .i64 0,.string (ByteArray.mk #[]),.string (ByteArray.mk #[]),.int .i64 0,.int .i64 0,.int .i64 0,.int .i64 0,.int .i64 0,.int .i64 0,.slice none 0 0,.int .i64 0,.int .i64 0,.slice none 0 0,.slice none 0 0,.int .i64 0,.int .i64 0,.slice none 0 0,.slice none 0 0,.int .i64 0,.slice none 0 0,.slice none 0 0,.slice none 0 0]),28,384,false,false⟩),
  (39,⟨(.struct #[(Field.mk "A" 38 0 false "" "" 0),(Field.mk "S" 9 28 false "" "" 384)]),(.agg #[.int .i64 0,.int .i64 0,.int .i64 0,.int .i64 0,.slice none 0 0,.int .i64 0,.int .i64 0,.string (ByteArray.mk #[]),.string (ByteArray.mk #[]),.int .i64 0,.int .i64 0,.int .i64 0,.int .i64 0,.int .i64 0,.int .i64 0,.slice none 0 0,.int .i64 0,.int .i64 0,.slice none 0 0,.slice none 0 0,.int .i64 0,.int .i64 0,.slice none 0 0,.slice none 0 0,.int .i64 0,.slice none 0 0,.slice none 0 0,.slice none 0 0,.string (ByteArray.mk #[])]),29,400,false,false⟩),
  (40,⟨(.struct #[(Field.mk "A" 38 0 false "" "" 0),(Field.mk "S" 9 28 false "" "" 384)]),(.agg #[.int .i64 0,.int .i64 0,.int .i64 0,.int .i64 0,.slice none 0 0,.int .i64 0,.int .i64 0,.string (ByteArray.mk #[]),.string (ByteArray.mk #[]),.int .i64 0,.int .i64 0,.int .i64 0,.int .i64 0,.int .i64 0,.int .i64 0,.slice none 0 0,.int .i64 0,.int .i64 0,.slice none 0 0,.slice none 0 0,.int .i64 0,.int .i64 0,.slice none 0 0,.slice none 0 0,.int .i64 0,.slice none 0 0,.slice none 0 0,.slice none 0 0,.string (ByteArray.mk #[])]),29,400,false,false⟩),
  (41,⟨(.int .i64),(.int .i64 0),1,8,false,false⟩),
  (56,⟨(.slice 9),(.slice none 0 0),1,24,false,false⟩),
  (60,⟨(.pointer 63),(.pointer none),1,8,false,false⟩),
  (62,⟨(.struct #[(Field.mk "l" 56 0 false "" "drover/script" 0),(Field.mk "bad" 4 1 false "" "drover/script" 24)]),(.agg #[.slice none 0 0,.bool false]),2,32,false,false⟩),
  (63,⟨(.struct #[(Field.mk "l" 56 0 false "" "drover/script" 0),(Field.mk "bad" 4 1 false "" "drover/script" 24)]),(.agg #[.slice none 0 0,.bool false]),2,32,false,false⟩),
  (65,⟨(.slice 68),(.slice none 0 0),1,24,false,false⟩),
  (67,⟨(.struct #[(Field.mk "kind" 3 0 false "" "drover/script" 0),(Field.mk "word" 9 1 false "" "drover/script" 8),(Field.mk "has" 9 2 false "" "drover/script" 24)]),(.agg #[.int .i64 0,.string (ByteArray.mk #[]),.string (ByteArray.mk #[])]),3,40,false,false⟩),
  (68,⟨(.struct #[(Field.mk "kind" 3 0 false "" "drover/script" 0),(Field.mk "word" 9 1 false "" "drover/script" 8),(Field.mk "has" 9 2 false "" "drover/script" 24)]),(.agg #[.int .i64 0,.string (ByteArray.mk #[]),.string (ByteArray.mk #[])]),3,40,false,false⟩),
  (93,⟨(.pointer 95),(.pointer none),1,8,false,false⟩),
  (94,⟨(.struct #[(Field.mk "addr" 93 0 false "" "strings" 0),(Field.mk "buf" 36 1 false "" "strings" 8)]),(.agg #[.pointer none,.slice none 0 0]),2,32,false,false⟩),
  (95,⟨(.struct #[(Field.mk "addr" 93 0 false "" "strings" 0),(Field.mk "buf" 36 1 false "" "strings" 8)]),(.agg #[.pointer none,.slice none 0 0]),2,32,false,false⟩),
  (102,⟨(.int .u64),(.int .u64 0),1,8,false,false⟩),
  (105,⟨(.int .u64),(.int .u64 0),1,8,false,false⟩),
  (110,⟨(.pointer 5),(.pointer none),1,8,false,false⟩),
  (131,⟨(.struct #[(Field.mk "lo" 5 0 false "" "unicode/utf8" 0),(Field.mk "hi" 5 1 false "" "unicode/utf8" 1)]),(.agg #[.int .u8 0,.int .u8 0]),2,2,false,false⟩),
  (132,⟨(.struct #[(Field.mk "lo" 5 0 false "" "unicode/utf8" 0),(Field.mk "hi" 5 1 false "" "unicode/utf8" 1)]),(.agg #[.int .u8 0,.int .u8 0]),2,2,false,false⟩),
  (134,⟨(.int .u32),(.int .u32 0),1,4,false,false⟩),
  (137,⟨(.int .i64),(.int .i64 0),1,8,false,false⟩),
  (140,⟨(.pointer 151),(.pointer none),1,8,false,false⟩),
  (150,⟨(.struct #[(Field.mk "Func" 9 0 false "" "" 0),(Field.mk "Num" 9 1 false "" "" 16),(Field.mk "Err" 98 2 false "" "" 32)]),(.agg #[.string (ByteArray.mk #[]),.string (ByteArray.mk #[]),.nilIface]),3,48,false,false⟩),
  (151,⟨(.struct #[(Field.mk "Func" 9 0 false "" "" 0),(Field.mk "Num" 9 1 false "" "" 16),(Field.mk "Err" 98 2 false "" "" 32)]),(.agg #[.string (ByteArray.mk #[]),.string (ByteArray.mk #[]),.nilIface]),3,48,false,false⟩),
  (155,⟨(.pointer 157),(.pointer none),1,8,false,false⟩),
  (156,⟨(.struct #[(Field.mk "s" 9 0 false "" "errors" 0)]),(.agg #[.string (ByteArray.mk #[])]),1,16,false,false⟩),
  (157,⟨(.struct #[(Field.mk "s" 9 0 false "" "errors" 0)]),(.agg #[.string (ByteArray.mk #[])]),1,16,false,false⟩)]
noncomputable def tt : TypeId → Option TI := tget ttab
theorem ttOk : TTok Tryd.prog tt := TTok_of (by
  unfold ttab ttAll; refine ⟨⟨by kernel_rfl, by kernel_rfl⟩, ⟨by kernel_rfl, by kernel_rfl⟩, ⟨by kernel_rfl, by kernel_rfl⟩, ⟨by kernel_rfl, by kernel_rfl⟩, ⟨by kernel_rfl, by kernel_rfl⟩, ⟨by kernel_rfl, by kernel_rfl⟩, ⟨by kernel_rfl, by kernel_rfl⟩, ⟨by kernel_rfl, by kernel_rfl⟩, ⟨by kernel_rfl, by kernel_rfl⟩, ⟨by kernel_rfl, by kernel_rfl⟩, ⟨by kernel_rfl, by kernel_rfl⟩, ⟨by kernel_rfl, by kernel_rfl⟩, ⟨by kernel_rfl, by kernel_rfl⟩, ⟨by kernel_rfl, by kernel_rfl⟩, ⟨by kernel_rfl, by kernel_rfl⟩, ⟨by kernel_rfl, by kernel_rfl⟩, ⟨by kernel_rfl, by kernel_rfl⟩, ⟨by kernel_rfl, by kernel_rfl⟩, ⟨by kernel_rfl, by kernel_rfl⟩, ⟨by kernel_rfl, by kernel_rfl⟩, ⟨by kernel_rfl, by kernel_rfl⟩, ⟨by kernel_rfl, by kernel_rfl⟩, ⟨by kernel_rfl, by kernel_rfl⟩, ⟨by kernel_rfl, by kernel_rfl⟩, ⟨by kernel_rfl, by kernel_rfl⟩, ⟨by kernel_rfl, by kernel_rfl⟩, ⟨by kernel_rfl, by kernel_rfl⟩, ⟨by kernel_rfl, by kernel_rfl⟩, ⟨by kernel_rfl, by kernel_rfl⟩, ⟨by kernel_rfl, by kernel_rfl⟩, ⟨by kernel_rfl, by kernel_rfl⟩, ⟨by kernel_rfl, by kernel_rfl⟩, ⟨by kernel_rfl, by kernel_rfl⟩, ⟨by kernel_rfl, by kernel_rfl⟩, ⟨by kernel_rfl, by kernel_rfl⟩, ⟨by kernel_rfl, by kernel_rfl⟩, ⟨by kernel_rfl, by kernel_rfl⟩, ⟨by kernel_rfl, by kernel_rfl⟩, ⟨by kernel_rfl, by kernel_rfl⟩, ⟨by kernel_rfl, by kernel_rfl⟩, ⟨by kernel_rfl, by kernel_rfl⟩, ⟨by kernel_rfl, by kernel_rfl⟩, ⟨by kernel_rfl, by kernel_rfl⟩, ⟨by kernel_rfl, by kernel_rfl⟩, ⟨by kernel_rfl, by kernel_rfl⟩, ⟨by kernel_rfl, by kernel_rfl⟩, ⟨by kernel_rfl, by kernel_rfl⟩, ⟨by kernel_rfl, by kernel_rfl⟩, ⟨by kernel_rfl, by kernel_rfl⟩, trivial⟩)
theorem zOk : ZOok tt := ZOok_of (by kernel_rfl)
def ftab : List Nat := [3, 4, 5, 6, 7, 8, 9, 10, 11, 12, 13, 14, 15, 16, 17, 18, 19, 20, 21, 22, 23, 24, 25, 26, 27, 28, 29, 30, 31, 32, 33, 34, 35, 36, 37, 38, 39, 40, 41, 42, 43, 44, 45, 46, 47, 48, 49, 50, 51, 52, 53, 54, 55, 56, 57, 58, 59, 60, 61, 62, 63, 65, 70, 71, 72]
noncomputable def fo : FuncId → Bool := fun g => memB g ftab
theorem foOk : FOok Tryd.prog fo := FOok_of (by kernel_rfl)
end Go.Proofs.YtkaepgfmpljlmaaDoor
namespace Go.Proofs.YtkaepgfmpljlmaaDoor
open Go.Ab
def pl10x13 : Plan := ⟨[[],[0],[0,1],[],[3],[3,4],[],[6],[6,7],[7,6,8,4,3,5,1,0,2],[2,0,1,5,3,4,8,6,7,9],[9,7,6,8,4,3,5,1,0,2,10]],[0,1,2,3,4,5,6,7,8,9],[(10,[11])]⟩
def pl10x15 : Plan := ⟨[[],[0],[0,1],[],[3],[3,4],[],[6],[6,7],[7,6,8,4,3,5,1,0,2],[2,0,1,5,3,4,8,6,7,9],[9,7,6,8,4,3,5,1,0,2,10]],[0,1,2,3,4,5,6,7,8,9],[(10,[11])]⟩
def pl10x17 : Plan := ⟨[[],[0],[0,1],[],[3],[3,4],[],[6],[6,7],[7,6,8,4,3,5,1,0,2],[2,0,1,5,3,4,8,6,7,9],[9,7,6,8,4,3,5,1,0,2,10]],[0,1,2,3,4,5,6,7,8,9],[(10,[11])]⟩
def pl10x19 : Plan := ⟨[[],[0],[0,1],[],[3],[3,4,1,0,2],[2,0,1,4,3,5],[5,3,4,1,0,2,6]],[0,1,2,3,4,5],[(6,[7])]⟩
def pl10x21 : Plan := ⟨[[],[0],[0,1],[],[3],[3,4],[],[6],[6,7,4,3,5,1,0,2],[2,0,1,5,3,4,7,6,8],[8,6,7,4,3,5,1,0,2,9]],[0,1,2,3,4,5,6,7,8],[(9,[10])]⟩
def pl10x27 : Plan := ⟨[[],[0],[0,1],[],[3],[3,4],[],[6],[6,7],[],[],[10,9,7,6,8,4,3,5],[5,3,4,8,6,7,9,10,11,1,0,2],[2,0,1,11,10,9,7,6,8,4,3,5,12],[12,5,3,4,8,6,7,9,10,11,1,0,2,13]],[0,1,2,3,4,5,6,7,8,9,10,11,12],[(13,[14])]⟩
def pl10x32 : Plan := ⟨[[],[0],[0,1],[],[3],[3,4],[],[6],[6,7,4,3,5,1,0,2],[2,0,1,5,3,4,7,6,8],[8,6,7,4,3,5,1,0,2,9]],[0,1,2,3,4,5,6,7,8],[(9,[10])]⟩
def pl18x6 : Plan := ⟨[[],[],[1,0],[0,1,2],[],[],[5,4],[4,5,6],[6,5,4,7,2,1,0,3]],[0,1,2,3,4,5,6,7,8],[]⟩
def pl19x5 : Plan := ⟨[[],[],[],[2,1],[1,2,3],[3,2,1,4],[4,1,2,3,5],[5,3,2,1,4,6,0],[],[],[9,8],[8,9,10],[10,9,8,11],[11,8,9,10,12],[12,10,9,8,11,13,0,6,4,1,2,3,5,7],[7,5,3,2,1,4,6,0,13,11,8,9,10,12,14]],[0,1,2,3,4,5,6,7,8,9,10,11,12,13,14],[(15,[])]⟩
def pl20x1 : Plan := ⟨[[],[0],[0,1],[1,0,2],[],[4],[2,0,1,3,4,5],[5,4,6,2,0,1,3],[],[8],[5,4,3,1,0,2,6,8,9],[9,8,10,3,1,0,2,6,4,5,7],[],[12],[12,13],[13,12,14,7,5,4,6,2,0,1,3,10,8,9,11],[11,9,8,10,3,1,0,2,6,4,5,7,14,12,13,15]],[0,1,2,4,5,8,9,12,13,14],[(3,[]),(6,[7]),(10,[11,15,16])]⟩
def pl22x4 : Plan := ⟨[[],[],[1],[1,2],[2,1,3],[3,1,2,4],[4,2,1,3,5],[],[7],[7,8],[8,7,9],[9,7,8,10],[5,3,1,2,4,6],[12,11,10,9,8,7,6,5,4,3,2,1,0],[0,1,2,3,4,5,6,7,8,9,10,11,12,13],[13,12,11,10,9,8,7,6,5,4,3,2,1,0,14]],[0,1,2,3,4,5,6,7,8,9,10,11,12,13,14],[(15,[])]⟩
def pl24x7 : Plan := ⟨[[],[0],[],[2],[2,3],[3,2,4,0,1],[5,4,3,2,1,0],[0,1,2,3,4,5,6]],[0,1,2],[(3,[]),(4,[]),(5,[6]),(7,[])]⟩
def pl27x9 : Plan := ⟨[[],[],[1,0],[0,1,2],[],[],[5],[5,6,4],[2,1,0,3,4,6,5,7],[7,5,6,4,8,2,1,0,3],[9,7,5,6,4,3,0,1,2,8]],[0,1,2,4,5,6,7],[(3,[]),(8,[9,10])]⟩
def pl36x1 : Plan := ⟨[[],[0],[0,1],[],[3],[3,4],[4,3,5,1,0,2],[2,0,1,5,3,4,6]],[0,1,3,4,5],[(2,[6,7])]⟩
def pl42x6 : Plan := ⟨[[],[],[1,0],[0,1,2],[],[],[5,4],[4,5,6],[6,5,4,7,2,1,0,3]],[0,1,2,3,4,5,6,7,8],[]⟩
end Go.Proofs.YtkaepgfmpljlmaaDoor
namespace Go.Scr
open Go.Lib
theorem pu_app : ∀ (l : List UInt8) (acc : Nat) (c : UInt8), parseUint10 acc (l ++ [c]) = (match parseUint10 acc l with | .ok u => parseUint10 u [c] | e => e)
  | [], acc, c => rfl
  | d :: r, acc, c => by
    simp only [List.cons_append]
    rw [parseUint10, parseUint10]
    split
    · split
      · rfl
      · split
        · rfl
        · exact pu_app r _ c
    · rfl
theorem dig_nat {d : Nat} (h : d < 10) : (UInt8.ofNat (48 + d)).toNat = 48 + d := by
  rw [UInt8.toNat_ofNat']
  omega
theorem pu_one {acc d : Nat} (h : d < 10) (hu : acc * 10 + d < 18446744073709551616) : parseUint10 acc [UInt8.ofNat (48 + d)] = .ok (acc * 10 + d) := by
  rw [parseUint10, dig_nat h, if_pos (by omega), if_neg (by omega), if_neg (by omega), parseUint10]
  congr 1
  omega
theorem pu_digits (u : Nat) (hu : u < 18446744073709551616) : parseUint10 0 (decDigits u) = .ok u := by
  induction u using Nat.strongRecOn with
  | _ u ih =>
    rw [decDigits]
    split
    · rename_i h
      have := pu_one (acc := 0) h (by omega)
      rw [this]
      congr 1
      omega
    · rename_i h
      rw [pu_app, ih (u / 10) (by omega) (by omega)]
      show parseUint10 (u / 10) _ = _
      rw [pu_one (by omega) (by omega)]
      congr 1
      omega
theorem dec_ne (u : Nat) : decDigits u ≠ [] := by
  intro h
  have := congrArg List.length h
  rw [decDigits_length] at this
  have := nDigits_pos u
  simp at *
  omega
theorem dec_digit (u : Nat) : ∀ c ∈ decDigits u, 48 ≤ c.toNat ∧ c.toNat ≤ 57 := by
  induction u using Nat.strongRecOn with
  | _ u ih =>
    rw [decDigits]
    split
    · rename_i h
      intro c hc
      rw [List.mem_singleton.1 hc, dig_nat h]
      omega
    · rename_i h
      intro c hc
      rcases List.mem_append.1 hc with hc | hc
      · exact ih (u / 10) (by omega) c hc
      · rw [List.mem_singleton.1 hc, dig_nat (by omega)]
        omega
theorem mag_dec {u : Nat} (hu : u < 18446744073709551616) : parseMag (decDigits u) = .ok u := by
  unfold parseMag
  rw [if_neg (dec_ne u), pu_digits u hu]
theorem atoi_itoa (n : Int) (h0 : -9223372036854775808 ≤ n) (h1 : n ≤ 9223372036854775807) : atoiAll (itoa n) = .ok n := by
  unfold itoa
  split
  · rename_i h
    unfold atoiAll
    simp only
    rw [if_pos (.inr (by decide)), mag_dec (by omega)]
    simp only
    rw [if_neg (by simp), if_neg (by simp; omega), if_pos (by decide)]
    congr 1
    omega
  · rename_i h
    cases hd : decDigits n.toNat with
    | nil => exact absurd hd (dec_ne _)
    | cons c r =>
      have hc := dec_digit n.toNat c (by rw [hd]; exact List.mem_cons_self)
      unfold atoiAll
      simp only
      rw [if_neg (by omega), ← hd, mag_dec (by omega)]
      simp only
      rw [if_neg (by omega), if_neg (by omega), if_neg (by omega)]
      congr 1
      omega
def numW (s : List UInt8) : Option Int := match atoiAll s with
  | .ok n => if itoa n = s then some n else none
  | _ => none
theorem numW_iff {s : List UInt8} {n : Int} : numW s = some n ↔ s = itoa n ∧ -9223372036854775808 ≤ n ∧ n ≤ 9223372036854775807 := by
  constructor
  · intro h
    unfold numW at h
    split at h
    · rename_i m hm
      split at h
      · rename_i he
        cases h
        refine ⟨he.symm, ?_⟩
        unfold atoiAll at hm
        split at hm
        · cases hm
        · simp only at hm
          split at hm
          · cases hm
          · cases hm
          · rename_i u hu
            split at hm
            · cases hm
            · split at hm
              · cases hm
              · rename_i k1 k2
                injection hm with hm
                subst hm
                split
                · rename_i k3
                  exact ⟨by omega, by omega⟩
                · rename_i k3
                  exact ⟨by omega, by omega⟩
      · cases h
    · cases h
  · rintro ⟨rfl, h0, h1⟩
    unfold numW
    rw [atoi_itoa n h0 h1]
    simp
end Go.Scr
namespace Go.Scr
open Go.Lib
def digL (u : Nat) : List UInt8 := if u = 0 then [] else decDigits u
theorem digL_step {u : Nat} (h : 0 < u) : digL u = digL (u / 10) ++ [UInt8.ofNat (48 + u % 10)] := by
  unfold digL
  rw [if_neg (by omega), decDigits]
  split
  · rename_i h10
    rw [if_pos (by omega), List.nil_append, Nat.mod_eq_of_lt h10]
  · rw [if_neg (by omega)]
theorem digL_pos {u : Nat} (h : 0 < u) : digL u = decDigits u := if_neg (by omega)
theorem dec_zero : decDigits 0 = [48] := by rw [decDigits_one (by decide)]; rfl
def dvF (a : Nat) : List UInt8 → Nat
  | [] => a
  | c :: r => dvF (a * 10 + (c.toNat - 48)) r
theorem dvF_app : ∀ (l : List UInt8) (a : Nat) (c : UInt8), dvF a (l ++ [c]) = dvF a l * 10 + (c.toNat - 48)
  | [], _, _ => rfl
  | _ :: r, _, c => dvF_app r _ c
theorem dvF_dec (u : Nat) : dvF 0 (decDigits u) = u := by
  induction u using Nat.strongRecOn with
  | _ u ih =>
    rw [decDigits]
    split
    · rename_i h
      show 0 * 10 + ((UInt8.ofNat (48 + u)).toNat - 48) = u
      rw [dig_nat h]
      omega
    · rename_i h
      rw [dvF_app, ih (u / 10) (by omega), dig_nat (by omega)]
      omega
theorem dvF_lt : ∀ (l : List UInt8) (a k : Nat), (∀ c ∈ l, c.toNat ≤ 57) → a < 10 ^ k → dvF a l < 10 ^ (k + l.length)
  | [], a, k, _, h => h
  | c :: r, a, k, hc, h => by
    have h1 := hc c List.mem_cons_self
    have := dvF_lt r (a * 10 + (c.toNat - 48)) (k + 1) (fun x hx => hc x (List.mem_cons_of_mem _ hx)) (by rw [Nat.pow_succ]; omega)
    rw [List.length_cons, show k + (r.length + 1) = k + 1 + r.length by omega]
    exact this
theorem nDigits_19 {u : Nat} (h : u ≤ 9223372036854775808) : nDigits u ≤ 19 := by
  by_cases h1 : u < 10
  · rw [nDigits_small h1]
    omega
  · have hp := nDigits_pos u
    rcases Nat.lt_or_ge 19 (nDigits u) with hl | hl
    · exfalso
      have key : ∀ (k v : Nat), v < 10 ^ k → 1 ≤ k → nDigits v ≤ k := by
        intro k
        induction k with
        | zero => intro v _ h; omega
        | succ k ih =>
          intro v hv _
          by_cases h2 : v < 10
          · rw [nDigits_small h2]
            omega
          · rw [nDigits_big h2]
            have : k ≠ 0 := by
              rintro rfl
              simp at hv
              omega
            have := ih (v / 10) (by rw [Nat.pow_succ] at hv; omega) (by omega)
            omega
      have := key 19 u (by omega) (by omega)
      omega
    · exact hl
def wholeW (s : List UInt8) : Int × Bool :=
  let neg := s.head? = some 45
  let d := if neg then s.drop 1 else s
  if d = [] ∨ 19 < d.length ∨ ¬ ∀ c ∈ d, 48 ≤ c.toNat ∧ c.toNat ≤ 57 then (0, false)
  else if 9223372036854775808 < dvF 0 d ∨ dvF 0 d = 9223372036854775808 ∧ ¬ neg then (0, false)
  else
    let n : Int := if neg then -(dvF 0 d : Int) else dvF 0 d
    (n, decide (itoa n = s))
theorem whole_yes {n : Int} (h0 : -9223372036854775808 ≤ n) (h1 : n ≤ 9223372036854775807) : wholeW (itoa n) = (n, true) := by
  by_cases h : n < 0
  · have e : itoa n = 45 :: decDigits n.natAbs := if_pos h
    have hl : (decDigits n.natAbs).length ≤ 19 := by rw [decDigits_length]; exact nDigits_19 (by omega)
    unfold wholeW
    rw [e]
    simp only [List.head?_cons, if_true, List.drop_succ_cons, List.drop_zero]
    rw [if_neg (by
      rintro (h | h | h)
      · exact dec_ne _ h
      · omega
      · exact h (dec_digit _)), dvF_dec, if_neg (by simp; omega)]
    have e2 : (-(n.natAbs : Int)) = n := by omega
    rw [e2, e]
    simp
  · have e : itoa n = decDigits n.toNat := if_neg h
    have hl : (decDigits n.toNat).length ≤ 19 := by rw [decDigits_length]; exact nDigits_19 (by omega)
    have hh : ¬ (decDigits n.toNat).head? = some 45 := by
      intro h2
      cases hd : decDigits n.toNat with
      | nil => exact dec_ne _ hd
      | cons c r =>
        rw [hd] at h2
        have hc := dec_digit n.toNat c (by rw [hd]; exact List.mem_cons_self)
        simp at h2
        subst h2
        simp at hc
    unfold wholeW
    rw [e]
    simp only [if_neg hh]
    rw [if_neg (by
      rintro (h | h | h)
      · exact dec_ne _ h
      · omega
      · exact h (dec_digit _)), dvF_dec, if_neg (by omega)]
    have e2 : ((n.toNat : Nat) : Int) = n := by omega
    rw [e2, e]
    simp
theorem whole_iff (s : List UInt8) (n : Int) : wholeW s = (n, true) ↔ numW s = some n := by
  rw [numW_iff]
  constructor
  · intro h
    have key : ∀ (d : List UInt8) (P Q : Prop) [Decidable P] [Decidable Q] (m : Int), (if P then ((0 : Int), false) else if Q then (0, false) else (m, decide (itoa m = s))) = (n, true) → ¬ Q ∧ m = n ∧ itoa n = s := by
      intro d P Q _ _ m h
      split at h
      · simp at h
      · split at h
        · simp at h
        · rename_i k
          simp only [Prod.mk.injEq, decide_eq_true_eq] at h
          exact ⟨k, h.1, by rw [← h.1]; exact h.2⟩
    unfold wholeW at h
    by_cases hn : s.head? = some 45
    · simp only [hn, if_true] at h
      obtain ⟨k, h1, h2⟩ := key [] _ _ _ h
      have k1 : ¬ 9223372036854775808 < dvF 0 (s.drop 1) := fun h => k (.inl h)
      exact ⟨h2.symm, by omega, by omega⟩
    · simp only [hn, if_false] at h
      obtain ⟨k, h1, h2⟩ := key [] _ _ _ h
      have k1 : ¬ 9223372036854775808 < dvF 0 s := fun h => k (.inl h)
      have k2 : ¬ dvF 0 s = 9223372036854775808 := fun h => k (.inr ⟨h, fun h => h⟩)
      exact ⟨h2.symm, by omega, by omega⟩
  · rintro ⟨rfl, h0, h1⟩
    exact whole_yes h0 h1
end Go.Scr
namespace Go.Scr
def sgn (v : Nat) : UInt8 := if v < 10 then UInt8.ofNat (48 + v) else UInt8.ofNat (87 + v)
def sigV (c : UInt8) : Option Nat := if 48 ≤ c.toNat ∧ c.toNat ≤ 57 then some (c.toNat - 48) else if 97 ≤ c.toNat ∧ c.toNat ≤ 102 then some (c.toNat - 87) else none
theorem sig_sgn {v : Nat} (h : v < 16) : sigV (sgn v) = some v := by
  have : ∀ v : Fin 16, sigV (sgn v.val) = some v.val := by decide
  exact this ⟨v, h⟩
theorem sgn_sig {c : UInt8} {v : Nat} (h : sigV c = some v) : v < 16 ∧ sgn v = c := by
  unfold sigV at h
  split at h
  · cases h
    refine ⟨by omega, ?_⟩
    unfold sgn
    rw [if_pos (by omega), show 48 + (c.toNat - 48) = c.toNat by omega]
    simp
  · split at h
    · cases h
      refine ⟨by omega, ?_⟩
      unfold sgn
      rw [if_neg (by omega), show 87 + (c.toNat - 87) = c.toNat by omega]
      simp
    · cases h
def hexL (b : List UInt8) : List UInt8 := b.flatMap fun c => [sgn (c.toNat / 16), sgn (c.toNat % 16)]
def hexW (b : List UInt8) : List UInt8 := if b = [] then [45] else hexL b
def pairsW : List UInt8 → Option (List UInt8)
  | [] => some []
  | [_] => none
  | x :: y :: r => match sigV x, sigV y, pairsW r with
    | some a, some b, some t => some (UInt8.ofNat (16 * a + b) :: t)
    | _, _, _ => none
def unhexW (s : List UInt8) : Option (List UInt8) := if s = [45] then some [] else if s = [] then none else pairsW s
theorem pairs_hex : ∀ b : List UInt8, pairsW (hexL b) = some b
  | [] => rfl
  | c :: r => by
    have h1 : c.toNat < 256 := c.toNat_lt
    show pairsW (sgn (c.toNat / 16) :: sgn (c.toNat % 16) :: hexL r) = _
    rw [pairsW, sig_sgn (by omega), sig_sgn (by omega), pairs_hex r]
    simp only
    rw [show 16 * (c.toNat / 16) + c.toNat % 16 = c.toNat by omega]
    simp
theorem hex_pairs : ∀ (s b : List UInt8), pairsW s = some b → hexL b = s ∧ s.length = 2 * b.length
  | [], b, h => by
    simp only [pairsW, Option.some.injEq] at h
    subst h
    exact ⟨rfl, rfl⟩
  | [x], b, h => by simp [pairsW] at h
  | x :: y :: r, b, h => by
    rw [pairsW] at h
    split at h
    · rename_i u v t h1 h2 h3
      cases h
      obtain ⟨k1, k2⟩ := sgn_sig h1
      obtain ⟨k3, k4⟩ := sgn_sig h2
      obtain ⟨k5, k6⟩ := hex_pairs r t h3
      have e : (UInt8.ofNat (16 * u + v)).toNat = 16 * u + v := by rw [UInt8.toNat_ofNat']; omega
      refine ⟨?_, by simp only [List.length_cons]; omega⟩
      show sgn ((UInt8.ofNat (16 * u + v)).toNat / 16) :: sgn ((UInt8.ofNat (16 * u + v)).toNat % 16) :: hexL t = _
      rw [e, show (16 * u + v) / 16 = u by omega, show (16 * u + v) % 16 = v by omega, k2, k4, k5]
    · cases h
theorem hexL_len (b : List UInt8) : (hexL b).length = 2 * b.length := (hex_pairs _ _ (pairs_hex b)).2
theorem hex_unhex {s b : List UInt8} (h : unhexW s = some b) : hexW b = s := by
  unfold unhexW at h
  split at h
  · cases h
    rename_i e
    exact e.symm
  · split at h
    · cases h
    · rename_i h1 h2
      obtain ⟨k1, k2⟩ := hex_pairs s b h
      unfold hexW
      rw [if_neg (fun e => h2 (List.length_eq_zero_iff.1 (by rw [k2, e]; rfl)))]
      exact k1
theorem hexW_ne (b : List UInt8) : hexW b ≠ [] := by
  unfold hexW
  split
  · simp
  · rename_i h
    intro e
    have hl := hexL_len b
    rw [e] at hl
    have hb : 0 < b.length := List.length_pos_iff.2 h
    simp at hl
    omega
theorem sgn_word : ∀ v : Fin 16, sgn v.val ≠ 32 ∧ sgn v.val ≠ 45 := by decide
theorem hexW_sp (b : List UInt8) : (32 : UInt8) ∉ hexW b := by
  unfold hexW
  split
  · decide
  · intro h
    obtain ⟨c, _, hc⟩ := List.mem_flatMap.1 h
    have h1 : c.toNat < 256 := c.toNat_lt
    simp only [List.mem_cons, List.not_mem_nil, or_false] at hc
    rcases hc with hc | hc
    · exact (sgn_word ⟨c.toNat / 16, by omega⟩).1 hc.symm
    · exact (sgn_word ⟨c.toNat % 16, by omega⟩).1 hc.symm
def wordsF : List UInt8 → List (List UInt8)
  | [] => [[]]
  | c :: r => if c = 32 then [] :: wordsF r else match wordsF r with
    | [] => [[c]]
    | w :: t => (c :: w) :: t
def joinF : List (List UInt8) → List UInt8
  | [] => []
  | [w] => w
  | w :: x :: t => w ++ 32 :: joinF (x :: t)
theorem words_ne : ∀ s, wordsF s ≠ []
  | [] => by simp [wordsF]
  | c :: r => by
    rw [wordsF]
    split
    · simp
    · split <;> simp
theorem join_cons {w : List UInt8} {t : List (List UInt8)} (h : t ≠ []) : joinF (w :: t) = w ++ 32 :: joinF t := by
  cases t with
  | nil => exact absurd rfl h
  | cons x t => rfl
theorem join_words : ∀ s, joinF (wordsF s) = s
  | [] => rfl
  | c :: r => by
    have ih := join_words r
    rw [wordsF]
    split
    · rename_i h
      rw [join_cons (words_ne r), ih, h]
      rfl
    · cases hw : wordsF r with
      | nil => exact absurd hw (words_ne r)
      | cons w t =>
        rw [hw] at ih
        simp only
        cases t with
        | nil => simp only [joinF] at ih ⊢; rw [ih]
        | cons x t => simp only [joinF] at ih ⊢; rw [← ih]; rfl
theorem words_one : ∀ {w : List UInt8}, (32 : UInt8) ∉ w → wordsF w = [w]
  | [], _ => rfl
  | c :: r, h => by
    rw [wordsF, if_neg (fun e => h (by rw [e]; exact List.mem_cons_self)), words_one (fun e => h (List.mem_cons_of_mem _ e))]
theorem words_app : ∀ {w : List UInt8} (s : List UInt8), (32 : UInt8) ∉ w → wordsF (w ++ 32 :: s) = w :: wordsF s
  | [], s, _ => by
    show wordsF (32 :: s) = _
    rw [wordsF, if_pos rfl]
  | c :: r, s, h => by
    show wordsF (c :: (r ++ 32 :: s)) = _
    rw [wordsF, if_neg (fun e => h (by rw [e]; exact List.mem_cons_self)), words_app s (fun e => h (List.mem_cons_of_mem _ e))]
theorem words_join : ∀ {l : List (List UInt8)}, l ≠ [] → (∀ w ∈ l, (32 : UInt8) ∉ w) → wordsF (joinF l) = l
  | [w], _, h => words_one (h w List.mem_cons_self)
  | w :: x :: t, _, h => by
    show wordsF (w ++ 32 :: joinF (x :: t)) = _
    rw [words_app _ (h w List.mem_cons_self), words_join (by simp) (fun y hy => h y (List.mem_cons_of_mem _ hy))]
end Go.Scr
namespace Go.Scr
open Go.Lib
theorem index_at : ∀ {w : List UInt8} (r : List UInt8), (32 : UInt8) ∉ w → index (w ++ 32 :: r) [32] = (w.length : Int)
  | [], r, _ => by simp [index, List.isPrefixOf]
  | c :: w, r, h => by
    have h1 : ¬ c = 32 := fun e => h (by rw [e]; exact List.mem_cons_self)
    have ih := index_at (w := w) r (fun e => h (List.mem_cons_of_mem _ e))
    show index (c :: (w ++ 32 :: r)) [32] = _
    rw [index, ih]
    have e1 : List.isPrefixOf [(32 : UInt8)] (c :: (w ++ 32 :: r)) = false := by
      simp [List.isPrefixOf]
      exact fun e => h1 e.symm
    rw [e1, if_neg (by decide), if_neg (by simp)]
    simp
theorem count_app : ∀ {w : List UInt8} (r : List UInt8), (32 : UInt8) ∉ w → count (w ++ 32 :: r) [32] = 1 + count r [32]
  | [], r, _ => count_cons_eq 32 r
  | c :: w, r, h => by
    show count (c :: (w ++ 32 :: r)) [32] = _
    rw [count_cons_ne c 32 _ (fun e => h (by rw [e]; exact List.mem_cons_self)), count_app r (fun e => h (List.mem_cons_of_mem _ e))]
theorem count_no {w : List UInt8} (h : (32 : UInt8) ∉ w) : count w [32] = 0 := by
  rw [count_one]
  exact List.count_eq_zero.2 h
theorem split_words (s : List UInt8) : split s [32] = wordsF s := by
  suffices h : ∀ (n : Nat) (s : List UInt8), s.length ≤ n → splitK [32] 0 (count s [32]) s = wordsF s from h _ s (Nat.le_refl _)
  intro n
  induction n with
  | zero =>
    intro s hs
    have : s = [] := List.eq_nil_of_length_eq_zero (by omega)
    subst this
    rw [count_no (by simp)]
    rfl
  | succ n ih =>
    intro s hs
    by_cases h : (32 : UInt8) ∈ s
    · obtain ⟨w, r, rfl, hw⟩ := List.eq_append_cons_of_mem h
      rw [count_app r hw, words_app r hw, Nat.add_comm, splitK, index_at r hw, if_neg (by simp)]
      have e1 : (w ++ 32 :: r).take ((w.length : Int).toNat + 0) = w := by simp
      have e2 : (w ++ 32 :: r).drop ((w.length : Int).toNat + [(32 : UInt8)].length) = r := by
        rw [show (w.length : Int).toNat + [(32 : UInt8)].length = w.length + 1 by simp, List.drop_append, List.drop_of_length_le (by omega)]
        simp
      rw [e1, e2, ih r (by rw [List.length_append, List.length_cons] at hs; omega)]
    · rw [count_no h, words_one h]
      rfl
end Go.Scr
namespace Go.Scr
open Go.Lib
abbrev W := List UInt8
structure Sa where
  kind : Int
  node : Int
  peer : Int
  n : Int
  sender : Int
  seq : Int
  key : W
  val : W
  bytes : W
  picks : List Int
  quiet : Bool
def i64S (x : Int) : Prop := -9223372036854775808 ≤ x ∧ x ≤ 9223372036854775807
structure Sa.fit (a : Sa) : Prop where
  node : i64S a.node
  peer : i64S a.peer
  n : i64S a.n
  sender : i64S a.sender
  seq : i64S a.seq
  picks : ∀ x ∈ a.picks, i64S x
def formsL : List (Int × W × W) := [
  (1, [116, 105, 99, 107], [110]),
  (2, [116, 120], [110, 116]),
  (3, [100, 101, 108, 105, 118, 101, 114], [110, 112, 107]),
  (4, [100, 111, 117, 98, 108, 101], [110, 112, 107]),
  (5, [100, 114, 111, 112], [110, 112, 107]),
  (6, [99, 114, 97, 115, 104], [110, 108]),
  (7, [115, 116, 97, 114, 116], [110]),
  (8, [97, 114, 109], [110, 107, 108]),
  (10, [114, 97, 119], [110, 112, 98]),
  (11, [99, 97, 108, 109], [107])]
def onlyS (has : W) (a : Sa) : Bool :=
  (decide ((110 : UInt8) ∈ has) || decide (a.node = 0)) && (decide ((112 : UInt8) ∈ has) || decide (a.peer = 0)) && (decide ((107 : UInt8) ∈ has) || decide (a.n = 0)) &&
  (decide ((116 : UInt8) ∈ has) || decide (a.sender = 0 ∧ a.seq = 0 ∧ a.key = [] ∧ a.val = [])) && (decide ((98 : UInt8) ∈ has) || decide (a.bytes = [])) && (decide ((108 : UInt8) ∈ has) || decide (a.picks = [])) && a.quiet
def wordC (c : UInt8) (a : Sa) : List W :=
  if c = 110 then [itoa a.node] else if c = 112 then [itoa a.peer] else if c = 107 then [itoa a.n]
  else if c = 116 then [itoa a.sender, itoa a.seq, hexW a.key, hexW a.val] else if c = 98 then [hexW a.bytes] else a.picks.map itoa
def wordsOf (has : W) (a : Sa) : List W := has.flatMap fun c => wordC c a
def lineOf (f : Int × W × W) (a : Sa) : W := joinF (f.2.1 :: wordsOf f.2.2 a)
def formOf (a : Sa) : Option (Int × W × W) := formsL.find? fun f => decide (f.1 = a.kind) && onlyS f.2.2 a
def printS (a : Sa) : Option W := (formOf a).map fun f => lineOf f a
def numsW : List W → Option (List Int)
  | [] => some []
  | w :: t => match numW w, numsW t with
    | some n, some l => some (n :: l)
    | _, _ => none
def stepS (c : UInt8) (a : Sa) (ws : List W) : Option (Sa × List W) :=
  if c = 110 then match ws with
    | w :: r => (numW w).map fun n => ({ a with node := n }, r)
    | [] => none
  else if c = 112 then match ws with
    | w :: r => (numW w).map fun n => ({ a with peer := n }, r)
    | [] => none
  else if c = 107 then match ws with
    | w :: r => (numW w).map fun n => ({ a with n := n }, r)
    | [] => none
  else if c = 116 then match ws with
    | w :: x :: y :: z :: r => match numW w, numW x, unhexW y, unhexW z with
      | some s, some q, some k, some v => some ({ a with sender := s, seq := q, key := k, val := v }, r)
      | _, _, _, _ => none
    | _ => none
  else if c = 98 then match ws with
    | w :: r => (unhexW w).map fun b => ({ a with bytes := b }, r)
    | [] => none
  else (numsW ws).map fun l => ({ a with picks := l }, [])
def actS : W → Sa → List W → Option (Sa × List W)
  | [], a, ws => some (a, ws)
  | c :: t, a, ws => match stepS c a ws with
    | some (a', r) => actS t a' r
    | none => none
def zeroS (k : Int) : Sa := ⟨k, 0, 0, 0, 0, 0, [], [], [], [], true⟩
def parseS (s : W) : Option Sa := match wordsF s with
  | [] => none
  | w :: ws => match formsL.find? fun f => decide (f.2.1 = w) with
    | none => none
    | some f => match actS f.2.2 (zeroS f.1) ws with
      | some (a, []) => some a
      | _ => none
theorem nums_back : ∀ {ws : List W} {l : List Int}, numsW ws = some l → ws = l.map itoa ∧ ∀ x ∈ l, i64S x
  | [], l, h => by
    simp only [numsW, Option.some.injEq] at h
    subst h
    exact ⟨rfl, fun x hx => by cases hx⟩
  | w :: t, l, h => by
    rw [numsW] at h
    split at h
    · rename_i n l' h1 h2
      cases h
      obtain ⟨k1, k2⟩ := nums_back h2
      obtain ⟨k3, k4⟩ := numW_iff.1 h1
      refine ⟨by rw [k1, k3]; rfl, fun x hx => ?_⟩
      rcases List.mem_cons.1 hx with rfl | hx
      · exact k4
      · exact k2 x hx
    · cases h
def okC (c : UInt8) : Prop := c = 110 ∨ c = 112 ∨ c = 107 ∨ c = 116 ∨ c = 98 ∨ c = 108
theorem step_back {c : UInt8} (hc : okC c) {a a' : Sa} {ws r : List W} (ha : a.fit) (h : stepS c a ws = some (a', r)) :
    ws = wordC c a' ++ r ∧ (∀ d, okC d → d ≠ c → wordC d a' = wordC d a) ∧ a'.fit ∧ a'.kind = a.kind ∧ a'.quiet = a.quiet ∧ (∀ has : W, onlyS has a = true → onlyS (c :: has) a' = true) := by
  have hmem : ∀ (has : W) (x : UInt8), x ∈ has → x ∈ c :: has := fun has x hx => List.mem_cons_of_mem _ hx
  unfold stepS at h
  rcases hc with rfl | rfl | rfl | rfl | rfl | rfl
  all_goals simp only [if_true, show ¬ (112 : UInt8) = 110 by decide, show ¬ (107 : UInt8) = 110 by decide, show ¬ (107 : UInt8) = 112 by decide, show ¬ (116 : UInt8) = 110 by decide, show ¬ (116 : UInt8) = 112 by decide, show ¬ (116 : UInt8) = 107 by decide, show ¬ (98 : UInt8) = 110 by decide, show ¬ (98 : UInt8) = 112 by decide, show ¬ (98 : UInt8) = 107 by decide, show ¬ (98 : UInt8) = 116 by decide, show ¬ (108 : UInt8) = 110 by decide, show ¬ (108 : UInt8) = 112 by decide, show ¬ (108 : UInt8) = 107 by decide, show ¬ (108 : UInt8) = 116 by decide, show ¬ (108 : UInt8) = 98 by decide, if_false] at h
  · cases ws with
    | nil => cases h
    | cons w t =>
      simp only at h
      cases hn : numW w with
      | none => rw [hn] at h; cases h
      | some m =>
        rw [hn] at h
        simp only [Option.map_some, Option.some.injEq, Prod.mk.injEq] at h
        obtain ⟨rfl, rfl⟩ := h
        obtain ⟨k1, k2⟩ := numW_iff.1 hn
        refine ⟨by rw [k1]; rfl, fun d hd hne => ?_, ⟨k2, ha.peer, ha.n, ha.sender, ha.seq, ha.picks⟩, rfl, rfl, fun has ho => ?_⟩
        · rcases hd with rfl | rfl | rfl | rfl | rfl | rfl <;> first | exact absurd rfl hne | rfl
        · simp only [onlyS, Bool.and_eq_true, Bool.or_eq_true, decide_eq_true_iff] at ho ⊢
          obtain ⟨⟨⟨⟨⟨⟨o1, o2⟩, o3⟩, o4⟩, o5⟩, o6⟩, o7⟩ := ho
          exact ⟨⟨⟨⟨⟨⟨.inl List.mem_cons_self, o2.imp (hmem has _) id⟩, o3.imp (hmem has _) id⟩, o4.imp (hmem has _) id⟩, o5.imp (hmem has _) id⟩, o6.imp (hmem has _) id⟩, o7⟩
  · cases ws with
    | nil => cases h
    | cons w t =>
      simp only at h
      cases hn : numW w with
      | none => rw [hn] at h; cases h
      | some m =>
        rw [hn] at h
        simp only [Option.map_some, Option.some.injEq, Prod.mk.injEq] at h
        obtain ⟨rfl, rfl⟩ := h
        obtain ⟨k1, k2⟩ := numW_iff.1 hn
        refine ⟨by rw [k1]; rfl, fun d hd hne => ?_, ⟨ha.node, k2, ha.n, ha.sender, ha.seq, ha.picks⟩, rfl, rfl, fun has ho => ?_⟩
        · rcases hd with rfl | rfl | rfl | rfl | rfl | rfl <;> first | exact absurd rfl hne | rfl
        · simp only [onlyS, Bool.and_eq_true, Bool.or_eq_true, decide_eq_true_iff] at ho ⊢
          obtain ⟨⟨⟨⟨⟨⟨o1, o2⟩, o3⟩, o4⟩, o5⟩, o6⟩, o7⟩ := ho
          exact ⟨⟨⟨⟨⟨⟨o1.imp (hmem has _) id, .inl List.mem_cons_self⟩, o3.imp (hmem has _) id⟩, o4.imp (hmem has _) id⟩, o5.imp (hmem has _) id⟩, o6.imp (hmem has _) id⟩, o7⟩
  · cases ws with
    | nil => cases h
    | cons w t =>
      simp only at h
      cases hn : numW w with
      | none => rw [hn] at h; cases h
      | some m =>
        rw [hn] at h
        simp only [Option.map_some, Option.some.injEq, Prod.mk.injEq] at h
        obtain ⟨rfl, rfl⟩ := h
        obtain ⟨k1, k2⟩ := numW_iff.1 hn
        refine ⟨by rw [k1]; rfl, fun d hd hne => ?_, ⟨ha.node, ha.peer, k2, ha.sender, ha.seq, ha.picks⟩, rfl, rfl, fun has ho => ?_⟩
        · rcases hd with rfl | rfl | rfl | rfl | rfl | rfl <;> first | exact absurd rfl hne | rfl
        · simp only [onlyS, Bool.and_eq_true, Bool.or_eq_true, decide_eq_true_iff] at ho ⊢
          obtain ⟨⟨⟨⟨⟨⟨o1, o2⟩, o3⟩, o4⟩, o5⟩, o6⟩, o7⟩ := ho
          exact ⟨⟨⟨⟨⟨⟨o1.imp (hmem has _) id, o2.imp (hmem has _) id⟩, .inl List.mem_cons_self⟩, o4.imp (hmem has _) id⟩, o5.imp (hmem has _) id⟩, o6.imp (hmem has _) id⟩, o7⟩
  · split at h
    · rename_i w x y z t
      split at h
      · rename_i u v ky vl h1 h2 h3 h4
        simp only [Option.some.injEq, Prod.mk.injEq] at h
        obtain ⟨rfl, rfl⟩ := h
        obtain ⟨k1, k2⟩ := numW_iff.1 h1
        obtain ⟨k3, k4⟩ := numW_iff.1 h2
        have k5 := hex_unhex h3
        have k6 := hex_unhex h4
        refine ⟨by rw [k1, k3, ← k5, ← k6]; rfl, fun d hd hne => ?_, ⟨ha.node, ha.peer, ha.n, k2, k4, ha.picks⟩, rfl, rfl, fun has ho => ?_⟩
        · rcases hd with rfl | rfl | rfl | rfl | rfl | rfl <;> first | exact absurd rfl hne | rfl
        · simp only [onlyS, Bool.and_eq_true, Bool.or_eq_true, decide_eq_true_iff] at ho ⊢
          obtain ⟨⟨⟨⟨⟨⟨o1, o2⟩, o3⟩, o4⟩, o5⟩, o6⟩, o7⟩ := ho
          exact ⟨⟨⟨⟨⟨⟨o1.imp (hmem has _) id, o2.imp (hmem has _) id⟩, o3.imp (hmem has _) id⟩, .inl List.mem_cons_self⟩, o5.imp (hmem has _) id⟩, o6.imp (hmem has _) id⟩, o7⟩
      · cases h
    · cases h
  · cases ws with
    | nil => cases h
    | cons w t =>
      simp only at h
      cases hn : unhexW w with
      | none => rw [hn] at h; cases h
      | some m =>
        rw [hn] at h
        simp only [Option.map_some, Option.some.injEq, Prod.mk.injEq] at h
        obtain ⟨rfl, rfl⟩ := h
        have k1 := hex_unhex hn
        refine ⟨by rw [← k1]; rfl, fun d hd hne => ?_, ⟨ha.node, ha.peer, ha.n, ha.sender, ha.seq, ha.picks⟩, rfl, rfl, fun has ho => ?_⟩
        · rcases hd with rfl | rfl | rfl | rfl | rfl | rfl <;> first | exact absurd rfl hne | rfl
        · simp only [onlyS, Bool.and_eq_true, Bool.or_eq_true, decide_eq_true_iff] at ho ⊢
          obtain ⟨⟨⟨⟨⟨⟨o1, o2⟩, o3⟩, o4⟩, o5⟩, o6⟩, o7⟩ := ho
          exact ⟨⟨⟨⟨⟨⟨o1.imp (hmem has _) id, o2.imp (hmem has _) id⟩, o3.imp (hmem has _) id⟩, o4.imp (hmem has _) id⟩, .inl List.mem_cons_self⟩, o6.imp (hmem has _) id⟩, o7⟩
  · cases hn : numsW ws with
    | none => rw [hn] at h; cases h
    | some m =>
      rw [hn] at h
      simp only [Option.map_some, Option.some.injEq, Prod.mk.injEq] at h
      obtain ⟨rfl, rfl⟩ := h
      obtain ⟨k1, k2⟩ := nums_back hn
      refine ⟨by rw [k1, List.append_nil]; rfl, fun d hd hne => ?_, ⟨ha.node, ha.peer, ha.n, ha.sender, ha.seq, k2⟩, rfl, rfl, fun has ho => ?_⟩
      · rcases hd with rfl | rfl | rfl | rfl | rfl | rfl <;> first | exact absurd rfl hne | rfl
      · simp only [onlyS, Bool.and_eq_true, Bool.or_eq_true, decide_eq_true_iff] at ho ⊢
        obtain ⟨⟨⟨⟨⟨⟨o1, o2⟩, o3⟩, o4⟩, o5⟩, o6⟩, o7⟩ := ho
        exact ⟨⟨⟨⟨⟨⟨o1.imp (hmem has _) id, o2.imp (hmem has _) id⟩, o3.imp (hmem has _) id⟩, o4.imp (hmem has _) id⟩, o5.imp (hmem has _) id⟩, .inl List.mem_cons_self⟩, o7⟩
theorem act_back : ∀ {has : W} {a a' : Sa} {ws r : List W} (h0 : W), (∀ c ∈ has, okC c) → has.Nodup → a.fit → actS has a ws = some (a', r) →
    ws = wordsOf has a' ++ r ∧ (∀ d, okC d → d ∉ has → wordC d a' = wordC d a) ∧ a'.fit ∧ a'.kind = a.kind ∧ a'.quiet = a.quiet ∧ (onlyS h0 a = true → onlyS (has.reverse ++ h0) a' = true)
  | [], a, a', ws, r, h0, _, _, ha, h => by
    simp only [actS, Option.some.injEq, Prod.mk.injEq] at h
    obtain ⟨rfl, rfl⟩ := h
    exact ⟨rfl, fun _ _ _ => rfl, ha, rfl, rfl, id⟩
  | c :: t, a, a', ws, r, h0, hc, hn, ha, h => by
    rw [actS] at h
    cases hs : stepS c a ws with
    | none => rw [hs] at h; cases h
    | some q =>
      obtain ⟨b, r1⟩ := q
      rw [hs] at h
      simp only at h
      have hcc := hc c List.mem_cons_self
      obtain ⟨n1, n2⟩ := List.nodup_cons.1 hn
      obtain ⟨s1, s2, s3, s4, s5, s6⟩ := step_back hcc ha hs
      obtain ⟨t1, t2, t3, t4, t5, t6⟩ := act_back (c :: h0) (fun d hd => hc d (List.mem_cons_of_mem _ hd)) n2 s3 h
      refine ⟨?_, fun d hd hne => ?_, t3, t4.trans s4, t5.trans s5, fun ho => ?_⟩
      · rw [s1, t1, ← t2 c hcc n1]
        show wordC c a' ++ (wordsOf t a' ++ r) = (wordC c a' ++ wordsOf t a') ++ r
        rw [List.append_assoc]
      · rw [t2 d hd fun k => hne (List.mem_cons_of_mem _ k), s2 d hd fun e => hne (by rw [e]; exact List.mem_cons_self)]
      · have := t6 (s6 h0 ho)
        rw [List.reverse_cons, List.append_assoc]
        exact this
theorem only_perm {h1 h2 : W} (h : ∀ x, x ∈ h1 ↔ x ∈ h2) (a : Sa) : onlyS h1 a = onlyS h2 a := by
  unfold onlyS
  simp only [h]
theorem i64S_zero : i64S 0 := ⟨by decide, by decide⟩
theorem zero_fit (k : Int) : (zeroS k).fit := ⟨i64S_zero, i64S_zero, i64S_zero, i64S_zero, i64S_zero, fun x hx => by cases hx⟩
theorem forms_ok : ∀ f ∈ formsL, (∀ c ∈ f.2.2, okC c) ∧ f.2.2.Nodup ∧ (32 : UInt8) ∉ f.2.1 := by
  unfold okC
  decide
theorem forms_one : ∀ f ∈ formsL, ∀ g ∈ formsL, f.1 = g.1 ∨ f.2.1 = g.2.1 → f = g := by decide
theorem find_form {f : Int × W × W} (hf : f ∈ formsL) {p : Int × W × W → Bool} (hp : p f = true) (h1 : ∀ g ∈ formsL, p g = true → f.1 = g.1 ∨ f.2.1 = g.2.1) : formsL.find? p = some f := by
  cases h : formsL.find? p with
  | none => exact absurd hp (by simpa using List.find?_eq_none.1 h f hf)
  | some g => rw [forms_one f hf g (List.mem_of_find?_eq_some h) (h1 g (List.mem_of_find?_eq_some h) (List.find?_some h))]
theorem parse_print {s : W} {a : Sa} (h : parseS s = some a) : printS a = some s ∧ a.fit ∧ a.quiet = true := by
  unfold parseS at h
  split at h
  · cases h
  · rename_i w ws hw
    split at h
    · cases h
    · rename_i f hf
      split at h
      · rename_i b hb
        cases h
        have hm := List.mem_of_find?_eq_some hf
        have hfw : f.2.1 = w := by simpa using List.find?_some hf
        obtain ⟨f1, f2, f3⟩ := forms_ok f hm
        obtain ⟨t1, t2, t3, t4, t5, t6⟩ := act_back [] f1 f2 (zero_fit f.1) hb
        have ho : onlyS f.2.2 a = true := by
          rw [← only_perm (h1 := f.2.2.reverse ++ []) (fun x => by simp)]
          exact t6 rfl
        refine ⟨?_, t3, t5⟩
        unfold printS formOf
        rw [find_form hm (by rw [t4, ho]; simp [zeroS]) (fun g hg hp => by
          simp only [Bool.and_eq_true, decide_eq_true_iff] at hp
          exact .inl (by rw [hp.1, t4]; rfl))]
        show some (lineOf f a) = some s
        unfold lineOf
        rw [← join_words s, hw, hfw, t1, List.append_nil]
      · cases h
def setC (c : UInt8) (b a : Sa) : Sa := if c = 110 then { b with node := a.node } else if c = 112 then { b with peer := a.peer } else if c = 107 then { b with n := a.n } else if c = 116 then { b with sender := a.sender, seq := a.seq, key := a.key, val := a.val } else if c = 98 then { b with bytes := a.bytes } else { b with picks := a.picks }
theorem only_at {has : W} {a : Sa} (h : onlyS has a = true) : ((110 : UInt8) ∈ has ∨ a.node = 0) ∧ ((112 : UInt8) ∈ has ∨ a.peer = 0) ∧ ((107 : UInt8) ∈ has ∨ a.n = 0) ∧ ((116 : UInt8) ∈ has ∨ a.sender = 0 ∧ a.seq = 0 ∧ a.key = [] ∧ a.val = []) ∧ ((98 : UInt8) ∈ has ∨ a.bytes = []) ∧ ((108 : UInt8) ∈ has ∨ a.picks = []) ∧ a.quiet = true := by
  simp only [onlyS, Bool.and_eq_true, Bool.or_eq_true, decide_eq_true_iff] at h
  obtain ⟨⟨⟨⟨⟨⟨o1, o2⟩, o3⟩, o4⟩, o5⟩, o6⟩, o7⟩ := h
  exact ⟨o1, o2, o3, o4, o5, o6, o7⟩
theorem set_all {f : Int × W × W} (hf : f ∈ formsL) {a : Sa} (hk : f.1 = a.kind) (h : onlyS f.2.2 a = true) : f.2.2.foldl (fun b c => setC c b a) (zeroS f.1) = a := by
  obtain ⟨o1, o2, o3, o4, o5, o6, o7⟩ := only_at h
  obtain ⟨k, nd, pr, n, se, sq, ky, vl, by_, pk, qu⟩ := a
  simp only [formsL, List.mem_cons, List.not_mem_nil, or_false] at hf
  simp only at o1 o2 o3 o4 o5 o6 o7 hk
  subst hk o7
  rcases hf with rfl | rfl | rfl | rfl | rfl | rfl | rfl | rfl | rfl | rfl <;> simp at o1 o2 o3 o4 o5 o6 <;> simp_all [setC, zeroS]
theorem itoa_sp (n : Int) : (32 : UInt8) ∉ itoa n := by
  unfold itoa
  intro h
  split at h
  · rcases List.mem_cons.1 h with h | h
    · exact absurd h (by decide)
    · have := (dec_digit _ _ h).1
      exact absurd this (by decide)
  · have := (dec_digit _ _ h).1
    exact absurd this (by decide)
theorem itoa_ne (n : Int) : itoa n ≠ [] := by
  unfold itoa
  split
  · simp
  · exact dec_ne _
theorem wordC_ok (c : UInt8) (a : Sa) : ∀ w ∈ wordC c a, (32 : UInt8) ∉ w ∧ w ≠ [] := by
  intro w hw
  unfold wordC at hw
  have hi : ∀ n, (32 : UInt8) ∉ itoa n ∧ itoa n ≠ [] := fun n => ⟨itoa_sp n, itoa_ne n⟩
  have hx : ∀ b, (32 : UInt8) ∉ hexW b ∧ hexW b ≠ [] := fun b => ⟨hexW_sp b, hexW_ne b⟩
  split at hw
  · rw [List.mem_singleton.1 hw]; exact hi _
  · split at hw
    · rw [List.mem_singleton.1 hw]; exact hi _
    · split at hw
      · rw [List.mem_singleton.1 hw]; exact hi _
      · split at hw
        · simp only [List.mem_cons, List.not_mem_nil, or_false] at hw
          rcases hw with rfl | rfl | rfl | rfl
          · exact hi _
          · exact hi _
          · exact hx _
          · exact hx _
        · split at hw
          · rw [List.mem_singleton.1 hw]; exact hx _
          · obtain ⟨n, _, rfl⟩ := List.mem_map.1 hw
            exact hi n
theorem wordsOf_ok (has : W) (a : Sa) : ∀ w ∈ wordsOf has a, (32 : UInt8) ∉ w ∧ w ≠ [] := by
  intro w hw
  obtain ⟨c, _, hc⟩ := List.mem_flatMap.1 hw
  exact wordC_ok c a w hc
theorem forms_word : ∀ f ∈ formsL, f.2.1 ≠ [] := by decide
theorem line_words {f : Int × W × W} (hm : f ∈ formsL) (a : Sa) : wordsF (lineOf f a) = f.2.1 :: wordsOf f.2.2 a ∧ ∀ w ∈ wordsF (lineOf f a), w ≠ [] := by
  have e : wordsF (lineOf f a) = f.2.1 :: wordsOf f.2.2 a := by
    refine words_join (by simp) fun w hw => ?_
    rcases List.mem_cons.1 hw with rfl | hw
    · exact (forms_ok f hm).2.2
    · exact (wordsOf_ok _ _ w hw).1
  refine ⟨e, fun w hw => ?_⟩
  rw [e] at hw
  rcases List.mem_cons.1 hw with rfl | hw
  · exact forms_word f hm
  · exact (wordsOf_ok _ _ w hw).2
theorem print_at {s : W} {a : Sa} (h : printS a = some s) : ∃ f ∈ formsL, f.1 = a.kind ∧ onlyS f.2.2 a = true ∧ s = lineOf f a := by
  unfold printS at h
  cases hf : formOf a with
  | none => rw [hf] at h; cases h
  | some f =>
    rw [hf] at h
    have hp := List.find?_some hf
    simp only [Bool.and_eq_true, decide_eq_true_iff] at hp
    exact ⟨f, List.mem_of_find?_eq_some hf, hp.1, hp.2, by simpa using h.symm⟩
theorem parse_empty {s : W} (h : [] ∈ wordsF s) : parseS s = none := by
  cases hp : parseS s with
  | none => rfl
  | some a =>
    obtain ⟨h1, _, _⟩ := parse_print hp
    obtain ⟨f, hm, _, _, rfl⟩ := print_at h1
    exact absurd rfl ((line_words hm a).2 [] h)
end Go.Scr
namespace Go.Scr
open Go.Lib
def finS (r : Option (Sa × List W)) : Option Sa := match r with
  | some (a, []) => some a
  | _ => none
theorem parse_at {f : Int × W × W} (hm : f ∈ formsL) {s : W} {ws : List W} (hw : wordsF s = f.2.1 :: ws) : parseS s = finS (actS f.2.2 (zeroS f.1) ws) := by
  unfold parseS finS
  rw [hw]
  simp only
  rw [find_form hm (decide_eq_true rfl) (fun g hg hp => .inr (of_decide_eq_true hp).symm)]
  all_goals rfl
theorem parse_other {s w : W} {ws : List W} (hw : wordsF s = w :: ws) (h : ∀ f ∈ formsL, f.2.1 ≠ w) : parseS s = none := by
  unfold parseS
  rw [hw]
  simp only
  cases hf : formsL.find? fun f => decide (f.2.1 = w) with
  | none => rfl
  | some f => exact absurd (by simpa using List.find?_some hf) (h f (List.mem_of_find?_eq_some hf))
theorem p_n (z : Sa) (ws : List W) : finS (actS [110] z ws) = if ws.length = 1 then (numsW ws).map fun l => { z with node := l.getD 0 0 } else none := by
  rcases ws with _ | ⟨w, _ | ⟨x, t⟩⟩
  · rfl
  · cases h : numW w <;> simp [finS, actS, stepS, numsW, h]
  · cases h : numW w <;> simp [finS, actS, stepS, h]
theorem p_k (z : Sa) (ws : List W) : finS (actS [107] z ws) = if ws.length = 1 then (numsW ws).map fun l => { z with n := l.getD 0 0 } else none := by
  rcases ws with _ | ⟨w, _ | ⟨x, t⟩⟩
  · rfl
  · cases h : numW w <;> simp [finS, actS, stepS, numsW, h]
  · cases h : numW w <;> simp [finS, actS, stepS, h]
theorem p_npk (z : Sa) (ws : List W) : finS (actS [110, 112, 107] z ws) = if ws.length = 3 then (numsW ws).map fun l => { z with node := l.getD 0 0, peer := l.getD 1 0, n := l.getD 2 0 } else none := by
  rcases ws with _ | ⟨w, _ | ⟨x, _ | ⟨y, _ | ⟨u, t⟩⟩⟩⟩
  · rfl
  · cases h : numW w <;> simp [finS, actS, stepS, h]
  · cases h : numW w <;> cases h2 : numW x <;> simp [finS, actS, stepS, h, h2]
  · cases h : numW w <;> cases h2 : numW x <;> cases h3 : numW y <;> simp [finS, actS, stepS, numsW, h, h2, h3]
  · cases h : numW w <;> cases h2 : numW x <;> cases h3 : numW y <;> simp [finS, actS, stepS, h, h2, h3]
theorem p_nl (z : Sa) (ws : List W) : finS (actS [110, 108] z ws) = if 1 ≤ ws.length then (numsW ws).map fun l => { z with node := l.getD 0 0, picks := l.drop 1 } else none := by
  rcases ws with _ | ⟨w, t⟩
  · rfl
  · cases h : numW w <;> cases h2 : numsW t <;> simp [finS, actS, stepS, numsW, h, h2]
theorem p_nkl (z : Sa) (ws : List W) : finS (actS [110, 107, 108] z ws) = if 2 ≤ ws.length then (numsW ws).map fun l => { z with node := l.getD 0 0, n := l.getD 1 0, picks := l.drop 2 } else none := by
  rcases ws with _ | ⟨w, _ | ⟨x, t⟩⟩
  · rfl
  · cases h : numW w <;> simp [finS, actS, stepS, h]
  · cases h : numW w <;> cases h2 : numW x <;> cases h3 : numsW t <;> simp [finS, actS, stepS, numsW, h, h2, h3]
theorem p_npb (z : Sa) (ws : List W) : finS (actS [110, 112, 98] z ws) = if ws.length = 3 then (match numsW (ws.take 2), unhexW (ws.getD 2 []) with
    | some l, some b => some { z with node := l.getD 0 0, peer := l.getD 1 0, bytes := b }
    | _, _ => none) else none := by
  rcases ws with _ | ⟨w, _ | ⟨x, _ | ⟨y, _ | ⟨u, t⟩⟩⟩⟩
  · rfl
  · cases h : numW w <;> simp [finS, actS, stepS, h]
  · cases h : numW w <;> cases h2 : numW x <;> simp [finS, actS, stepS, h, h2]
  · cases h : numW w <;> cases h2 : numW x <;> cases h3 : unhexW y <;> simp [finS, actS, stepS, numsW, h, h2, h3]
  · cases h : numW w <;> cases h2 : numW x <;> cases h3 : unhexW y <;> simp [finS, actS, stepS, h, h2, h3]
theorem p_nt (z : Sa) (ws : List W) : finS (actS [110, 116] z ws) = if ws.length = 5 then (match numsW (ws.take 3), unhexW (ws.getD 3 []), unhexW (ws.getD 4 []) with
    | some l, some k, some v => some { z with node := l.getD 0 0, sender := l.getD 1 0, seq := l.getD 2 0, key := k, val := v }
    | _, _, _ => none) else none := by
  rcases ws with _ | ⟨w, _ | ⟨x, _ | ⟨y, _ | ⟨u, _ | ⟨v, _ | ⟨q, t⟩⟩⟩⟩⟩⟩
  · rfl
  · cases h : numW w <;> simp [finS, actS, stepS, h]
  · cases h : numW w <;> simp [finS, actS, stepS, h]
  · cases h : numW w <;> simp [finS, actS, stepS, h]
  · cases h : numW w <;> simp [finS, actS, stepS, h]
  · cases h : numW w <;> cases h2 : numW x <;> cases h3 : numW y <;> cases h4 : unhexW u <;> cases h5 : unhexW v <;> simp [finS, actS, stepS, numsW, h, h2, h3, h4, h5]
  · cases h : numW w <;> cases h2 : numW x <;> cases h3 : numW y <;> cases h4 : unhexW u <;> cases h5 : unhexW v <;> simp [finS, actS, stepS, h, h2, h3, h4, h5]
def stepOk (c : UInt8) (a : Sa) (ws : List W) (bad : Bool) (a' : Sa) (ws' : List W) (bad' : Bool) : Prop :=
  (bad' = false → bad = false ∧ stepS c a ws = some (a', ws')) ∧ (bad' = true → bad = true ∨ stepS c a ws = none)
def actOk (has : W) (a : Sa) (ws : List W) (bad : Bool) (a' : Sa) (ws' : List W) (bad' : Bool) : Prop :=
  (bad' = false → bad = false ∧ actS has a ws = some (a', ws')) ∧ (bad' = true → bad = true ∨ actS has a ws = none)
theorem actS_app : ∀ (h : W) (c : UInt8) (a : Sa) (ws : List W), actS (h ++ [c]) a ws = (match actS h a ws with
    | some (b, r) => stepS c b r
    | none => none)
  | [], c, a, ws => by
    show actS [c] a ws = stepS c a ws
    rw [actS]
    cases stepS c a ws with
    | none => rfl
    | some q => rfl
  | d :: t, c, a, ws => by
    show actS (d :: (t ++ [c])) a ws = _
    rw [actS, actS]
    cases h : stepS d a ws with
    | none => rfl
    | some q => exact actS_app t c q.1 q.2
theorem actOk_snoc {has : W} {c : UInt8} {a b e : Sa} {ws r r2 : List W} {b0 b1 b2 : Bool} (h : actOk has a ws b0 b r b1) (k : stepOk c b r b1 e r2 b2) : actOk (has ++ [c]) a ws b0 e r2 b2 := by
  constructor
  · intro hb
    obtain ⟨k1, k2⟩ := k.1 hb
    obtain ⟨h1, h2⟩ := h.1 k1
    exact ⟨h1, by rw [actS_app, h2]; exact k2⟩
  · intro hb
    rcases k.2 hb with k1 | k1
    · rcases h.2 k1 with h1 | h1
      · exact .inl h1
      · exact .inr (by rw [actS_app, h1])
    · cases hb1 : b1 with
      | true =>
        rcases h.2 hb1 with h1 | h1
        · exact .inl h1
        · exact .inr (by rw [actS_app, h1])
      | false =>
        obtain ⟨h1, h2⟩ := h.1 hb1
        exact .inr (by rw [actS_app, h2]; exact k1)
end Go.Scr
/-
  DERIVED: THE SHELF's CONTRACTS AT THIS DUMP, IN PLAIN WORDS (tools/lay-plain.mjs out of 'TrydD.lean', which tools/lay-shelf.mjs wrote): THE SAME DECLARATIONS UNDER THE SAME NAMES: 'import', 'namespace', 'open', 'def', 'theorem' AND NOTHING ELSE: no command of the shelf's: FOR A HAND-IN. Each laying: the table of numbers ('.._ren') and one theorem, a field a fact of the dump's own or the kernel's comparison; each contract: ONE APPLICATION.
-/
namespace Go.Proofs
open Go.Shelf
def Tryd.lays169_ren : Go.Shelf.Ren := ⟨fun | 169 => 49 | n => n, fun | 70 => 93 | 9 => 9 | 0 => 0 | 72 => 95 | 37 => 36 | 127 => 110 | 3 => 3 | 5 => 5 | n => n, fun | n => n⟩
theorem Tryd.lays169 : Go.Proofs.Lays.n169 Tryd.prog Tryd.lays169_ren := {
  mixed := by kernel_rfl
  f169 := Tryd.func49.trans (congrArg some (by kernel_rfl))
  t0 := Tryd.underlying0
  a0 := Tryd.isAgg0
  z0 := Tryd.sizeOf0
  v0 := Tryd.zeroValue0
  t3 := Tryd.underlying3
  a3 := Tryd.isAgg3
  z3 := Tryd.sizeOf3
  v3 := Tryd.zeroValue3
  t9 := Tryd.underlying9
  a9 := Tryd.isAgg9
  z9 := Tryd.sizeOf9
  v9 := Tryd.zeroValue9
  t37 := Tryd.underlying36
  a37 := Tryd.isAgg36
  z37 := Tryd.sizeOf36
  v37 := Tryd.zeroValue36
  t70 := Tryd.underlying93
  a70 := Tryd.isAgg93
  z70 := Tryd.sizeOf93
  v70 := Tryd.zeroValue93
  t72 := Tryd.underlying95
  a72 := Tryd.isAgg95
  z72 := Tryd.sizeOf95
  v72 := Tryd.zeroValue95
  t127 := Tryd.underlying110
  a127 := Tryd.isAgg110
  z127 := Tryd.sizeOf110
  v127 := Tryd.zeroValue110 }
theorem Tryd.Builder_Extra_169 : Builder.Extra Tryd.prog Tryd.lays169_ren := {
  sizeBuilder := by kernel_rfl
  liesBuilder := by kernel_rfl
  t5 := Tryd.underlying5
  a5 := Tryd.isAgg5
  z5 := Tryd.sizeOf5
  v5 := Tryd.zeroValue5
  infoByte := by kernel_rfl
  cellsByte := by kernel_rfl
  sizeByte := by kernel_rfl
  neB5 := by decide }
def Tryd.lays156_ren : Go.Shelf.Ren := ⟨fun | 156 => 30 | 165 => 47 | 166 => 48 | 169 => 49 | 240 => 62 | 241 => 63 | 276 => 73 | 277 => 74 | n => n, fun | 31 => 56 | 9 => 9 | 3 => 3 | 4 => 4 | 0 => 0 | 20 => 20 | 72 => 95 | 76 => 99 | 70 => 93 | 37 => 36 | 75 => 98 | 127 => 110 | 164 => 119 | 5 => 5 | 80 => 64 | n => n, fun | n => n⟩
theorem Tryd.lays156 : Go.Proofs.Lays.n156 Tryd.prog Tryd.lays156_ren := {
  mixed := by kernel_rfl
  f156 := Tryd.func30.trans (congrArg some (by kernel_rfl))
  f165 := Tryd.func47.trans (congrArg some (by kernel_rfl))
  f166 := Tryd.func48.trans (congrArg some (by kernel_rfl))
  f169 := Tryd.func49.trans (congrArg some (by kernel_rfl))
  f240 := Tryd.func62.trans (congrArg some (by kernel_rfl))
  f241 := Tryd.func63.trans (congrArg some (by kernel_rfl))
  f276 := Tryd.func73.trans (congrArg some (by kernel_rfl))
  f277 := Tryd.func74.trans (congrArg some (by kernel_rfl))
  t0 := Tryd.underlying0
  a0 := Tryd.isAgg0
  z0 := Tryd.sizeOf0
  v0 := Tryd.zeroValue0
  t3 := Tryd.underlying3
  a3 := Tryd.isAgg3
  z3 := Tryd.sizeOf3
  v3 := Tryd.zeroValue3
  t4 := Tryd.underlying4
  a4 := Tryd.isAgg4
  z4 := Tryd.sizeOf4
  v4 := Tryd.zeroValue4
  t9 := Tryd.underlying9
  a9 := Tryd.isAgg9
  z9 := Tryd.sizeOf9
  v9 := Tryd.zeroValue9
  t20 := Tryd.underlying20
  a20 := Tryd.isAgg20
  z20 := Tryd.sizeOf20
  v20 := Tryd.zeroValue20
  t31 := Tryd.underlying56
  a31 := Tryd.isAgg56
  z31 := Tryd.sizeOf56
  v31 := Tryd.zeroValue56
  t37 := Tryd.underlying36
  a37 := Tryd.isAgg36
  z37 := Tryd.sizeOf36
  v37 := Tryd.zeroValue36
  t70 := Tryd.underlying93
  a70 := Tryd.isAgg93
  z70 := Tryd.sizeOf93
  v70 := Tryd.zeroValue93
  t72 := Tryd.underlying95
  a72 := Tryd.isAgg95
  z72 := Tryd.sizeOf95
  v72 := Tryd.zeroValue95
  t75 := Tryd.underlying98
  a75 := Tryd.isAgg98
  z75 := Tryd.sizeOf98
  v75 := Tryd.zeroValue98
  t76 := Tryd.underlying99
  a76 := Tryd.isAgg99
  z76 := Tryd.sizeOf99
  v76 := Tryd.zeroValue99
  t127 := Tryd.underlying110
  a127 := Tryd.isAgg110
  z127 := Tryd.sizeOf110
  v127 := Tryd.zeroValue110
  t164 := Tryd.underlying119
  a164 := Tryd.isAgg119
  z164 := Tryd.sizeOf119
  v164 := Tryd.zeroValue119 }
open Go.RowKit in
theorem Tryd.Builder_String_any_k (B b : Nat) (l : List UInt8) (w : World) (h : Lib.IsBuilderF 95 5 B b (Lib.byteCells l) w) (hBw : B ≤ w.heap.size) :
    Calls Tryd.prog 49 #[.pointer (some ⟨b, 0, none⟩)] w fun e w' => e = .returned (.string ⟨l.toArray⟩) ∧ (Lib.IsBuilderF 95 5 B b (Lib.byteCells l) w' ∧ Below B w w' ∧ Lib.OthersKept 5 (some b) w w') := Any.Builder_String_any_k Tryd.lays169 Tryd.Builder_Extra_169 B b l w h hBw
def Tryd.laysM171_ren : Go.Shelf.Ren := ⟨fun | 171 => 50 | 243 => 64 | 246 => 75 | 283 => 83 | 284 => 84 | 285 => 85 | 286 => 86 | 129 => 95 | 317 => 94 | 318 => 96 | 319 => 97 | 320 => 98 | 337 => 102 | 338 => 103 | n => n, fun | 3 => 3 | 9 => 9 | 2 => 2 | 4 => 4 | 171 => 125 | 0 => 0 | 53 => 105 | 37 => 36 | 5 => 5 | 173 => 128 | 212 => 144 | 51 => 134 | 20 => 20 | 213 => 145 | 46 => 102 | 232 => 158 | 233 => 159 | n => n, fun | 17 => 3 | 18 => 6 | 19 => 7 | n => n⟩
theorem Tryd.laysM171 : Go.Proofs.LaysM.n171 Tryd.prog Tryd.laysM171_ren := {
  mixed := by kernel_rfl
  f129 := Tryd.func95.trans (congrArg some (by kernel_rfl))
  f171 := Tryd.func50.trans (congrArg some (by kernel_rfl))
  f243 := Tryd.func64.trans (congrArg some (by kernel_rfl))
  f246 := Tryd.func75.trans (congrArg some (by kernel_rfl))
  f283 := Tryd.func83.trans (congrArg some (by kernel_rfl))
  f284 := Tryd.func84.trans (congrArg some (by kernel_rfl))
  f285 := Tryd.func85.trans (congrArg some (by kernel_rfl))
  f286 := Tryd.func86.trans (congrArg some (by kernel_rfl))
  f317 := Tryd.func94.trans (congrArg some (by kernel_rfl))
  f318 := Tryd.func96.trans (congrArg some (by kernel_rfl))
  f319 := Tryd.func97.trans (congrArg some (by kernel_rfl))
  f320 := Tryd.func98.trans (congrArg some (by kernel_rfl))
  f337 := Tryd.func102.trans (congrArg some (by kernel_rfl))
  f338 := Tryd.func103.trans (congrArg some (by kernel_rfl))
  t0 := Tryd.underlying0
  a0 := Tryd.isAgg0
  z0 := Tryd.sizeOf0
  v0 := Tryd.zeroValue0
  t2 := Tryd.underlying2
  a2 := Tryd.isAgg2
  z2 := Tryd.sizeOf2
  v2 := Tryd.zeroValue2
  t3 := Tryd.underlying3
  a3 := Tryd.isAgg3
  z3 := Tryd.sizeOf3
  v3 := Tryd.zeroValue3
  t4 := Tryd.underlying4
  a4 := Tryd.isAgg4
  z4 := Tryd.sizeOf4
  v4 := Tryd.zeroValue4
  t5 := Tryd.underlying5
  a5 := Tryd.isAgg5
  z5 := Tryd.sizeOf5
  v5 := Tryd.zeroValue5
  t9 := Tryd.underlying9
  a9 := Tryd.isAgg9
  z9 := Tryd.sizeOf9
  v9 := Tryd.zeroValue9
  t20 := Tryd.underlying20
  a20 := Tryd.isAgg20
  z20 := Tryd.sizeOf20
  v20 := Tryd.zeroValue20
  t37 := Tryd.underlying36
  a37 := Tryd.isAgg36
  z37 := Tryd.sizeOf36
  v37 := Tryd.zeroValue36
  t46 := Tryd.underlying102
  a46 := Tryd.isAgg102
  z46 := Tryd.sizeOf102
  v46 := Tryd.zeroValue102
  t51 := Tryd.underlying134
  a51 := Tryd.isAgg134
  z51 := Tryd.sizeOf134
  v51 := Tryd.zeroValue134
  t53 := Tryd.underlying105
  a53 := Tryd.isAgg105
  z53 := Tryd.sizeOf105
  v53 := Tryd.zeroValue105
  t171 := Tryd.underlying125
  a171 := Tryd.isAgg125
  z171 := Tryd.sizeOf125
  v171 := Tryd.zeroValue125
  t173 := Tryd.underlying128
  a173 := Tryd.isAgg128
  z173 := Tryd.sizeOf128
  v173 := Tryd.zeroValue128
  t212 := Tryd.underlying144
  a212 := Tryd.isAgg144
  z212 := Tryd.sizeOf144
  v212 := Tryd.zeroValue144
  t213 := Tryd.underlying145
  a213 := Tryd.isAgg145
  z213 := Tryd.sizeOf145
  t232 := Tryd.underlying158
  a232 := Tryd.isAgg158
  z232 := Tryd.sizeOf158
  v232 := Tryd.zeroValue158
  t233 := Tryd.underlying159
  a233 := Tryd.isAgg159
  z233 := Tryd.sizeOf159
  v233 := Tryd.zeroValue159
  g17 := by kernel_rfl
  g18 := by kernel_rfl
  g19 := by kernel_rfl
  i0 := by kernel_rfl
  i2 := by kernel_rfl
  i3 := by kernel_rfl
  i4 := by kernel_rfl
  i5 := by kernel_rfl
  i9 := by kernel_rfl
  i20 := by kernel_rfl
  i37 := by kernel_rfl
  i46 := by kernel_rfl
  i51 := by kernel_rfl
  i53 := by kernel_rfl
  i171 := by kernel_rfl
  i173 := by kernel_rfl
  i212 := by kernel_rfl
  i232 := by kernel_rfl
  i233 := by kernel_rfl
  m17 := by kernel_rfl
  m18 := by kernel_rfl
  m19 := by kernel_rfl }
open Go.RowKit Go.Sort Go.Lib in
theorem Tryd.strconv_Itoa (n : Int) (h0 : -9223372036854775808 ≤ n) (h1 : n ≤ 9223372036854775807) (w : World) (htab : Lib.TabIs Tryd.prog w "internal/strconv.uint64pow10" .u64 Lib.pow10Tab) :
    Calls Tryd.prog 50 #[.int .i64 n] w fun e w' => e = .returned (.string ⟨(Lib.itoa n).toArray⟩) ∧ ∃ k os, w' = grow (w.drewN k) os := Any.strconv_Itoa Tryd.laysM171 n h0 h1 w htab
def Tryd.lays146_ren : Go.Shelf.Ren := ⟨fun | 146 => 21 | 221 => 37 | 268 => 53 | 138 => 54 | 143 => 55 | 195 => 66 | 197 => 67 | 218 => 68 | 219 => 69 | 260 => 76 | 217 => 77 | 225 => 78 | 224 => 79 | 267 => 80 | 266 => 87 | 314 => 88 | n => n, fun | 9 => 9 | 31 => 56 | 3 => 3 | 4 => 4 | 0 => 0 | 105 => 113 | 21 => 21 | 5 => 5 | 46 => 102 | 119 => 130 | 139 => 133 | 138 => 132 | 146 => 135 | 51 => 134 | n => n, fun | 1 => 0 | 3 => 1 | 4 => 2 | n => n⟩
theorem Tryd.lays146 : Go.Proofs.Lays.n146 Tryd.prog Tryd.lays146_ren := {
  mixed := by kernel_rfl
  f138 := Tryd.func54.trans (congrArg some (by kernel_rfl))
  f143 := Tryd.func55.trans (congrArg some (by kernel_rfl))
  f146 := Tryd.func21.trans (congrArg some (by kernel_rfl))
  f195 := Tryd.func66.trans (congrArg some (by kernel_rfl))
  f197 := Tryd.func67.trans (congrArg some (by kernel_rfl))
  f217 := Tryd.func77.trans (congrArg some (by kernel_rfl))
  f218 := Tryd.func68.trans (congrArg some (by kernel_rfl))
  f219 := Tryd.func69.trans (congrArg some (by kernel_rfl))
  f221 := Tryd.func37.trans (congrArg some (by kernel_rfl))
  f224 := Tryd.func79.trans (congrArg some (by kernel_rfl))
  f225 := Tryd.func78.trans (congrArg some (by kernel_rfl))
  f260 := Tryd.func76.trans (congrArg some (by kernel_rfl))
  f266 := Tryd.func87.trans (congrArg some (by kernel_rfl))
  f267 := Tryd.func80.trans (congrArg some (by kernel_rfl))
  f268 := Tryd.func53.trans (congrArg some (by kernel_rfl))
  f314 := Tryd.func88.trans (congrArg some (by kernel_rfl))
  t0 := Tryd.underlying0
  a0 := Tryd.isAgg0
  z0 := Tryd.sizeOf0
  v0 := Tryd.zeroValue0
  t3 := Tryd.underlying3
  a3 := Tryd.isAgg3
  z3 := Tryd.sizeOf3
  v3 := Tryd.zeroValue3
  t4 := Tryd.underlying4
  a4 := Tryd.isAgg4
  z4 := Tryd.sizeOf4
  v4 := Tryd.zeroValue4
  t5 := Tryd.underlying5
  a5 := Tryd.isAgg5
  z5 := Tryd.sizeOf5
  v5 := Tryd.zeroValue5
  t9 := Tryd.underlying9
  a9 := Tryd.isAgg9
  z9 := Tryd.sizeOf9
  v9 := Tryd.zeroValue9
  t21 := Tryd.underlying21
  a21 := Tryd.isAgg21
  z21 := Tryd.sizeOf21
  v21 := Tryd.zeroValue21
  t31 := Tryd.underlying56
  a31 := Tryd.isAgg56
  z31 := Tryd.sizeOf56
  v31 := Tryd.zeroValue56
  t46 := Tryd.underlying102
  a46 := Tryd.isAgg102
  z46 := Tryd.sizeOf102
  v46 := Tryd.zeroValue102
  t51 := Tryd.underlying134
  a51 := Tryd.isAgg134
  z51 := Tryd.sizeOf134
  v51 := Tryd.zeroValue134
  t105 := Tryd.underlying113
  a105 := Tryd.isAgg113
  z105 := Tryd.sizeOf113
  v105 := Tryd.zeroValue113
  t119 := Tryd.underlying130
  a119 := Tryd.isAgg130
  z119 := Tryd.sizeOf130
  t138 := Tryd.underlying132
  a138 := Tryd.isAgg132
  z138 := Tryd.sizeOf132
  v138 := Tryd.zeroValue132
  t139 := Tryd.underlying133
  a139 := Tryd.isAgg133
  z139 := Tryd.sizeOf133
  v139 := Tryd.zeroValue133
  t146 := Tryd.underlying135
  a146 := Tryd.isAgg135
  z146 := Tryd.sizeOf135
  v146 := Tryd.zeroValue135
  g1 := by kernel_rfl
  g3 := by kernel_rfl
  g4 := by kernel_rfl }
open Go.RowKit Go.Lib in
theorem Tryd.strings_Split (s sep : ByteArray) (m : Int) (w : World) (hs : s.size < 4294967281) (hm : w.cell? ⟨0, 0, none⟩ = some (.int .i64 m)) (h1 : 1 ≤ sep.size) :
    Calls Tryd.prog 21 #[.string s, .string sep] w fun e w' =>
      e = .returned (.slice (some ⟨w.heap.size, 0, none⟩) (Lib.countB s sep + 1) (Lib.countB s sep + 1)) ∧ w' = w.alloc (.cells ((Lib.splitB sep 0 (Lib.countB s sep) s).map Value.string).toArray 9) := Any.strings_Split Tryd.lays146 (by kernel_rfl) s sep m w hs hm h1
def Tryd.laysAll_ren : Go.Shelf.Ren := ⟨fun | 172 => 70 | 244 => 81 | 245 => 82 | 247 => 89 | 279 => 90 | 280 => 91 | 281 => 92 | 282 => 93 | 287 => 99 | 316 => 100 | 171 => 50 | 205 => 101 | 321 => 104 | 322 => 105 | 243 => 64 | 246 => 75 | 283 => 83 | 284 => 84 | 285 => 85 | 286 => 86 | 129 => 95 | 317 => 94 | 318 => 96 | 319 => 97 | 320 => 98 | 337 => 102 | 338 => 103 | n => n, fun | 9 => 9 | 3 => 3 | 75 => 98 | 76 => 99 | 4 => 4 | 5 => 5 | 167 => 137 | 37 => 36 | 0 => 0 | 85 => 138 | 2 => 2 | 168 => 140 | 53 => 105 | 175 => 148 | 46 => 102 | 210 => 151 | 127 => 110 | 145 => 157 | 143 => 155 | 21 => 21 | 171 => 125 | 173 => 128 | 212 => 144 | 51 => 134 | 20 => 20 | 213 => 145 | 232 => 158 | 233 => 159 | 80 => 64 | n => n, fun | 15 => 4 | 16 => 5 | 17 => 3 | 18 => 6 | 19 => 7 | n => n⟩
theorem Tryd.laysAll : Go.Proofs.LaysC.n172 Tryd.prog Tryd.laysAll_ren := {
  mixed := by kernel_rfl
  f129 := Tryd.func95.trans (congrArg some (by kernel_rfl))
  f171 := Tryd.func50.trans (congrArg some (by kernel_rfl))
  f172 := Tryd.func70.trans (congrArg some (by kernel_rfl))
  f205 := Tryd.func101.trans (congrArg some (by kernel_rfl))
  f243 := Tryd.func64.trans (congrArg some (by kernel_rfl))
  f244 := Tryd.func81.trans (congrArg some (by kernel_rfl))
  f245 := Tryd.func82.trans (congrArg some (by kernel_rfl))
  f246 := Tryd.func75.trans (congrArg some (by kernel_rfl))
  f247 := Tryd.func89.trans (congrArg some (by kernel_rfl))
  f279 := Tryd.func90.trans (congrArg some (by kernel_rfl))
  f280 := Tryd.func91.trans (congrArg some (by kernel_rfl))
  f281 := Tryd.func92.trans (congrArg some (by kernel_rfl))
  f282 := Tryd.func93.trans (congrArg some (by kernel_rfl))
  f283 := Tryd.func83.trans (congrArg some (by kernel_rfl))
  f284 := Tryd.func84.trans (congrArg some (by kernel_rfl))
  f285 := Tryd.func85.trans (congrArg some (by kernel_rfl))
  f286 := Tryd.func86.trans (congrArg some (by kernel_rfl))
  f287 := Tryd.func99.trans (congrArg some (by kernel_rfl))
  f316 := Tryd.func100.trans (congrArg some (by kernel_rfl))
  f317 := Tryd.func94.trans (congrArg some (by kernel_rfl))
  f318 := Tryd.func96.trans (congrArg some (by kernel_rfl))
  f319 := Tryd.func97.trans (congrArg some (by kernel_rfl))
  f320 := Tryd.func98.trans (congrArg some (by kernel_rfl))
  f321 := Tryd.func104.trans (congrArg some (by kernel_rfl))
  f322 := Tryd.func105.trans (congrArg some (by kernel_rfl))
  f337 := Tryd.func102.trans (congrArg some (by kernel_rfl))
  f338 := Tryd.func103.trans (congrArg some (by kernel_rfl))
  t0 := Tryd.underlying0
  a0 := Tryd.isAgg0
  z0 := Tryd.sizeOf0
  v0 := Tryd.zeroValue0
  t2 := Tryd.underlying2
  a2 := Tryd.isAgg2
  z2 := Tryd.sizeOf2
  v2 := Tryd.zeroValue2
  t3 := Tryd.underlying3
  a3 := Tryd.isAgg3
  z3 := Tryd.sizeOf3
  v3 := Tryd.zeroValue3
  t4 := Tryd.underlying4
  a4 := Tryd.isAgg4
  z4 := Tryd.sizeOf4
  v4 := Tryd.zeroValue4
  t5 := Tryd.underlying5
  a5 := Tryd.isAgg5
  z5 := Tryd.sizeOf5
  v5 := Tryd.zeroValue5
  t9 := Tryd.underlying9
  a9 := Tryd.isAgg9
  z9 := Tryd.sizeOf9
  v9 := Tryd.zeroValue9
  t20 := Tryd.underlying20
  a20 := Tryd.isAgg20
  z20 := Tryd.sizeOf20
  v20 := Tryd.zeroValue20
  t21 := Tryd.underlying21
  a21 := Tryd.isAgg21
  z21 := Tryd.sizeOf21
  v21 := Tryd.zeroValue21
  t37 := Tryd.underlying36
  a37 := Tryd.isAgg36
  z37 := Tryd.sizeOf36
  v37 := Tryd.zeroValue36
  t46 := Tryd.underlying102
  a46 := Tryd.isAgg102
  z46 := Tryd.sizeOf102
  v46 := Tryd.zeroValue102
  t51 := Tryd.underlying134
  a51 := Tryd.isAgg134
  z51 := Tryd.sizeOf134
  v51 := Tryd.zeroValue134
  t53 := Tryd.underlying105
  a53 := Tryd.isAgg105
  z53 := Tryd.sizeOf105
  v53 := Tryd.zeroValue105
  t75 := Tryd.underlying98
  a75 := Tryd.isAgg98
  z75 := Tryd.sizeOf98
  v75 := Tryd.zeroValue98
  t76 := Tryd.underlying99
  a76 := Tryd.isAgg99
  z76 := Tryd.sizeOf99
  v76 := Tryd.zeroValue99
  t85 := Tryd.underlying138
  a85 := Tryd.isAgg138
  z85 := Tryd.sizeOf138
  v85 := Tryd.zeroValue138
  t127 := Tryd.underlying110
  a127 := Tryd.isAgg110
  z127 := Tryd.sizeOf110
  v127 := Tryd.zeroValue110
  t143 := Tryd.underlying155
  a143 := Tryd.isAgg155
  z143 := Tryd.sizeOf155
  v143 := Tryd.zeroValue155
  t145 := Tryd.underlying157
  a145 := Tryd.isAgg157
  z145 := Tryd.sizeOf157
  v145 := Tryd.zeroValue157
  t167 := Tryd.underlying137
  a167 := Tryd.isAgg137
  z167 := Tryd.sizeOf137
  v167 := Tryd.zeroValue137
  t168 := Tryd.underlying140
  a168 := Tryd.isAgg140
  z168 := Tryd.sizeOf140
  v168 := Tryd.zeroValue140
  t171 := Tryd.underlying125
  a171 := Tryd.isAgg125
  z171 := Tryd.sizeOf125
  v171 := Tryd.zeroValue125
  t173 := Tryd.underlying128
  a173 := Tryd.isAgg128
  z173 := Tryd.sizeOf128
  v173 := Tryd.zeroValue128
  t175 := Tryd.underlying148
  a175 := Tryd.isAgg148
  z175 := Tryd.sizeOf148
  v175 := Tryd.zeroValue148
  t210 := Tryd.underlying151
  a210 := Tryd.isAgg151
  z210 := Tryd.sizeOf151
  v210 := Tryd.zeroValue151
  t212 := Tryd.underlying144
  a212 := Tryd.isAgg144
  z212 := Tryd.sizeOf144
  v212 := Tryd.zeroValue144
  t213 := Tryd.underlying145
  a213 := Tryd.isAgg145
  z213 := Tryd.sizeOf145
  t232 := Tryd.underlying158
  a232 := Tryd.isAgg158
  z232 := Tryd.sizeOf158
  v232 := Tryd.zeroValue158
  t233 := Tryd.underlying159
  a233 := Tryd.isAgg159
  z233 := Tryd.sizeOf159
  v233 := Tryd.zeroValue159
  g15 := by kernel_rfl
  g16 := by kernel_rfl
  g17 := by kernel_rfl
  g18 := by kernel_rfl
  g19 := by kernel_rfl
  t80 := Tryd.underlying64
  a80 := Tryd.isAgg64
  z80 := Tryd.sizeOf64
  v80 := Tryd.zeroValue64
  i0 := by kernel_rfl
  i2 := by kernel_rfl
  i3 := by kernel_rfl
  i4 := by kernel_rfl
  i5 := by kernel_rfl
  i9 := by kernel_rfl
  i20 := by kernel_rfl
  i21 := by kernel_rfl
  i37 := by kernel_rfl
  i46 := by kernel_rfl
  i51 := by kernel_rfl
  i53 := by kernel_rfl
  i75 := by kernel_rfl
  i76 := by kernel_rfl
  i80 := by kernel_rfl
  i85 := by kernel_rfl
  i127 := by kernel_rfl
  i143 := by kernel_rfl
  i145 := by kernel_rfl
  i167 := by kernel_rfl
  i168 := by kernel_rfl
  i171 := by kernel_rfl
  i173 := by kernel_rfl
  i175 := by kernel_rfl
  i210 := by kernel_rfl
  i212 := by kernel_rfl
  i232 := by kernel_rfl
  i233 := by kernel_rfl
  m15 := by kernel_rfl
  m16 := by kernel_rfl
  m17 := by kernel_rfl
  m18 := by kernel_rfl
  m19 := by kernel_rfl
  c0 := by kernel_rfl
  c2 := by kernel_rfl
  c3 := by kernel_rfl
  c4 := by kernel_rfl
  c5 := by kernel_rfl
  c9 := by kernel_rfl
  c20 := by kernel_rfl
  c21 := by kernel_rfl
  c37 := by kernel_rfl
  c46 := by kernel_rfl
  c51 := by kernel_rfl
  c53 := by kernel_rfl
  c75 := by kernel_rfl
  c76 := by kernel_rfl
  c80 := by kernel_rfl
  c85 := by kernel_rfl
  c127 := by kernel_rfl
  c143 := by kernel_rfl
  c145 := by kernel_rfl
  c167 := by kernel_rfl
  c168 := by kernel_rfl
  c171 := by kernel_rfl
  c173 := by kernel_rfl
  c175 := by kernel_rfl
  c210 := by kernel_rfl
  c212 := by kernel_rfl
  c213 := by kernel_rfl
  c232 := by kernel_rfl
  c233 := by kernel_rfl }
end Go.Proofs
namespace Go.Proofs
open Go.Shelf
def Tryd.ren167 : Ren := { Tryd.lays156_ren with f := fun x => match x with | 167 => 65 | 156 => 30 | 165 => 47 | 166 => 48 | 169 => 49 | 240 => 62 | 241 => 63 | 276 => 73 | 277 => 74 | n => n }
theorem Tryd.l167 : Lays.n167 Tryd.prog Tryd.ren167 := { Tryd.lays156 with f167 := by kernel_rfl, f240 := by kernel_rfl, f276 := by kernel_rfl, t5 := by kernel_rfl, a5 := fun _ => by kernel_rfl, z5 := fun _ => by kernel_rfl, v5 := fun _ => by kernel_rfl }
theorem Tryd.x167 : Builder.Extra Tryd.prog Tryd.ren167 where
  sizeBuilder := by kernel_rfl
  liesBuilder := by kernel_rfl
  t5 := by kernel_rfl
  a5 := fun _ => by kernel_rfl
  z5 := fun _ => by kernel_rfl
  v5 := fun _ => by kernel_rfl
  infoByte := by kernel_rfl
  cellsByte := by kernel_rfl
  sizeByte := by kernel_rfl
  neB5 := by decide
open Go.RowKit in
theorem Tryd.writeByte (B b : Nat) (bs : List Value) (c : Int) (w : World) (h : Lib.IsBuilderF 95 5 B b bs w) (hlen : bs.length + 1 ≤ 140737488355328) (hBw : B ≤ w.heap.size) :
    Calls Tryd.prog 65 #[.pointer (some ⟨b, 0, none⟩), .int .u8 c] w fun e w' => e = .returned .nilIface ∧ (Lib.BuilderAtF 95 5 B b (.pointer (some ⟨b, 0, none⟩)) (bs ++ [.int .u8 c]) w' ∧ Below B w w' ∧ Lib.OthersKept 5 (some b) w w') := Any.Builder_WriteByte_k Tryd.l167 Tryd.x167 B b bs c w h hlen hBw
theorem Tryd.atoiOk (s : ByteArray) (hmax : s.size ≤ 9223372036854775806) (v : Int) (h : Lib.atoiAll s.data.toList = .ok v) (w : World) :
    Calls Tryd.prog 70 #[.string s] w fun e w' => e = .returned (.tuple #[.int .i64 v, .nilIface]) ∧ (w' = w ∨ ∃ t, w' = Lib.bytesWorld w 5 t) := Any.strconv_Atoi_ok Tryd.laysAll s hmax v h w
end Go.Proofs
namespace Go.Proofs.YtkaepgfmpljlmaaDoor
open Go.Ab Go.RowKit Go.Scr
def bw (l : List UInt8) : ByteArray := ⟨l.toArray⟩
def wsD (l : List (List UInt8)) : List (List DV) := l.map fun w => [.str (bw w)]
theorem wsD_length (l : List (List UInt8)) : (wsD l).length = l.length := List.length_map ..
theorem VDE_new {rd : Addr → Value → Prop} {b : Nat} : ∀ (l : List (List UInt8)) (o : Nat), (∀ j x, l[j]? = some x → rd ⟨b, o + j, none⟩ (.string (bw x))) → VDE rd 1 (wsD l) ⟨b, o, none⟩
  | [], o, _ => by simp [wsD, VDE]
  | x :: l, o, h => by
    simp only [wsD, List.map_cons, VDE, VDC, List.length_singleton, true_and]
    refine ⟨⟨⟨.string (bw x), by simpa using h 0 x rfl, rfl, by simp [VD]⟩, trivial⟩, ?_⟩
    exact VDE_new l (o + 1) fun j y hj => by
      have := h (j + 1) y (by simpa using hj)
      rw [show o + 1 + j = o + (j + 1) by omega]
      exact this
theorem splitB_words (s : ByteArray) : Lib.splitB (bw [32]) 0 (Lib.countB s (bw [32])) s = (wordsF s.data.toList).map bw := by
  have h := Lib.splitB_data (bw [32]) 0 (Lib.countB s (bw [32])) s
  have e : wordsF s.data.toList = Lib.splitK [32] 0 (Lib.count s.data.toList [32]) s.data.toList := (split_words _).symm
  rw [e]
  have h2 : Lib.splitK (bw [32]).data.toList 0 (Lib.countB s (bw [32])) s.data.toList = Lib.splitK [32] 0 (Lib.count s.data.toList [32]) s.data.toList := rfl
  rw [← h2, ← h, List.map_map]
  conv => lhs; rw [← List.map_id (Lib.splitB (bw [32]) 0 (Lib.countB s (bw [32])) s)]
  refine List.map_congr_left fun x _ => ?_
  rfl
theorem split_ok (s : ByteArray) (hs : s.size < 4294967281) : ACalls Tryd.prog 21 [.d (.str s), .d (.str (bw [32]))] [] (fun av L => av = .d (.sl 1 (wsD (wordsF s.data.toList))) ∧ L = []) := by
  intro c vs hc hL hsim hv
  simp only [VRt, VR, VD] at hv
  obtain ⟨u, us', hvs, rfl, u2, us2, rfl, rfl, rfl⟩ := hv
  have hvs' : vs = #[.string s, .string (bw [32])] := by rw [← Array.toArray_toList (xs := vs), hvs]
  rw [hvs']
  obtain ⟨m, hm⟩ := hc.gs.len
  refine (Tryd.strings_Split s (bw [32]) m c.w0 hs hm (by decide)).mono ?_
  rintro e w' ⟨rfl, rfl⟩
  rw [splitB_words]
  have hk : Keeps c.w0 (c.w0.alloc (Obj.cells (List.map Value.string ((wordsF s.data.toList).map bw)).toArray 9)) := Keeps.alloc _ _
  have hlen : Lib.countB s (bw [32]) + 1 = (wordsF s.data.toList).length := by
    have := Lib.splitB_all (bw [32]) (by decide) 0 _ s rfl
    rw [splitB_words, List.length_map] at this
    omega
  refine ⟨_, _, [], c.E0, rfl, ⟨rfl, rfl⟩, hsim.keeps hc hk, ?_⟩
  simp only [VR, VD]
  refine ⟨by decide, some ⟨c.w0.heap.size, 0, none⟩, Lib.countB s (bw [32]) + 1, ?_, ?_, ?_, fun h => (by cases h), fun a' ha => ?_⟩
  · rw [wsD_length, hlen]
  · rw [wsD_length, hlen]
    exact Nat.le_refl _
  · have := Lib.countB_le (bw [32]) (by decide) _ s (Nat.le_refl _)
    have e : maxLen = 9223372036854775807 := rfl
    omega
  · cases ha
    refine ⟨.inr rfl, VDE_new _ _ fun j x hj => ⟨?_, ?_⟩⟩
    · have hb : (c.w0.alloc (Obj.cells (List.map Value.string ((wordsF s.data.toList).map bw)).toArray 9)).heap[c.w0.heap.size]? = some (Obj.cells (List.map Value.string ((wordsF s.data.toList).map bw)).toArray 9 (0, 0)) := by
        show (c.w0.heap.push _)[c.w0.heap.size]? = _
        simp
      rw [Lib.cell_of_heap hb]
      simp [hj]
    · rintro (hm | ⟨i, ab, h, _⟩ | ⟨i, ab, h, _⟩)
      · exact absurd (hc.low _ (hc.sub _ _ hm)) (by simp)
      · simp at h
      · simp at h
end Go.Proofs.YtkaepgfmpljlmaaDoor
namespace Go.Proofs
open Go.Shelf Go.RowKit
theorem Tryd.atoiSyn (s : ByteArray) (hlim : s.size ≤ 281474976710656) (h : (∀ v, Lib.atoiAll s.data.toList ≠ .ok v) ∧ Lib.atoiAll s.data.toList ≠ .range) (ev : Value) (w : World) (hv : w.cell? ⟨4, 0, none⟩ = some ev) (hev : ev = .nilIface ∨ ∃ te pe, ev = .iface te pe) :
    Calls Tryd.prog 70 #[.string s] w fun e w' => ∃ N, e = .returned (.tuple #[.int .i64 (0), .iface (Tryd.laysAll_ren.t 168) (.pointer (some ⟨N, 0, none⟩))]) ∧ RowKit.Below w.heap.size w w' :=
  (Any.strconv_Atoi_syntax Tryd.laysAll s hlim (by
    cases hx : Lib.atoiAll s.data.toList with
    | ok v => exact absurd hx (h.1 v)
    | range => exact absurd hx h.2
    | _ => rfl) ev w hv hev).mono fun e w' ⟨N, h1, _, _, h4⟩ => ⟨N, h1, h4⟩
theorem Tryd.atoiRan (s : ByteArray) (hlim : s.size ≤ 281474976710656) (h : Lib.atoiAll s.data.toList = .range) (ev : Value) (w : World) (hv : w.cell? ⟨5, 0, none⟩ = some ev) (hev : ev = .nilIface ∨ ∃ te pe, ev = .iface te pe) :
    Calls Tryd.prog 70 #[.string s] w fun e w' => ∃ N, e = .returned (.tuple #[.int .i64 (Lib.atoiSat s.data.toList), .iface (Tryd.laysAll_ren.t 168) (.pointer (some ⟨N, 0, none⟩))]) ∧ RowKit.Below w.heap.size w w' :=
  (Any.strconv_Atoi_range Tryd.laysAll s hlim h ev w hv hev).mono fun e w' ⟨N, h1, _, _, h4⟩ => ⟨N, h1, h4⟩
def numF (s : List UInt8) : Int × Bool := match Lib.atoiAll s with
  | .ok v => (v, decide (Lib.itoa v = s))
  | .range => (Lib.atoiSat s, false)
  | _ => (0, false)
set_option maxRecDepth 100000 in
theorem Tryd.number_syn (s : ByteArray) (hlim : s.size ≤ 281474976710656) (ev : Value) (w : World) (hv : w.cell? ⟨4, 0, none⟩ = some ev) (hev : ev = .nilIface ∨ ∃ te pe, ev = .iface te pe) (h : (∀ v, Lib.atoiAll s.data.toList ≠ .ok v) ∧ Lib.atoiAll s.data.toList ≠ .range) :
    Calls Tryd.prog 56 #[.string s] w fun e w' => e = .returned (.tuple #[.int .i64 0, .bool false]) ∧ Below w.heap.size w w' := by
  go_enter Tryd.func56, Tryd.ntmps56
  go_wp2_with (go_at_call 70; refine (Tryd.atoiSyn s hlim h ev _ ?_ hev).mono ?_)
  · exact hv
  rintro e W1 ⟨N, rfl, hb⟩
  go_wp2
  go_ret2
  exact ⟨rfl, hb⟩
set_option maxRecDepth 100000 in
theorem Tryd.number_ran (s : ByteArray) (hlim : s.size ≤ 281474976710656) (ev : Value) (w : World) (hv : w.cell? ⟨5, 0, none⟩ = some ev) (hev : ev = .nilIface ∨ ∃ te pe, ev = .iface te pe) (h : Lib.atoiAll s.data.toList = .range) :
    Calls Tryd.prog 56 #[.string s] w fun e w' => e = .returned (.tuple #[.int .i64 (Lib.atoiSat s.data.toList), .bool false]) ∧ Below w.heap.size w w' := by
  go_enter Tryd.func56, Tryd.ntmps56
  go_wp2_with (go_at_call 70; refine (Tryd.atoiRan s hlim h ev _ ?_ hev).mono ?_)
  · exact hv
  rintro e W1 ⟨N, rfl, hb⟩
  go_wp2
  go_ret2
  exact ⟨rfl, hb⟩
set_option maxRecDepth 100000 in
theorem Tryd.number_ok (s : ByteArray) (hlim : s.size ≤ 281474976710656) (w : World) (htab : Lib.TabIs Tryd.prog w "internal/strconv.uint64pow10" .u64 Lib.pow10Tab) (hst : ∀ w', Below w.heap.size w w' → Lib.TabIs Tryd.prog w' "internal/strconv.uint64pow10" .u64 Lib.pow10Tab) (v : Int) (hb : -9223372036854775808 ≤ v ∧ v ≤ 9223372036854775807) (h : Lib.atoiAll s.data.toList = .ok v) :
    Calls Tryd.prog 56 #[.string s] w fun e w' => e = .returned (.tuple #[.int .i64 v, .bool (decide (Lib.itoa v = s.data.toList))]) ∧ Below w.heap.size w w' := by
  go_enter Tryd.func56, Tryd.ntmps56
  go_wp2_with (go_at_call 70; refine (Tryd.atoiOk s (by omega) v h _).mono ?_)
  rintro e W1 ⟨rfl, hw⟩
  have hb1 : Below w.heap.size w W1 := by
    rcases hw with rfl | ⟨t, rfl⟩
    · exact Below.refl _ _
    · exact Lib.bytesWorld_below _ _ _
  go_wp2_with (go_at_call 50; refine (Tryd.strconv_Itoa v hb.1 hb.2 _ ?_).mono ?_)
  · exact hst _ hb1
  rintro e W2 ⟨rfl, k, os, rfl⟩
  go_wp2
  go_ret2
  refine ⟨?_, ?_⟩
  · show Ending.returned (Value.tuple #[Value.int IntKind.i64 v, Value.bool (Lib.itoa v == s.toList)]) = _
    rw [ByteArray.toList_eq, show (Lib.itoa v == s.data.toList) = decide (Lib.itoa v = s.data.toList) by rw [Bool.eq_iff_iff]; simp]
  · exact ⟨hb1.os, hb1.tape, hb1.output, Nat.le_trans hb1.size (by simp [«Sort».grow, World.drewN]), fun b hb => by
      rw [← hb1.block b hb]
      show (W1.heap ++ os)[b]? = _
      rw [Array.getElem?_append_left (Nat.lt_of_lt_of_le hb hb1.size)]⟩
end Go.Proofs
namespace Go.Proofs.YtkaepgfmpljlmaaDoor
open Go.Ab Go.RowKit Go.Scr Go.Proofs
theorem VR_tup2 {R : RC} {n : Int} {b : Bool} : VR R (.tup [.d (.int .i64 n), .d (.bool b)]) (.tuple #[.int .i64 n, .bool b]) := by
  simp [VR, VRt, VD]
theorem numF_num (s : List UInt8) : ((numF s).2 = true ↔ numW s = some (numF s).1) := by
  unfold numF numW
  cases h : Lib.atoiAll s with
  | ok v => simp
  | range => simp
  | _ => simp
theorem numF_i64 (s : List UInt8) : i64S (numF s).1 := by
  unfold numF
  cases h : Lib.atoiAll s with
  | ok v => exact Lib.atoiAll_bounds h
  | range =>
    show i64S (Lib.atoiSat s)
    unfold Lib.atoiSat i64S
    split
    · exact ⟨by decide, by decide⟩
    · exact ⟨by decide, by decide⟩
  | _ => exact i64S_zero
theorem number_ok (s : ByteArray) (hs : s.size ≤ 281474976710656) : ACalls Tryd.prog 56 [.d (.str s)] [] (fun av L => av = .tup [.d (.int .i64 (numF s.data.toList).1), .d (.bool (numF s.data.toList).2)] ∧ L = []) := by
  intro c vs hc hL hsim hv
  simp only [VRt, VR, VD] at hv
  obtain ⟨u, us', hvs, rfl, rfl⟩ := hv
  have hvs' : vs = #[.string s] := by rw [← Array.toArray_toList (xs := vs), hvs]
  rw [hvs']
  have key : Calls Tryd.prog 56 #[.string s] c.w0 fun e w' => e = .returned (.tuple #[.int .i64 (numF s.data.toList).1, .bool (numF s.data.toList).2]) ∧ Below c.w0.heap.size c.w0 w' := by
    have hi := numF_i64 s.data.toList
    unfold numF at hi ⊢
    cases h : Lib.atoiAll s.data.toList with
    | ok v =>
      rw [h] at hi
      exact Tryd.number_ok s hs c.w0 hc.gs.tab (fun w' hb => (GS_stable (fun b hb' => hb.block b (hc.low b (hc.gl b hb'))) hc.gs).tab) v hi h
    | range =>
      obtain ⟨ev, h1, h2⟩ := hc.gs.ran
      exact Tryd.number_ran s hs ev c.w0 h1 h2 h
    | _ =>
      obtain ⟨ev, h1, h2⟩ := hc.gs.syn
      exact Tryd.number_syn s hs ev c.w0 h1 h2 ⟨fun v e => (by rw [h] at e; cases e), fun e => (by rw [h] at e; cases e)⟩
  refine key.mono ?_
  rintro e w' ⟨rfl, hb⟩
  exact ⟨_, _, [], c.E0, rfl, ⟨rfl, rfl⟩, hsim.keeps hc (Keeps.of_below hb), VR_tup2⟩
end Go.Proofs.YtkaepgfmpljlmaaDoor
namespace Go.Proofs
open Go.Shelf Go.RowKit Go.Scr
end Go.Proofs
namespace Go.Proofs.YtkaepgfmpljlmaaDoor
open Go.Ab Go.RowKit Go.Scr Go.Proofs
end Go.Proofs.YtkaepgfmpljlmaaDoor
