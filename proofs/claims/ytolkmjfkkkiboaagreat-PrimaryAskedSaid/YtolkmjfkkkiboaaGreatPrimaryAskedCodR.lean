/- PrimaryAsked: contracts. -/
import Derived.Test.YtolkmjfkkkiboaaGreatPrimaryAskedCodP
set_option linter.unusedVariables false
set_option linter.unusedSimpArgs false
namespace Go.Proofs.YtolkmjfkkkiboaaGreat
open Go.Ab Go.RowKit Go.MapKept
attribute [local irreducible] ACalls AW ADraw Into fltB fnear
set_option maxRecDepth 100000
theorem up_txs (l:List Tx):UpD (.slo 4 (txsD l)) (.sl 4 (txsD l)) := .slo (.refl _)
def Msg.cso (m:Msg):List DV:=[.int .i64 m.kind,.int .i64 m.src,.int .i64 m.dst,.int .i64 m.digest,.int .i64 m.ba,.int .i64 m.bn,.slo 4 (txsD m.txs),.int .i64 m.head.author,.int .i64 m.head.round,.slo 1 (nums m.head.bats),.slo 1 (nums m.head.pars),.int .i64 m.cert.author,.int .i64 m.cert.round,.slo 1 (nums m.cert.bats),.slo 1 (nums m.cert.pars),.int .i64 m.cert.digest,.slo 1 (nums m.cert.sigs),.slo 1 (nums m.digs)]
def Msg.avo (m:Msg):AV := .agg (m.cso.map AV.d)
theorem lend_mo (m:Msg):lend2 [] m.avo m.av := .inr ⟨_,_,rfl,rfl,lendS_c (l1_int _) (lendS_c (l1_int _) (lendS_c (l1_int _) (lendS_c (l1_int _) (lendS_c (l1_int _) (lendS_c (l1_int _) (lendS_c (l1_up (up_txs _)) (lendS_c (l1_int _) (lendS_c (l1_int _) (lendS_c (l1_up (up_nums _)) (lendS_c (l1_up (up_nums _)) (lendS_c (l1_int _) (lendS_c (l1_int _) (lendS_c (l1_up (up_nums _)) (lendS_c (l1_up (up_nums _)) (lendS_c (l1_int _) (lendS_c (l1_up (up_nums _)) (lendS_c (l1_up (up_nums _)) lendS_n)))))))))))))))))⟩
def teBo (p:Prim) (out:List Msg) (m:Msg) (j:Bool):List AB:=if j then [.cells (p.cs.map AV.d++[.arr 3]),.dead,.cells (m.cso.map AV.d),.row 49 18 (msgsD out) false] else [.cells (p.cs.map AV.d++[.arr 1]),.row 49 18 (msgsD out) false,.cells (m.cso.map AV.d)]
def badT (p:Prim) (e:Int) (av:AV) (L:List AB):Prop:=av = .tup [.ptr 0 0,.d (.int .i64 e)]∧L=p.st []
def goodT (q:Prim) (o:List Msg) (av:AV) (L:List AB):Prop:=av = .tup [.ptr 0 0,.d (.int .i64 0)]∧∃ j,L=q.sj j o
end Go.Proofs.YtolkmjfkkkiboaaGreat
