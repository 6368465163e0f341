/- PrimaryStrange: abstract runs. -/
import Derived.Test.YtolkmjfkkkiboaaGreatPrimaryStrangeLyvia
set_option linter.unusedVariables false
set_option linter.unusedSimpArgs false
namespace Go.Ab
open Go.RowKit
section
variable {P:Program} {tt:TypeId→Option TI} {fo:FuncId→Bool} {n k0:Nat}
theorem aw_seq {x y:Code} {Q:Exit→AF→List AB→Prop} {F:AF} {L:List AB} (h:AW P n k0 x (fun e F L=>e = .normal∧AW P n k0 y Q F L) F L):AW P n k0 (.seq x y) Q F L:=by
 intro c E a w hc hcn hk hs
 refine wp_seq (wp_mono (h c E a w hc hcn hk hs) ?_)
 rintro e a' w' ⟨E',F',L',h1,rfl,h2⟩
 exact h2 c E' a' w' hc hcn hk h1
def takeSeqC:Nat→Code→List Code
 | k+1,.seq x y=>x :: takeSeqC k y
 | _,_=>[]
def dropSeqC:Nat→Code→Code
 | k+1,.seq x y=>dropSeqC k y
 | _,c=>c
theorem seqsC_split:∀ (k:Nat) (c:Code),c=seqs (takeSeqC k c) (dropSeqC k c)
 | 0,c=>by cases c<;>rfl
 | k+1,c=>by
   cases c with
   | seq x y=>exact congrArg (Code.seq x) (seqsC_split k y)
   | _=>rfl
theorem acalls_cut (ht:TTok P tt) (hz:ZOok tt) (hfo:FOok P fo) (m:Nat) {f:FuncId} {fn:Func} {code:Code} (hf:P.funcs[f]? = some fn) (hb:fn.body=some code) (hn:fn.ntmps=n) {rs:List ResultVar} (hr:fn.results.toList=rs)
  (ex:Bool) {avs:List AV} {Lin:List AB} {post:AV→List AB→Prop} (hlen:Nat.ble avs.length n=true)
  (h:seqsR P tt fo n Lin.length (fun F L=>AW P n Lin.length (dropSeqC m code) (fun e F L=>(e = .ret∨e = .normal)∧retK tt ex Lin.length rs post .ret F L) F L) (fun F L=>retK tt ex Lin.length rs post .ret F L) (takeSeqC m code) (argF avs 0) Lin):ACalls P f avs Lin post:=by
 refine acalls_marks ht hf hb hn hr ex hlen ?_
 intro c a hc hcn hck hs
 rw [seqsC_split m code]
 refine seqs_ok ht hz hfo hc hcn hck ?_ (fun E' F' L' a' w' hr hs'=>⟨.inl rfl,E',F',L',hr,.inl hs'⟩) _ h hs
 intro E' F' L' a' w' hK hs'
 refine wpIn_mono (wpIn_wide.2 (hK c E' a' w' hc hcn hck hs')) ?_
 rintro e a2 w2 ⟨E2,F2,L2,h1,h2,h3⟩
 exact ⟨h2,E2,F2,L2,h3,.inl h1⟩
end
end Go.Ab
