/- PrimaryStrange: contracts. -/
import Derived.Test.YtolkmjfkkkiboaaGreatPrimaryStrangeCodN
set_option linter.unusedVariables false
set_option linter.unusedSimpArgs false
namespace Go.Proofs.YtolkmjfkkkiboaaGreat
open Go.Ab Go.RowKit Go.MapKept
attribute [local irreducible] ACalls AW ADraw Into fltB fnear
set_option maxRecDepth 100000
def Cert.cso (c:Cert):List DV:=[.int .i64 c.author,.int .i64 c.round,.slo 1 (nums c.bats),.slo 1 (nums c.pars),.int .i64 c.digest,.slo 1 (nums c.sigs)]
def certsDo (l:List Cert):List (List DV):=l.map Cert.cso
theorem certsDo_length (l:List Cert):(certsDo l).length=l.length:=List.length_map ..
theorem certsDo_at {l:List Cert} {k:Nat} {a:Cert} (h:l[k]? = some a):(certsDo l)[k]? = some a.cso:=by simp [certsDo,h]
def Cert.havo (c:Cert):AV := .agg [.d (.int .i64 c.author),.d (.int .i64 c.round),.d (.slo 1 (nums c.bats)),.d (.slo 1 (nums c.pars))]
def Cert.avo (c:Cert):AV := .agg (c.cso.map AV.d)
def Dag.avo (d:Dag):AV := .agg [.d (.int .i64 d.nodes),.d (.int .i64 d.low),.d (.slo 6 (certsDo d.certs))]
def Prim.cso (p:Prim):List DV:=[.int .i64 p.id,.int .i64 p.nodes,.int .i64 p.round,.int .i64 p.age,.int .i64 p.said,.int .i64 p.mine.author,.int .i64 p.mine.round,.slo 1 (nums p.mine.bats),.slo 1 (nums p.mine.pars),.int .i64 p.dig,.slo 1 (nums p.acks),.slo 3 (votesD p.votes),.int .i64 p.dag.nodes,.int .i64 p.dag.low,.slo 6 (certsDo p.dag.certs),.slo 6 (certsDo p.late)]
def Prim.avo (p:Prim):AV := .agg (p.cso.map AV.d)
theorem dn_int (n:Int):DnD (.int .i64 n) (.int .i64 n) := .flat (flat_int _ _)
theorem dnE_nums (l:List Int):DnE (nums l) (nums l):=DnE.map (f:=fun x=>[.int .i64 x]) (fun _ => .cons (dn_int _) .nil) l
theorem dnE_votes (l:List Vote):DnE (votesD l) (votesD l):=DnE.map (fun _ => .cons (dn_int _) (.cons (dn_int _) (.cons (dn_int _) .nil))) l
theorem dn_nums (l:List Int):DnD (.sl 1 (nums l)) (.slo 1 (nums l)) := .sl (dnE_nums l)
theorem dns_cert (c:Cert):Dns c.cs c.cso := .cons (dn_int _) (.cons (dn_int _) (.cons (dn_nums _) (.cons (dn_nums _) (.cons (dn_int _) (.cons (dn_nums _) .nil)))))
theorem dn_certs (l:List Cert):DnD (.sl 6 (certsD l)) (.slo 6 (certsDo l)) := .sl (DnE.map dns_cert l)
theorem up_nums (l:List Int):UpD (.slo 1 (nums l)) (.sl 1 (nums l)) := .slo (.refl _)
theorem ups_cert (c:Cert):Ups c.cso c.cs := .cons (.refl _) (.cons (.refl _) (.cons (up_nums _) (.cons (up_nums _) (.cons (.refl _) (.cons (up_nums _) .nil)))))
theorem up_certs (l:List Cert):UpD (.slo 6 (certsDo l)) (.sl 6 (certsD l)) := .slo (UpE.map ups_cert l)
theorem l1_up {L:List AB} {y y':DV} (h:UpD y y'):lend1 L (.d y) (.d y') := .inr (.inr (.inr (.inr (.inl ⟨_,_,rfl,rfl,h⟩))))
theorem lendS_c {L:List AB} {a b:AV} {r r':List AV} (h:lend1 L a b) (k:lendS L r r'):lendS L (a :: r) (b :: r'):=⟨_,_,rfl,h,k⟩
theorem lendS_n {L:List AB}:lendS L [] []:=rfl
theorem l1_int {L:List AB} (n:Int):lend1 L (.d (.int .i64 n)) (.d (.int .i64 n)) := .inl ⟨_,rfl,rfl⟩
theorem lend_avo (p:Prim):lend2 [] p.avo p.av := .inr ⟨_,_,rfl,rfl,lendS_c (l1_int _) (lendS_c (l1_int _) (lendS_c (l1_int _) (lendS_c (l1_int _) (lendS_c (l1_int _) (lendS_c (l1_int _) (lendS_c (l1_int _) (lendS_c (l1_up (up_nums _)) (lendS_c (l1_up (up_nums _)) (lendS_c (l1_int _) (lendS_c (l1_up (up_nums _)) (lendS_c (l1_up (.slo (.refl _))) (lendS_c (l1_int _) (lendS_c (l1_int _) (lendS_c (l1_up (up_certs _)) (lendS_c (l1_up (up_certs _)) lendS_n)))))))))))))))⟩
theorem lo_int {L:List AB} (n:Int):lendO1 L (.d (.int .i64 n)) (.d (.int .i64 n)) := .inl ⟨_,_,rfl,rfl,dn_int n⟩
theorem lo_dn {L:List AB} {y y':DV} (h:DnD y y'):lendO1 L (.d y) (.d y') := .inl ⟨_,_,rfl,rfl,h⟩
theorem lendO_prim (L:List AB) (p:Prim):lendO2 L p.av p.avo := .inr ⟨_,_,rfl,rfl,.cons (lo_int _) (.cons (lo_int _) (.cons (lo_int _) (.cons (lo_int _) (.cons (lo_int _) (.cons (lo_int _) (.cons (lo_int _) (.cons (lo_dn (dn_nums _)) (.cons (lo_dn (dn_nums _)) (.cons (lo_int _) (.cons (lo_dn (dn_nums _)) (.cons (lo_dn (.sl (dnE_votes _))) (.cons (lo_int _) (.cons (lo_int _) (.cons (lo_dn (dn_certs _)) (.cons (lo_dn (dn_certs _)) .nil)))))))))))))))⟩
theorem cloneIO_row (l:List Int) (hl:l.length≤1099511627776):ACalls Tryz.prog 143 [.d (.slo 1 (nums l))] [] (fun av L=>av = .arr 0∧L=[.row 3 1 (nums l) false]):=by
 have hll:=nums_length l
 (refine acalls_go ttOk zOk foOk Tryz.func143 rfl Tryz.ntmps143 rfl true rfl ?_);(conv=>whnf)
 intro b hb
 conv=>whnf
 refine rdw ?_;repeat' ((with_reducible apply tw)<;>intro _)
 ·rename_i h
  have:l=[]:=by simpa [nums] using hb h
  subst this
  exact ⟨rfl,rfl⟩
 ·rename_i h
  refine ⟨by rw [hll];show (0+l.length) * 8≤_;omega,?_⟩
  conv=>whnf
  exact ⟨rfl,rfl⟩
theorem cloneVO_row (l:List Vote) (hl:l.length≤1099511627776):ACalls Tryz.prog 147 [.d (.slo 3 (votesD l))] [] (fun av L=>av = .arr 0∧L=[.row 106 3 (votesD l) false]):=by
 have hll:=votesD_length l
 (refine acalls_go ttOk zOk foOk Tryz.func147 rfl Tryz.ntmps147 rfl true rfl ?_);(conv=>whnf)
 intro b hb
 conv=>whnf
 refine rdw ?_;repeat' ((with_reducible apply tw)<;>intro _)
 ·rename_i h
  have:l=[]:=by simpa [votesD] using hb h
  subst this
  exact ⟨rfl,rfl⟩
 ·rename_i h
  refine ⟨by rw [hll];show (0+l.length) * 24≤_;omega,?_⟩
  conv=>whnf
  exact ⟨rfl,rfl⟩
theorem ownO_row (c:Cert) (h:c.tiny):ACalls Tryz.prog 144 [c.havo] [] (fun av L=>av = .agg [.d (.int .i64 c.author),.d (.int .i64 c.round),.arr 0,.arr 1]∧L=[.row 3 1 (nums c.bats) false,.row 3 1 (nums c.pars) false]):=by
 (refine acalls_go ttOk zOk foOk Tryz.func144 rfl Tryz.ntmps144 rfl true rfl ?_);(conv=>whnf)
 ((with_reducible refine draw_pl ttOk zOk foOk mixedOk pl144x1 ?_ ?_);(focus kernel_rfl);(conv=>whnf))
 refine rdw ?_;repeat' ((with_reducible apply tw)<;>intro _)
 refine (cloneIO_row c.bats h.bats).mono ?_
 rintro _ _ ⟨rfl,rfl⟩
 conv=>whnf
 refine rdw ?_;repeat' ((with_reducible apply tw)<;>intro _)
 refine (cloneIO_row c.pars h.pars).mono ?_
 rintro _ _ ⟨rfl,rfl⟩
 conv=>whnf
 refine rdw ?_;repeat' ((with_reducible apply tw)<;>intro _)
 exact ⟨rfl,rfl⟩
theorem ownCertO_ok (c:Cert) (h:c.tiny):ACalls Tryz.prog 180 [c.avo] [] (fun av L=>av=c.av∧L=[]):=by
 have h1:ACalls Tryz.prog 180 [c.avo] [] (fun av L=>av = .agg [.d (.int .i64 c.author),.d (.int .i64 c.round),.arr 0,.arr 1,.d (.int .i64 c.digest),.arr 2]∧L=[.row 3 1 (nums c.bats) false,.row 3 1 (nums c.pars) false,.row 3 1 (nums c.sigs) false]):=by
  (refine acalls_go ttOk zOk foOk Tryz.func180 rfl Tryz.ntmps180 rfl true rfl ?_);(conv=>whnf)
  ((with_reducible refine draw_pl ttOk zOk foOk mixedOk pl180x1 ?_ ?_);(focus kernel_rfl);(conv=>whnf))
  refine rdw ?_;repeat' ((with_reducible apply tw)<;>intro _)
  refine (ownO_row c h).mono ?_
  rintro _ _ ⟨rfl,rfl⟩
  conv=>whnf
  refine rdw ?_;repeat' ((with_reducible apply tw)<;>intro _)
  refine (cloneIO_row c.sigs h.sigs).mono ?_
  rintro _ _ ⟨rfl,rfl⟩
  conv=>whnf
  refine rdw ?_;repeat' ((with_reducible apply tw)<;>intro _)
  exact ⟨rfl,rfl⟩
 refine acalls_data h1 ?_
 rintro _ _ ⟨rfl,rfl⟩
 conv=>whnf
 exact ⟨rfl,rfl⟩
theorem ownCertsO_row (l:List Cert) (hl:tiny l) (h:∀ c∈l,c.tiny):ACalls Tryz.prog 149 [.d (.slo 6 (certsDo l))] [] (fun av L=>av = .arr 0∧L=[.row 47 6 (certsD l) false]):=by
 have hx:=certsDo_length l
 unfold tiny at hl
 (refine acalls_go ttOk zOk foOk Tryz.func149 rfl Tryz.ntmps149 rfl true rfl ?_);(conv=>whnf)
 refine loop_go ttOk zOk foOk (σ:=Nat) (fun k=>([(5,.d (.slo 6 (certsDo l))),(6,.d (.int .i64 l.length)),(7,.d (.int .i64 k)),(2,.arr 0)],[.row 47 6 (certsD (l.take k)) false])) (fun k=>k≤l.length) (fun k=>l.length - k) [5,6,7,2] ?_ ?_
 ·conv=>whnf
  exact ⟨0,by rw [hx];rfl,rfl,by omega⟩
 ·intro k hk
  conv=>whnf
  refine rdw ?_;repeat' ((with_reducible apply tw)<;>intro _)
  ·rename_i h2
   refine Exists.elim (⟨_,List.getElem?_eq_getElem (by omega)⟩:∃ a,l[k]? = some a) fun a ha => ?_
   have hkn:=certsD_length (l.take k)
   refine ⟨by omega,a.cso,certsDo_at ha,?_⟩
   conv=>whnf
   refine rdw ?_;repeat' ((with_reducible apply tw)<;>intro _)
   refine (ownCertO_ok a (h a (List.mem_of_getElem? ha))).mono ?_
   rintro _ _ ⟨rfl,rfl⟩
   conv=>whnf
   refine rdw ?_;repeat' ((with_reducible apply tw)<;>intro _)
   refine ⟨by simp [hkn];omega,?_⟩
   conv=>whnf
   refine rdw ?_;repeat' ((with_reducible apply tw)<;>intro _)
   refine ⟨k+1,rfl,?_,by omega,by omega⟩
   rw [List.take_add_one,ha]
   simp [certsD,Cert.cs]
  ·rename_i h2
   rw [List.take_of_length_le (by omega)]
   exact ⟨rfl,rfl⟩
theorem cloneIO_ok (l:List Int) (hl:l.length≤1099511627776):ACalls Tryz.prog 143 [.d (.slo 1 (nums l))] [] (fun av L=>av = .d (.sl 1 (nums l))∧L=[]):=by
 refine acalls_data (cloneIO_row l hl) ?_
 rintro _ _ ⟨rfl,rfl⟩
 conv=>whnf
 exact ⟨rfl,rfl⟩
theorem cloneVO_ok (l:List Vote) (hl:l.length≤1099511627776):ACalls Tryz.prog 147 [.d (.slo 3 (votesD l))] [] (fun av L=>av = .d (.sl 3 (votesD l))∧L=[]):=by
 refine acalls_data (cloneVO_row l hl) ?_
 rintro _ _ ⟨rfl,rfl⟩
 conv=>whnf
 exact ⟨rfl,rfl⟩
theorem ownO_ok (c:Cert) (h:c.tiny):ACalls Tryz.prog 144 [c.havo] [] (fun av L=>av=c.hav∧L=[]):=by
 refine acalls_data (ownO_row c h) ?_
 rintro _ _ ⟨rfl,rfl⟩
 conv=>whnf
 exact ⟨rfl,rfl⟩
theorem ownCertsO_ok (l:List Cert) (hl:tiny l) (h:∀ c∈l,c.tiny):ACalls Tryz.prog 149 [.d (.slo 6 (certsDo l))] [] (fun av L=>av = .d (.sl 6 (certsD l))∧L=[]):=by
 refine acalls_data (ownCertsO_row l hl h) ?_
 rintro _ _ ⟨rfl,rfl⟩
 conv=>whnf
 exact ⟨rfl,rfl⟩
theorem dagOwnO_ok (d:Dag) (hl:tiny d.certs) (h:∀ c∈d.certs,c.tiny):ACalls Tryz.prog 148 [d.avo] [] (fun av L=>av=d.av∧L=[]):=by
 have h1:=ownCertsO_ok d.certs hl h
 (refine acalls_go ttOk zOk foOk Tryz.func148 rfl Tryz.ntmps148 rfl false rfl ?_);(conv=>whnf)
 refine h1.mono ?_
 rintro _ _ ⟨rfl,rfl⟩
 conv=>whnf
 refine rdw ?_;repeat' ((with_reducible apply tw)<;>intro _)
 exact ⟨rfl,rfl⟩
theorem primOwnO_ok (p:Prim) (h:p.tiny):ACalls Tryz.prog 94 [p.avo] [] (fun av L=>av=p.av∧L=[]):=by
 (refine acalls_go ttOk zOk foOk Tryz.func94 rfl Tryz.ntmps94 rfl false rfl ?_);(conv=>whnf)
 ((with_reducible refine draw_pl ttOk zOk foOk mixedOk pl94x1 ?_ ?_);(focus kernel_rfl);(conv=>whnf))
 refine rdw ?_;repeat' ((with_reducible apply tw)<;>intro _)
 refine (ownO_ok p.mine h.mine).mono ?_
 rintro _ _ ⟨rfl,rfl⟩
 conv=>whnf
 refine rdw ?_;repeat' ((with_reducible apply tw)<;>intro _)
 refine (cloneIO_ok p.acks h.acks).mono ?_
 rintro _ _ ⟨rfl,rfl⟩
 conv=>whnf
 refine rdw ?_;repeat' ((with_reducible apply tw)<;>intro _)
 refine (cloneVO_ok p.votes h.votes).mono ?_
 rintro _ _ ⟨rfl,rfl⟩
 conv=>whnf
 refine rdw ?_;repeat' ((with_reducible apply tw)<;>intro _)
 ((with_reducible refine draw_pl ttOk zOk foOk mixedOk pl94x2 ?_ ?_);(focus kernel_rfl);(conv=>whnf))
 refine rdw ?_;repeat' ((with_reducible apply tw)<;>intro _)
 refine (dagOwnO_ok p.dag h.dag.1 h.dag.2).mono ?_
 rintro _ _ ⟨rfl,rfl⟩
 conv=>whnf
 refine rdw ?_;repeat' ((with_reducible apply tw)<;>intro _)
 refine (ownCertsO_ok p.late h.late.1 h.late.2).mono ?_
 rintro _ _ ⟨rfl,rfl⟩
 conv=>whnf
 refine rdw ?_;repeat' ((with_reducible apply tw)<;>intro _)
 exact ⟨rfl,rfl⟩
open Classical in
theorem primMayO_ok (p:Prim) (hok:p.ok):ACalls Tryz.prog 41 [p.avo] [] (fun av L=>av = .d (.bool (decide (May p)))∧L=[]) :=
 acalls_lend (flat_bool _) ⟨_,_,rfl,lend_avo p,rfl⟩ (primMay_full p hok)
end Go.Proofs.YtolkmjfkkkiboaaGreat
open Go Go.Claim Go.Proofs
namespace Go.Proofs.YtolkmjfkkkiboaaGreat
open Go.Ab Go.RowKit Go.MapKept
attribute [local irreducible] ACalls AW ADraw Into fltB fnear
set_option maxRecDepth 100000
theorem infoInt:(Tryz.prog.info? 3).map (fun i=>(i.zero,i.size,i.bytes))=some (some (.int .i64 0),1,8):=by kernel_rfl
theorem int_triv {k:Nat} {u:Value} {sh:Sh} (h:([Value.int .i64 5]:List Value)[k]? = some u) (hs:(gsh 1)[k]? = some sh):Triv sh u:=by
 cases k with
 | zero =>
   simp at h
   subst h
   have:sh = .int:=by simpa [gsh] using hs.symm
   subst this
   exact ⟨5,rfl⟩
 | succ k=>simp at h
set_option maxRecDepth 100000 in
theorem numbers_sp (lo n k:Nat) (w:World) (v:Value) (hv:SL lo n w (k+1) 1 v) (hbl:∀ b,lo≤b→b<lo+n→b<w.heap.size) :
  Calls Tryz.prog 50 #[v] w fun e w'=>e = .returned (.tuple #[])∧Spoil lo n w w':=by
 obtain ⟨p,len,cap,rfl,k1,⟨k2,k3⟩,k4⟩:=id hv
 go_enter Tryz.func50,Tryz.ntmps50
 go_wp2
 go_loopw [2] (fun i wr=>∃ j:Nat,j≤len∧i = .int .i64 j∧Spoil lo n w wr)
  (fun i _=>len - (intOf i).toNat)
 case atStart=>exact ⟨0,Nat.zero_le _,rfl,Spoil.refl _ _ _⟩
 case round =>
  obtain ⟨j,hj,rfl,hS⟩:=hrel
  have hv2:=hS.sl _ _ _ hv
  have hbl2:∀ b,lo≤b→b<lo+n→b<wr.heap.size:=fun b h1 h2=>Nat.lt_of_lt_of_le (hbl b h1 h2) hS.size
  by_cases hj2:j<len
  ·rcases k4 with rfl|⟨⟨b,off,sp⟩,rfl,rfl,_⟩
   ·omega
   obtain ⟨p',len',cap',e1,_,_,k5⟩:=hv2
   cases e1
   rcases k5 with h0|⟨q,e2,_,q3,q4,⟨cur,e',mk,q5,q6,q7,q8,q9⟩,q10⟩
   ·omega
   cases e2
   obtain ⟨u,u1,x,rfl⟩:=q10 j 0 .int hj2 rfl
   simp only [Nat.mul_one,Nat.add_zero] at u1 q5 q9 q3 q4
   have hlt:off+j<cur.size:=by omega
   have hfz:wr.frozen? { block:=b,off:=off+j }=false:=by
    have hq6:=q6 _ hlt
    unfold World.frozen?
    rw [q5]
    show (decide (mk.1≤off+j)&&decide (off+j<mk.2))=false
    by_cases hp:mk.1≤off+j
    ·rw [decide_eq_false (p:=off+j<mk.2) fun h=>hq6 ⟨hp,h⟩,Bool.and_false]
    ·rw [decide_eq_false hp,Bool.false_and]
   go_wp2
   refine ⟨⟨j+1,by omega,by go_num,hS.trans (Spoil.cell q3 q4 q5 fun sh hs => ?_)⟩,by simp [intOf];omega⟩
   rw [q7,Nat.mod_one] at hs
   have:sh = .int:=by simpa [gsh] using hs.symm
   subst this
   exact ⟨-99,rfl⟩
  ·obtain rfl:j=len:=by omega
   obtain ⟨i0,hi,hz0,hz1,hz2⟩:=info_parts infoInt
   go_wp2_with (at_builtin;refine wpList_append_spoil _ rfl (.tmp 12) (.tmp 13) 22 rfl 3 i0 (.int .i64 0) 1 8 Tryz.underlying22 hi hz0 hz1 hz2 rfl (by decide) (lo:=lo) (n:=n) (k:=k) (v := .slice p j cap) ?sl rfl ⟨wr.heap.size,0,none⟩ 1 [.int .i64 5] rfl rfl ?c1 ?c2 (fun j u sh h hs=>int_triv h hs) (by decide) ?bl ?go)
   case sl=>exact (Spoil.keeps hbl2 (Keeps.alloc wr _)).sl _ _ _ hv2
   case c1=>intro j u hj;match j,hj with|0,hj=>simp at hj;subst hj;simp [Addr.add]
   case c2=>intro u hu;simp at hu;subst hu;rfl
   case bl=>exact fun b h1 h2=>Nat.lt_of_lt_of_le (hbl2 b h1 h2) (Keeps.alloc wr _).size
   case go =>
    intro v' w' hS2 _
    go_wp2
    go_end0
    exact ⟨rfl,(hS.trans (Spoil.keeps hbl2 (Keeps.alloc wr _))).trans hS2⟩
end Go.Proofs.YtolkmjfkkkiboaaGreat
open Go Go.Claim Go.Proofs
namespace Go.Proofs.YtolkmjfkkkiboaaGreat
open Go.Ab Go.RowKit Go.MapKept
attribute [local irreducible] ACalls AW ADraw Into fltB fnear
set_option maxRecDepth 100000
theorem sl_slice {lo n:Nat} {w:World} {k m:Nat} {v:Value} (h:SL lo n w (k+1) m v):∃ p l c,v = .slice p l c:=by
 obtain ⟨p,l,c,e,_⟩:=h
 exact ⟨p,l,c,e⟩
theorem isle_out {lo n:Nat} {w:World} (hbl:∀ b,lo≤b→b<lo+n→b<w.heap.size) {b:Nat} (h:w.heap.size≤b):¬(lo≤b∧b<lo+n):=fun k=>Nat.lt_irrefl _ (Nat.lt_of_lt_of_le (hbl b k.1 k.2) h)
theorem Spoil.cellOf {lo n:Nat} {w w':World} (h:Spoil lo n w w') {a:Addr} {u:Value} (hn:¬(lo≤a.block∧a.block<lo+n)) (hc:w.cell? a=some u):w'.cell? a=some u:=by
 rw [World.cell?_of_block (w:=w) (h.block a.block (cell?_lt hc) hn)]
 exact hc
set_option maxHeartbeats 400000 in
set_option maxRecDepth 100000 in
theorem header_sp (lo n k:Nat) (w:World) (au ro:Int) (v1 v2:Value) (h1:SL lo n w (k+1) 1 v1) (h2:SL lo n w (k+1) 1 v2) (hbl:∀ b,lo≤b→b<lo+n→b<w.heap.size) :
  Calls Tryz.prog 47 #[.agg #[.int .i64 au,.int .i64 ro,v1,v2]] w fun e w'=>e = .returned (.tuple #[])∧Spoil lo n w w':=by
 obtain ⟨p1,l1,c1,rfl⟩:=sl_slice h1
 obtain ⟨p2,l2,c2,rfl⟩:=sl_slice h2
 have hA:=Spoil.keeps hbl (Keeps.alloc w (.cells #[.int .i64 au,.int .i64 ro,.slice p1 l1 c1,.slice p2 l2 c2] 24))
 have hblA:∀ b,lo≤b→b<lo+n→b<(w.alloc (.cells #[.int .i64 au,.int .i64 ro,.slice p1 l1 c1,.slice p2 l2 c2] 24)).heap.size:=fun b g1 g2=>Nat.lt_of_lt_of_le (hbl b g1 g2) hA.size
 have hc2:(w.alloc (.cells #[.int .i64 au,.int .i64 ro,.slice p1 l1 c1,.slice p2 l2 c2] 24)).cell? ⟨w.heap.size,3,none⟩=some (.slice p2 l2 c2):=by
  rw [cell_of_row _ _ 3 _ _ _ (heap_alloc_new w _)];rfl
 have hout:¬(lo≤w.heap.size∧w.heap.size<lo+n):=isle_out hbl (Nat.le_refl _)
 go_enter Tryz.func47,Tryz.ntmps47
 go_wp2_with (go_at_call 50;(with_reducible refine (numbers_sp lo n k _ (.slice p1 l1 c1) (hA.sl _ _ _ h1) hblA).mono ?_);rintro e w1 ⟨rfl,hS1⟩;have hc3:=Spoil.cellOf (a:=⟨w.heap.size,3,none⟩) hS1 hout hc2)
 go_wp2_with (go_at_call 50;(with_reducible refine (numbers_sp lo n k _ (.slice p2 l2 c2) (hS1.sl _ _ _ (hA.sl _ _ _ h2)) (fun b g1 g2=>Nat.lt_of_lt_of_le (hblA b g1 g2) hS1.size)).mono ?_);rintro e w2 ⟨rfl,hS2⟩)
 go_end0
 exact ⟨rfl,hA.trans (hS1.trans hS2)⟩
set_option maxHeartbeats 400000 in
set_option maxRecDepth 100000 in
theorem cert_sp (lo n k:Nat) (w:World) (au ro di:Int) (v1 v2 v3:Value) (h1:SL lo n w (k+1) 1 v1) (h2:SL lo n w (k+1) 1 v2) (h3:SL lo n w (k+1) 1 v3) (hbl:∀ b,lo≤b→b<lo+n→b<w.heap.size) :
  Calls Tryz.prog 121 #[.agg #[.int .i64 au,.int .i64 ro,v1,v2,.int .i64 di,v3]] w fun e w'=>e = .returned (.tuple #[])∧Spoil lo n w w':=by
 obtain ⟨p1,l1,c1,rfl⟩:=sl_slice h1
 obtain ⟨p2,l2,c2,rfl⟩:=sl_slice h2
 obtain ⟨p3,l3,c3,rfl⟩:=sl_slice h3
 have hA:=Spoil.keeps hbl (Keeps.alloc w (.cells #[.int .i64 au,.int .i64 ro,.slice p1 l1 c1,.slice p2 l2 c2,.int .i64 di,.slice p3 l3 c3] 47))
 have hblA:∀ b,lo≤b→b<lo+n→b<(w.alloc (.cells #[.int .i64 au,.int .i64 ro,.slice p1 l1 c1,.slice p2 l2 c2,.int .i64 di,.slice p3 l3 c3] 47)).heap.size:=fun b g1 g2=>Nat.lt_of_lt_of_le (hbl b g1 g2) hA.size
 have hc2:(w.alloc (.cells #[.int .i64 au,.int .i64 ro,.slice p1 l1 c1,.slice p2 l2 c2,.int .i64 di,.slice p3 l3 c3] 47)).cell? ⟨w.heap.size,5,none⟩=some (.slice p3 l3 c3):=by
  rw [cell_of_row _ _ 5 _ _ _ (heap_alloc_new w _)];rfl
 have hout:¬(lo≤w.heap.size∧w.heap.size<lo+n):=isle_out hbl (Nat.le_refl _)
 go_enter Tryz.func121,Tryz.ntmps121
 go_wp2_with (go_at_call 47;(with_reducible refine (header_sp lo n k _ au ro (.slice p1 l1 c1) (.slice p2 l2 c2) (hA.sl _ _ _ h1) (hA.sl _ _ _ h2) hblA).mono ?_);rintro e w1 ⟨rfl,hS1⟩;have hc3:=Spoil.cellOf (a:=⟨w.heap.size,5,none⟩) hS1 hout hc2)
 go_wp2_with (go_at_call 50;(with_reducible refine (numbers_sp lo n k _ (.slice p3 l3 c3) (hS1.sl _ _ _ (hA.sl _ _ _ h3)) (fun b g1 g2=>Nat.lt_of_lt_of_le (hblA b g1 g2) hS1.size)).mono ?_);rintro e w2 ⟨rfl,hS2⟩)
 go_end0
 exact ⟨rfl,hA.trans (hS1.trans hS2)⟩
end Go.Proofs.YtolkmjfkkkiboaaGreat
open Go Go.Claim Go.Proofs
namespace Go.Proofs.YtolkmjfkkkiboaaGreat
open Go.Ab Go.RowKit Go.MapKept
attribute [local irreducible] ACalls AW ADraw Into fltB fnear
set_option maxRecDepth 100000
theorem unfroz_at {w:World} {b o:Nat} {cur:Array Value} {e:TypeId} {mk:Nat×Nat} (h:w.heap[b]? = some (.cells cur e mk)) (hu:unfroz mk cur.size) (ho:o<cur.size):w.frozen? ⟨b,o,none⟩=false:=by
 have hq6:=hu o ho
 unfold World.frozen?
 rw [h]
 show (decide (mk.1≤o)&&decide (o<mk.2))=false
 by_cases hp:mk.1≤o
 ·rw [decide_eq_false (p:=o<mk.2) fun h=>hq6 ⟨hp,h⟩,Bool.and_false]
 ·rw [decide_eq_false hp,Bool.false_and]
def TrivL (l:List Sh) (us:List Value):Prop:=∀ (i:Nat) (u:Value) (sh:Sh),us[i]? = some u→l[i]? = some sh→Triv sh u
theorem tl_n:TrivL [] []:=fun i u sh h=>by simp at h
theorem tl_c {sh:Sh} {u:Value} {l:List Sh} {us:List Value} (h:Triv sh u) (k:TrivL l us):TrivL (sh :: l) (u :: us):=fun i v sv h1 h2=>by
 cases i with
 | zero=>simp at h1 h2;subst h1;subst h2;exact h
 | succ i=>exact k i v sv (by simpa using h1) (by simpa using h2)
theorem Spoil.elem {lo n:Nat} {w:World} {b off j m:Nat} {cur:Array Value} {e:TypeId} {mk:Nat×Nat} (q3:lo≤b) (q4:b<lo+n) (q5:w.heap[b]? = some (.cells cur e mk)) (q7:gsz e=m) (q8:off % m=0) (us:List Value) (hl:us.length≤m) (ht:TrivL (gsh m) us) :
  Spoil lo n w (w.setCells b (off+j * m) us) :=
 Spoil.cells q3 q4 us _ w cur q5 fun i u hi sh hs=>ht i u sh hi (by
  have him:i<m:=Nat.lt_of_lt_of_le (List.getElem?_eq_some_iff.1 hi).1 hl
  have:(off+j * m+i) % m=i:=by
   rw [Nat.add_right_comm,Nat.add_mul_mod_self_right,Nat.add_mod,q8,Nat.zero_add,Nat.mod_mod,Nat.mod_eq_of_lt him]
  rwa [q7,this] at hs)
theorem alloc_row (w:World) (cur:Array Value) (e:TypeId) (j:Nat):(w.alloc (.cells cur e)).cell? ((⟨w.heap.size,0,none⟩:Addr).add j)=cur[j]? := by
 rw [add_lit _ rfl,Nat.zero_add,cell_of_row _ _ _ _ _ _ (heap_alloc_new w _)]
theorem elem3 {lo n k:Nat} {w:World} {b off len cap j:Nat} (h:SL lo n w (k+1) 3 (.slice (some ⟨b,off,none⟩) len cap)) (hj:j<len) :
  ∃ (z0:Int) (z1:Int) (z2:Int) (cur:Array Value) (e:TypeId) (mk:Nat×Nat),w.cell? ⟨b,off+j * 3,none⟩=some (.int .i64 z0)∧w.cell? ⟨b,off+j * 3+1,none⟩=some (.int .i64 z1)∧w.cell? ⟨b,off+j * 3+2,none⟩=some (.int .i64 z2)∧w.frozen? ⟨b,off+j * 3,none⟩=false∧w.frozen? ⟨b,off+j * 3+1,none⟩=false∧w.frozen? ⟨b,off+j * 3+2,none⟩=false∧lo≤b∧b<lo+n∧w.heap[b]? = some (.cells cur e mk)∧gsz e=3∧off % 3=0:=by
 obtain ⟨p',len',cap',e1,k1,_,k5⟩:=h
 cases e1
 rcases k5 with h0|⟨q,e2,_,q3,q4,⟨cur,e',mk,q5,q6,q7,q8,q9⟩,q10⟩
 ·omega
 cases e2
 have hlt:off+j * 3+2<cur.size:=by
  have:(j+1) * 3≤cap * 3:=Nat.mul_le_mul_right _ (by omega)
  simp only at q9
  omega
 obtain ⟨u0,c0,z0,rfl⟩:=q10 j 0 .int hj rfl
 obtain ⟨u1,c1,z1,rfl⟩:=q10 j 1 .int hj rfl
 obtain ⟨u2,c2,z2,rfl⟩:=q10 j 2 .int hj rfl
 exact ⟨z0,z1,z2,cur,e',mk,c0,c1,c2,unfroz_at q5 q6 (by omega),unfroz_at q5 q6 (by omega),unfroz_at q5 q6 (by omega),q3,q4,q5,q7,q8⟩
theorem elem4 {lo n k:Nat} {w:World} {b off len cap j:Nat} (h:SL lo n w (k+1) 4 (.slice (some ⟨b,off,none⟩) len cap)) (hj:j<len) :
  ∃ (z0:Int) (z1:Int) (t2:ByteArray) (t3:ByteArray) (cur:Array Value) (e:TypeId) (mk:Nat×Nat),w.cell? ⟨b,off+j * 4,none⟩=some (.int .i64 z0)∧w.cell? ⟨b,off+j * 4+1,none⟩=some (.int .i64 z1)∧w.cell? ⟨b,off+j * 4+2,none⟩=some (.string t2)∧w.cell? ⟨b,off+j * 4+3,none⟩=some (.string t3)∧w.frozen? ⟨b,off+j * 4,none⟩=false∧w.frozen? ⟨b,off+j * 4+1,none⟩=false∧w.frozen? ⟨b,off+j * 4+2,none⟩=false∧w.frozen? ⟨b,off+j * 4+3,none⟩=false∧lo≤b∧b<lo+n∧w.heap[b]? = some (.cells cur e mk)∧gsz e=4∧off % 4=0:=by
 obtain ⟨p',len',cap',e1,k1,_,k5⟩:=h
 cases e1
 rcases k5 with h0|⟨q,e2,_,q3,q4,⟨cur,e',mk,q5,q6,q7,q8,q9⟩,q10⟩
 ·omega
 cases e2
 have hlt:off+j * 4+3<cur.size:=by
  have:(j+1) * 4≤cap * 4:=Nat.mul_le_mul_right _ (by omega)
  simp only at q9
  omega
 obtain ⟨u0,c0,z0,rfl⟩:=q10 j 0 .int hj rfl
 obtain ⟨u1,c1,z1,rfl⟩:=q10 j 1 .int hj rfl
 obtain ⟨u2,c2,t2,rfl⟩:=q10 j 2 .str hj rfl
 obtain ⟨u3,c3,t3,rfl⟩:=q10 j 3 .str hj rfl
 exact ⟨z0,z1,t2,t3,cur,e',mk,c0,c1,c2,c3,unfroz_at q5 q6 (by omega),unfroz_at q5 q6 (by omega),unfroz_at q5 q6 (by omega),unfroz_at q5 q6 (by omega),q3,q4,q5,q7,q8⟩
theorem elem6 {lo n k:Nat} {w:World} {b off len cap j:Nat} (h:SL lo n w (k+1) 6 (.slice (some ⟨b,off,none⟩) len cap)) (hj:j<len) :
  ∃ (z0:Int) (z1:Int) (u2:Value) (u3:Value) (z4:Int) (u5:Value) (cur:Array Value) (e:TypeId) (mk:Nat×Nat),w.cell? ⟨b,off+j * 6,none⟩=some (.int .i64 z0)∧w.cell? ⟨b,off+j * 6+1,none⟩=some (.int .i64 z1)∧w.cell? ⟨b,off+j * 6+2,none⟩=some (u2)∧w.cell? ⟨b,off+j * 6+3,none⟩=some (u3)∧w.cell? ⟨b,off+j * 6+4,none⟩=some (.int .i64 z4)∧w.cell? ⟨b,off+j * 6+5,none⟩=some (u5)∧w.frozen? ⟨b,off+j * 6,none⟩=false∧w.frozen? ⟨b,off+j * 6+1,none⟩=false∧w.frozen? ⟨b,off+j * 6+2,none⟩=false∧w.frozen? ⟨b,off+j * 6+3,none⟩=false∧w.frozen? ⟨b,off+j * 6+4,none⟩=false∧w.frozen? ⟨b,off+j * 6+5,none⟩=false∧SL lo n w k 1 u2∧SL lo n w k 1 u3∧SL lo n w k 1 u5∧lo≤b∧b<lo+n∧w.heap[b]? = some (.cells cur e mk)∧gsz e=6∧off % 6=0:=by
 obtain ⟨p',len',cap',e1,k1,_,k5⟩:=h
 cases e1
 rcases k5 with h0|⟨q,e2,_,q3,q4,⟨cur,e',mk,q5,q6,q7,q8,q9⟩,q10⟩
 ·omega
 cases e2
 have hlt:off+j * 6+5<cur.size:=by
  have:(j+1) * 6≤cap * 6:=Nat.mul_le_mul_right _ (by omega)
  simp only at q9
  omega
 obtain ⟨u0,c0,z0,rfl⟩:=q10 j 0 .int hj rfl
 obtain ⟨u1,c1,z1,rfl⟩:=q10 j 1 .int hj rfl
 obtain ⟨u2,c2,s2⟩:=q10 j 2 (.sl 1) hj rfl
 obtain ⟨u3,c3,s3⟩:=q10 j 3 (.sl 1) hj rfl
 obtain ⟨u4,c4,z4,rfl⟩:=q10 j 4 .int hj rfl
 obtain ⟨u5,c5,s5⟩:=q10 j 5 (.sl 1) hj rfl
 exact ⟨z0,z1,u2,u3,z4,u5,cur,e',mk,c0,c1,c2,c3,c4,c5,unfroz_at q5 q6 (by omega),unfroz_at q5 q6 (by omega),unfroz_at q5 q6 (by omega),unfroz_at q5 q6 (by omega),unfroz_at q5 q6 (by omega),unfroz_at q5 q6 (by omega),s2,s3,s5,q3,q4,q5,q7,q8⟩
theorem elem18 {lo n k:Nat} {w:World} {b off len cap j:Nat} (h:SL lo n w (k+1) 18 (.slice (some ⟨b,off,none⟩) len cap)) (hj:j<len) :
  ∃ (z0:Int) (z1:Int) (z2:Int) (z3:Int) (z4:Int) (z5:Int) (u6:Value) (z7:Int) (z8:Int) (u9:Value) (u10:Value) (z11:Int) (z12:Int) (u13:Value) (u14:Value) (z15:Int) (u16:Value) (u17:Value) (cur:Array Value) (e:TypeId) (mk:Nat×Nat),w.cell? ⟨b,off+j * 18,none⟩=some (.int .i64 z0)∧w.cell? ⟨b,off+j * 18+1,none⟩=some (.int .i64 z1)∧w.cell? ⟨b,off+j * 18+2,none⟩=some (.int .i64 z2)∧w.cell? ⟨b,off+j * 18+3,none⟩=some (.int .i64 z3)∧w.cell? ⟨b,off+j * 18+4,none⟩=some (.int .i64 z4)∧w.cell? ⟨b,off+j * 18+5,none⟩=some (.int .i64 z5)∧w.cell? ⟨b,off+j * 18+6,none⟩=some (u6)∧w.cell? ⟨b,off+j * 18+7,none⟩=some (.int .i64 z7)∧w.cell? ⟨b,off+j * 18+8,none⟩=some (.int .i64 z8)∧w.cell? ⟨b,off+j * 18+9,none⟩=some (u9)∧w.cell? ⟨b,off+j * 18+10,none⟩=some (u10)∧w.cell? ⟨b,off+j * 18+11,none⟩=some (.int .i64 z11)∧w.cell? ⟨b,off+j * 18+12,none⟩=some (.int .i64 z12)∧w.cell? ⟨b,off+j * 18+13,none⟩=some (u13)∧w.cell? ⟨b,off+j * 18+14,none⟩=some (u14)∧w.cell? ⟨b,off+j * 18+15,none⟩=some (.int .i64 z15)∧w.cell? ⟨b,off+j * 18+16,none⟩=some (u16)∧w.cell? ⟨b,off+j * 18+17,none⟩=some (u17)∧w.frozen? ⟨b,off+j * 18,none⟩=false∧w.frozen? ⟨b,off+j * 18+1,none⟩=false∧w.frozen? ⟨b,off+j * 18+2,none⟩=false∧w.frozen? ⟨b,off+j * 18+3,none⟩=false∧w.frozen? ⟨b,off+j * 18+4,none⟩=false∧w.frozen? ⟨b,off+j * 18+5,none⟩=false∧w.frozen? ⟨b,off+j * 18+6,none⟩=false∧w.frozen? ⟨b,off+j * 18+7,none⟩=false∧w.frozen? ⟨b,off+j * 18+8,none⟩=false∧w.frozen? ⟨b,off+j * 18+9,none⟩=false∧w.frozen? ⟨b,off+j * 18+10,none⟩=false∧w.frozen? ⟨b,off+j * 18+11,none⟩=false∧w.frozen? ⟨b,off+j * 18+12,none⟩=false∧w.frozen? ⟨b,off+j * 18+13,none⟩=false∧w.frozen? ⟨b,off+j * 18+14,none⟩=false∧w.frozen? ⟨b,off+j * 18+15,none⟩=false∧w.frozen? ⟨b,off+j * 18+16,none⟩=false∧w.frozen? ⟨b,off+j * 18+17,none⟩=false∧SL lo n w k 4 u6∧SL lo n w k 1 u9∧SL lo n w k 1 u10∧SL lo n w k 1 u13∧SL lo n w k 1 u14∧SL lo n w k 1 u16∧SL lo n w k 1 u17∧lo≤b∧b<lo+n∧w.heap[b]? = some (.cells cur e mk)∧gsz e=18∧off % 18=0:=by
 obtain ⟨p',len',cap',e1,k1,_,k5⟩:=h
 cases e1
 rcases k5 with h0|⟨q,e2,_,q3,q4,⟨cur,e',mk,q5,q6,q7,q8,q9⟩,q10⟩
 ·omega
 cases e2
 have hlt:off+j * 18+17<cur.size:=by
  have:(j+1) * 18≤cap * 18:=Nat.mul_le_mul_right _ (by omega)
  simp only at q9
  omega
 obtain ⟨u0,c0,z0,rfl⟩:=q10 j 0 .int hj rfl
 obtain ⟨u1,c1,z1,rfl⟩:=q10 j 1 .int hj rfl
 obtain ⟨u2,c2,z2,rfl⟩:=q10 j 2 .int hj rfl
 obtain ⟨u3,c3,z3,rfl⟩:=q10 j 3 .int hj rfl
 obtain ⟨u4,c4,z4,rfl⟩:=q10 j 4 .int hj rfl
 obtain ⟨u5,c5,z5,rfl⟩:=q10 j 5 .int hj rfl
 obtain ⟨u6,c6,s6⟩:=q10 j 6 (.sl 4) hj rfl
 obtain ⟨u7,c7,z7,rfl⟩:=q10 j 7 .int hj rfl
 obtain ⟨u8,c8,z8,rfl⟩:=q10 j 8 .int hj rfl
 obtain ⟨u9,c9,s9⟩:=q10 j 9 (.sl 1) hj rfl
 obtain ⟨u10,c10,s10⟩:=q10 j 10 (.sl 1) hj rfl
 obtain ⟨u11,c11,z11,rfl⟩:=q10 j 11 .int hj rfl
 obtain ⟨u12,c12,z12,rfl⟩:=q10 j 12 .int hj rfl
 obtain ⟨u13,c13,s13⟩:=q10 j 13 (.sl 1) hj rfl
 obtain ⟨u14,c14,s14⟩:=q10 j 14 (.sl 1) hj rfl
 obtain ⟨u15,c15,z15,rfl⟩:=q10 j 15 .int hj rfl
 obtain ⟨u16,c16,s16⟩:=q10 j 16 (.sl 1) hj rfl
 obtain ⟨u17,c17,s17⟩:=q10 j 17 (.sl 1) hj rfl
 exact ⟨z0,z1,z2,z3,z4,z5,u6,z7,z8,u9,u10,z11,z12,u13,u14,z15,u16,u17,cur,e',mk,c0,c1,c2,c3,c4,c5,c6,c7,c8,c9,c10,c11,c12,c13,c14,c15,c16,c17,unfroz_at q5 q6 (by omega),unfroz_at q5 q6 (by omega),unfroz_at q5 q6 (by omega),unfroz_at q5 q6 (by omega),unfroz_at q5 q6 (by omega),unfroz_at q5 q6 (by omega),unfroz_at q5 q6 (by omega),unfroz_at q5 q6 (by omega),unfroz_at q5 q6 (by omega),unfroz_at q5 q6 (by omega),unfroz_at q5 q6 (by omega),unfroz_at q5 q6 (by omega),unfroz_at q5 q6 (by omega),unfroz_at q5 q6 (by omega),unfroz_at q5 q6 (by omega),unfroz_at q5 q6 (by omega),unfroz_at q5 q6 (by omega),unfroz_at q5 q6 (by omega),s6,s9,s10,s13,s14,s16,s17,q3,q4,q5,q7,q8⟩
theorem elem18t {lo n k:Nat} {w:World} {b off len cap j:Nat} (h:SL lo n w (k+1) 18 (.slice (some ⟨b,off,none⟩) len cap)) (hj:j<len) :
  ∃ (u6:Value),w.cell? ⟨b,off+j * 18+6,none⟩=some (u6)∧SL lo n w k 4 u6:=by
 obtain ⟨p',len',cap',e1,k1,_,k5⟩:=h
 cases e1
 rcases k5 with h0|⟨q,e2,_,q3,q4,⟨cur,e',mk,q5,q6,q7,q8,q9⟩,q10⟩
 ·omega
 cases e2
 have hlt:off+j * 18+17<cur.size:=by
  have:(j+1) * 18≤cap * 18:=Nat.mul_le_mul_right _ (by omega)
  simp only at q9
  omega
 obtain ⟨u6,c6,s6⟩:=q10 j 6 (.sl 4) hj rfl
 exact ⟨u6,c6,s6⟩
theorem elem18h {lo n k:Nat} {w:World} {b off len cap j:Nat} (h:SL lo n w (k+1) 18 (.slice (some ⟨b,off,none⟩) len cap)) (hj:j<len) :
  ∃ (z7:Int) (z8:Int) (u9:Value) (u10:Value),w.cell? ⟨b,off+j * 18+7,none⟩=some (.int .i64 z7)∧w.cell? ⟨b,off+j * 18+8,none⟩=some (.int .i64 z8)∧w.cell? ⟨b,off+j * 18+9,none⟩=some (u9)∧w.cell? ⟨b,off+j * 18+10,none⟩=some (u10)∧SL lo n w k 1 u9∧SL lo n w k 1 u10:=by
 obtain ⟨p',len',cap',e1,k1,_,k5⟩:=h
 cases e1
 rcases k5 with h0|⟨q,e2,_,q3,q4,⟨cur,e',mk,q5,q6,q7,q8,q9⟩,q10⟩
 ·omega
 cases e2
 have hlt:off+j * 18+17<cur.size:=by
  have:(j+1) * 18≤cap * 18:=Nat.mul_le_mul_right _ (by omega)
  simp only at q9
  omega
 obtain ⟨u7,c7,z7,rfl⟩:=q10 j 7 .int hj rfl
 obtain ⟨u8,c8,z8,rfl⟩:=q10 j 8 .int hj rfl
 obtain ⟨u9,c9,s9⟩:=q10 j 9 (.sl 1) hj rfl
 obtain ⟨u10,c10,s10⟩:=q10 j 10 (.sl 1) hj rfl
 exact ⟨z7,z8,u9,u10,c7,c8,c9,c10,s9,s10⟩
theorem elem18c {lo n k:Nat} {w:World} {b off len cap j:Nat} (h:SL lo n w (k+1) 18 (.slice (some ⟨b,off,none⟩) len cap)) (hj:j<len) :
  ∃ (z11:Int) (z12:Int) (u13:Value) (u14:Value) (z15:Int) (u16:Value),w.cell? ⟨b,off+j * 18+11,none⟩=some (.int .i64 z11)∧w.cell? ⟨b,off+j * 18+12,none⟩=some (.int .i64 z12)∧w.cell? ⟨b,off+j * 18+13,none⟩=some (u13)∧w.cell? ⟨b,off+j * 18+14,none⟩=some (u14)∧w.cell? ⟨b,off+j * 18+15,none⟩=some (.int .i64 z15)∧w.cell? ⟨b,off+j * 18+16,none⟩=some (u16)∧SL lo n w k 1 u13∧SL lo n w k 1 u14∧SL lo n w k 1 u16:=by
 obtain ⟨p',len',cap',e1,k1,_,k5⟩:=h
 cases e1
 rcases k5 with h0|⟨q,e2,_,q3,q4,⟨cur,e',mk,q5,q6,q7,q8,q9⟩,q10⟩
 ·omega
 cases e2
 have hlt:off+j * 18+17<cur.size:=by
  have:(j+1) * 18≤cap * 18:=Nat.mul_le_mul_right _ (by omega)
  simp only at q9
  omega
 obtain ⟨u11,c11,z11,rfl⟩:=q10 j 11 .int hj rfl
 obtain ⟨u12,c12,z12,rfl⟩:=q10 j 12 .int hj rfl
 obtain ⟨u13,c13,s13⟩:=q10 j 13 (.sl 1) hj rfl
 obtain ⟨u14,c14,s14⟩:=q10 j 14 (.sl 1) hj rfl
 obtain ⟨u15,c15,z15,rfl⟩:=q10 j 15 .int hj rfl
 obtain ⟨u16,c16,s16⟩:=q10 j 16 (.sl 1) hj rfl
 exact ⟨z11,z12,u13,u14,z15,u16,c11,c12,c13,c14,c15,c16,s13,s14,s16⟩
theorem elem18d {lo n k:Nat} {w:World} {b off len cap j:Nat} (h:SL lo n w (k+1) 18 (.slice (some ⟨b,off,none⟩) len cap)) (hj:j<len) :
  ∃ (u17:Value),w.cell? ⟨b,off+j * 18+17,none⟩=some (u17)∧SL lo n w k 1 u17:=by
 obtain ⟨p',len',cap',e1,k1,_,k5⟩:=h
 cases e1
 rcases k5 with h0|⟨q,e2,_,q3,q4,⟨cur,e',mk,q5,q6,q7,q8,q9⟩,q10⟩
 ·omega
 cases e2
 have hlt:off+j * 18+17<cur.size:=by
  have:(j+1) * 18≤cap * 18:=Nat.mul_le_mul_right _ (by omega)
  simp only at q9
  omega
 obtain ⟨u17,c17,s17⟩:=q10 j 17 (.sl 1) hj rfl
 exact ⟨u17,c17,s17⟩
theorem info3:(Tryz.prog.info? 106).map (fun i=>(i.zero,i.size,i.bytes))=some (some (.agg #[.int .i64 0,.int .i64 0,.int .i64 0]),3,24):=by kernel_rfl
set_option maxHeartbeats 2000000 in
set_option maxRecDepth 100000 in
theorem votes_sp (lo n k:Nat) (w:World) (v:Value) (hv:SL lo n w (k+1) 3 v) (hbl:∀ b,lo≤b→b<lo+n→b<w.heap.size) :
  Calls Tryz.prog 122 #[v] w fun e w'=>e = .returned (.tuple #[])∧Spoil lo n w w':=by
 obtain ⟨p,len,cap,rfl,k1,⟨k2,k3⟩,k4⟩:=id hv
 go_enter Tryz.func122,Tryz.ntmps122
 go_wp2
 go_loopw [2] (fun i wr=>∃ j:Nat,j≤len∧i = .int .i64 j∧Spoil lo n w wr)
  (fun i _=>len - (intOf i).toNat)
 case atStart=>exact ⟨0,Nat.zero_le _,rfl,Spoil.refl _ _ _⟩
 case round =>
  obtain ⟨j,hj,rfl,hS⟩:=hrel
  have hv2:=hS.sl _ _ _ hv
  have hbl2:∀ b,lo≤b→b<lo+n→b<wr.heap.size:=fun b h1 h2=>Nat.lt_of_lt_of_le (hbl b h1 h2) hS.size
  by_cases hj2:j<len
  ·rcases k4 with rfl|⟨⟨b,off,sp⟩,rfl,rfl,_⟩
   ·omega
   clear hv
   obtain ⟨z0,z1,z2,cur,e',mk,c0,c1,c2,f0,f1,f2,q3,q4,q5,q7,q8⟩:=elem3 hv2 hj2
   go_wp2
   exact ⟨⟨j+1,by omega,by go_num,hS.trans (Spoil.elem q3 q4 q5 q7 q8 [.int .i64 (-9),.int .i64 0,.int .i64 0] (by decide) (tl_c ⟨_,rfl⟩ (tl_c ⟨_,rfl⟩ (tl_c ⟨_,rfl⟩ tl_n))))⟩,by simp [intOf];omega⟩
  ·obtain rfl:j=len:=by omega
   obtain ⟨i0,hi,hz0,hz1,hz2⟩:=info_parts info3
   go_wp2_with (at_builtin;refine wpList_append_spoil _ rfl (.tmp 13) (.tmp 15) 25 rfl 106 i0 (.agg #[.int .i64 0,.int .i64 0,.int .i64 0]) 3 24 Tryz.underlying25 hi hz0 hz1 hz2 rfl (by decide) (lo:=lo) (n:=n) (k:=k+0) (v := .slice p j cap) ?sl rfl ⟨wr.heap.size,0,none⟩ 1 [.int .i64 0,.int .i64 0,.int .i64 0] rfl rfl ?c1 ?c2 (tl_c ⟨_,rfl⟩ (tl_c ⟨_,rfl⟩ (tl_c ⟨_,rfl⟩ tl_n)):TrivL (gsh 3) _) (by decide) ?bl ?go)
   case sl=>exact (Spoil.keeps hbl2 (Keeps.alloc wr _)).sl _ _ _ hv2
   case c1=>intro j u hj;rw [alloc_row];simpa using hj
   case c2=>intro u hu;simp at hu;rcases hu with rfl|rfl|rfl<;>rfl
   case bl=>exact fun b h1 h2=>Nat.lt_of_lt_of_le (hbl2 b h1 h2) (Keeps.alloc wr _).size
   case go =>
    intro v' w' hS2 _
    go_wp2
    go_end0
    exact ⟨rfl,(hS.trans (Spoil.keeps hbl2 (Keeps.alloc wr _))).trans hS2⟩
theorem info4:(Tryz.prog.info? 180).map (fun i=>(i.zero,i.size,i.bytes))=some (some (.agg #[.int .i64 0,.int .i64 0,.string ⟨#[]⟩,.string ⟨#[]⟩]),4,48):=by kernel_rfl
set_option maxHeartbeats 2000000 in
set_option maxRecDepth 100000 in
theorem txs_sp (lo n k:Nat) (w:World) (v:Value) (hv:SL lo n w (k+1) 4 v) (hbl:∀ b,lo≤b→b<lo+n→b<w.heap.size) :
  Calls Tryz.prog 120 #[v] w fun e w'=>e = .returned (.tuple #[])∧Spoil lo n w w':=by
 obtain ⟨p,len,cap,rfl,k1,⟨k2,k3⟩,k4⟩:=id hv
 go_enter Tryz.func120,Tryz.ntmps120
 go_wp2
 go_loopw [2] (fun i wr=>∃ j:Nat,j≤len∧i = .int .i64 j∧Spoil lo n w wr)
  (fun i _=>len - (intOf i).toNat)
 case atStart=>exact ⟨0,Nat.zero_le _,rfl,Spoil.refl _ _ _⟩
 case round =>
  obtain ⟨j,hj,rfl,hS⟩:=hrel
  have hv2:=hS.sl _ _ _ hv
  have hbl2:∀ b,lo≤b→b<lo+n→b<wr.heap.size:=fun b h1 h2=>Nat.lt_of_lt_of_le (hbl b h1 h2) hS.size
  by_cases hj2:j<len
  ·rcases k4 with rfl|⟨⟨b,off,sp⟩,rfl,rfl,_⟩
   ·omega
   clear hv
   obtain ⟨z0,z1,t2,t3,cur,e',mk,c0,c1,c2,c3,f0,f1,f2,f3,q3,q4,q5,q7,q8⟩:=elem4 hv2 hj2
   go_wp2
   exact ⟨⟨j+1,by omega,by go_num,hS.trans (Spoil.elem q3 q4 q5 q7 q8 [.int .i64 (-9),.int .i64 0,.string ⟨#[]⟩,.string ⟨#[]⟩] (by decide) (tl_c ⟨_,rfl⟩ (tl_c ⟨_,rfl⟩ (tl_c ⟨_,rfl⟩ (tl_c ⟨_,rfl⟩ tl_n)))))⟩,by simp [intOf];omega⟩
  ·obtain rfl:j=len:=by omega
   obtain ⟨i0,hi,hz0,hz1,hz2⟩:=info_parts info4
   go_wp2_with (at_builtin;refine wpList_append_spoil _ rfl (.tmp 13) (.tmp 15) 43 rfl 180 i0 (.agg #[.int .i64 0,.int .i64 0,.string ⟨#[]⟩,.string ⟨#[]⟩]) 4 48 Tryz.underlying43 hi hz0 hz1 hz2 rfl (by decide) (lo:=lo) (n:=n) (k:=k+0) (v := .slice p j cap) ?sl rfl ⟨wr.heap.size,0,none⟩ 1 [.int .i64 0,.int .i64 0,.string ⟨#[]⟩,.string ⟨#[]⟩] rfl rfl ?c1 ?c2 (tl_c ⟨_,rfl⟩ (tl_c ⟨_,rfl⟩ (tl_c ⟨_,rfl⟩ (tl_c ⟨_,rfl⟩ tl_n))):TrivL (gsh 4) _) (by decide) ?bl ?go)
   case sl=>exact (Spoil.keeps hbl2 (Keeps.alloc wr _)).sl _ _ _ hv2
   case c1=>intro j u hj;rw [alloc_row];simpa using hj
   case c2=>intro u hu;simp at hu;rcases hu with rfl|rfl|rfl|rfl<;>rfl
   case bl=>exact fun b h1 h2=>Nat.lt_of_lt_of_le (hbl2 b h1 h2) (Keeps.alloc wr _).size
   case go =>
    intro v' w' hS2 _
    go_wp2
    go_end0
    exact ⟨rfl,(hS.trans (Spoil.keeps hbl2 (Keeps.alloc wr _))).trans hS2⟩
theorem info6:(Tryz.prog.info? 47).map (fun i=>(i.zero,i.size,i.bytes))=some (some (.agg #[.int .i64 0,.int .i64 0,.slice none 0 0,.slice none 0 0,.int .i64 0,.slice none 0 0]),6,96):=by kernel_rfl
set_option maxHeartbeats 2000000 in
set_option maxRecDepth 100000 in
theorem certs_sp (lo n k:Nat) (w:World) (v:Value) (hv:SL lo n w (k+2) 6 v) (hbl:∀ b,lo≤b→b<lo+n→b<w.heap.size) :
  Calls Tryz.prog 123 #[v] w fun e w'=>e = .returned (.tuple #[])∧Spoil lo n w w':=by
 obtain ⟨p,len,cap,rfl,k1,⟨k2,k3⟩,k4⟩:=id hv
 go_enter Tryz.func123,Tryz.ntmps123
 go_wp2
 go_loopw [2] (fun i wr=>∃ j:Nat,j≤len∧i = .int .i64 j∧Spoil lo n w wr)
  (fun i _=>len - (intOf i).toNat)
 case atStart=>exact ⟨0,Nat.zero_le _,rfl,Spoil.refl _ _ _⟩
 case round =>
  obtain ⟨j,hj,rfl,hS⟩:=hrel
  have hv2:=hS.sl _ _ _ hv
  have hbl2:∀ b,lo≤b→b<lo+n→b<wr.heap.size:=fun b h1 h2=>Nat.lt_of_lt_of_le (hbl b h1 h2) hS.size
  by_cases hj2:j<len
  ·rcases k4 with rfl|⟨⟨b,off,sp⟩,rfl,rfl,_⟩
   ·omega
   clear hv
   obtain ⟨z0,z1,u2,u3,z4,u5,cur,e',mk,c0,c1,c2,c3,c4,c5,f0,f1,f2,f3,f4,f5,s2,s3,s5,q3,q4,q5,q7,q8⟩:=elem6 hv2 hj2
   clear q3 q4 q5 q7 q8 f0 f1 f2 f3 f4 f5
   go_wp2_with (go_at_call 121;(with_reducible refine (cert_sp lo n k _ z0 z1 z4 u2 u3 u5 s2 s3 s5 hbl2).mono ?_);rintro e w1 ⟨rfl,hS1⟩;obtain ⟨zb0,zb1,ub2,ub3,zb4,ub5,cur,e',mk,cb0,cb1,cb2,cb3,cb4,cb5,fb0,fb1,fb2,fb3,fb4,fb5,sb2,sb3,sb5,q3,q4,q5,q7,q8⟩:=elem6 (hS1.sl _ _ _ hv2) hj2)
   exact ⟨⟨j+1,by omega,by go_num,(hS.trans hS1).trans (Spoil.elem q3 q4 q5 q7 q8 [.int .i64 0,.int .i64 0,.slice none 0 0,.slice none 0 0,.int .i64 (-9),.slice none 0 0] (by decide) (tl_c ⟨_,rfl⟩ (tl_c ⟨_,rfl⟩ (tl_c rfl (tl_c rfl (tl_c ⟨_,rfl⟩ (tl_c rfl tl_n)))))))⟩,by simp [intOf];omega⟩
  ·obtain rfl:j=len:=by omega
   obtain ⟨i0,hi,hz0,hz1,hz2⟩:=info_parts info6
   go_wp2_with (at_builtin;refine wpList_append_spoil _ rfl (.tmp 18) (.tmp 20) 26 rfl 47 i0 (.agg #[.int .i64 0,.int .i64 0,.slice none 0 0,.slice none 0 0,.int .i64 0,.slice none 0 0]) 6 96 Tryz.underlying26 hi hz0 hz1 hz2 rfl (by decide) (lo:=lo) (n:=n) (k:=k+1) (v := .slice p j cap) ?sl rfl ⟨wr.heap.size,0,none⟩ 1 [.int .i64 0,.int .i64 0,.slice none 0 0,.slice none 0 0,.int .i64 0,.slice none 0 0] rfl rfl ?c1 ?c2 (tl_c ⟨_,rfl⟩ (tl_c ⟨_,rfl⟩ (tl_c rfl (tl_c rfl (tl_c ⟨_,rfl⟩ (tl_c rfl tl_n))))):TrivL (gsh 6) _) (by decide) ?bl ?go)
   case sl=>exact (Spoil.keeps hbl2 (Keeps.alloc wr _)).sl _ _ _ hv2
   case c1=>intro j u hj;rw [alloc_row];simpa using hj
   case c2=>intro u hu;simp at hu;rcases hu with rfl|rfl|rfl|rfl|rfl|rfl<;>rfl
   case bl=>exact fun b h1 h2=>Nat.lt_of_lt_of_le (hbl2 b h1 h2) (Keeps.alloc wr _).size
   case go =>
    intro v' w' hS2 _
    go_wp2
    go_end0
    exact ⟨rfl,(hS.trans (Spoil.keeps hbl2 (Keeps.alloc wr _))).trans hS2⟩
end Go.Proofs.YtolkmjfkkkiboaaGreat
open Go Go.Claim Go.Proofs
namespace Go.Proofs.YtolkmjfkkkiboaaGreat
open Go.Ab Go.RowKit Go.MapKept
attribute [local irreducible] ACalls AW ADraw Into fltB fnear
set_option maxRecDepth 100000
theorem info18:(Tryz.prog.info? 49).map (fun i=>(i.zero,i.size,i.bytes))=some (some (.agg #[.int .i64 0,.int .i64 0,.int .i64 0,.int .i64 0,.int .i64 0,.int .i64 0,.slice none 0 0,.int .i64 0,.int .i64 0,.slice none 0 0,.slice none 0 0,.int .i64 0,.int .i64 0,.slice none 0 0,.slice none 0 0,.int .i64 0,.slice none 0 0,.slice none 0 0]),18,256):=by kernel_rfl
set_option maxHeartbeats 2000000 in
set_option maxRecDepth 100000 in
theorem messages_sp (lo n k:Nat) (w:World) (v:Value) (hv:SL lo n w (k+3) 18 v) (hbl:∀ b,lo≤b→b<lo+n→b<w.heap.size) :
  Calls Tryz.prog 60 #[v] w fun e w'=>e = .returned (.tuple #[])∧Spoil lo n w w':=by
 obtain ⟨p,len,cap,rfl,k1,⟨k2,k3⟩,k4⟩:=id hv
 go_enter Tryz.func60,Tryz.ntmps60
 go_wp2
 go_loopw [2] (fun i wr=>∃ j:Nat,j≤len∧i = .int .i64 j∧Spoil lo n w wr)
  (fun i _=>len - (intOf i).toNat)
 case atStart=>exact ⟨0,Nat.zero_le _,rfl,Spoil.refl _ _ _⟩
 case round =>
  obtain ⟨j,hj,rfl,hS⟩:=hrel
  have hv2:=hS.sl _ _ _ hv
  have hbl2:∀ b,lo≤b→b<lo+n→b<wr.heap.size:=fun b h1 h2=>Nat.lt_of_lt_of_le (hbl b h1 h2) hS.size
  by_cases hj2:j<len
  ·rcases k4 with rfl|⟨⟨b,off,sp⟩,rfl,rfl,_⟩
   ·omega
   clear hv
   obtain ⟨u6,c6,s6⟩:=elem18t hv2 hj2
   go_wp2_with (go_at_call 120;(with_reducible refine (txs_sp lo n (k+1) _ u6 s6 hbl2).mono ?_);rintro e w1 ⟨rfl,hS1⟩;have hbl3:∀ b,lo≤b→b<lo+n→b<w1.heap.size:=fun b h1 h2=>Nat.lt_of_lt_of_le (hbl2 b h1 h2) hS1.size;clear c6;obtain ⟨z7,z8,u9,u10,c7,c8,c9,c10,s9,s10⟩:=elem18h (hS1.sl _ _ _ hv2) hj2)
   go_wp2_with (go_at_call 47;(with_reducible refine (header_sp lo n (k+1) _ z7 z8 u9 u10 s9 s10 hbl3).mono ?_);rintro e w2 ⟨rfl,hS2⟩;have hbl4:∀ b,lo≤b→b<lo+n→b<w2.heap.size:=fun b h1 h2=>Nat.lt_of_lt_of_le (hbl3 b h1 h2) hS2.size;clear c7 c8 c9 c10;obtain ⟨z11,z12,u13,u14,z15,u16,c11,c12,c13,c14,c15,c16,s13,s14,s16⟩:=elem18c ((hS1.trans hS2).sl _ _ _ hv2) hj2)
   go_wp2_with (go_at_call 121;(with_reducible refine (cert_sp lo n (k+1) _ z11 z12 z15 u13 u14 u16 s13 s14 s16 hbl4).mono ?_);rintro e w3 ⟨rfl,hS3⟩;have hbl5:∀ b,lo≤b→b<lo+n→b<w3.heap.size:=fun b h1 h2=>Nat.lt_of_lt_of_le (hbl4 b h1 h2) hS3.size;clear c11 c12 c13 c14 c15 c16;obtain ⟨u17,c17,s17⟩:=elem18d (((hS1.trans hS2).trans hS3).sl _ _ _ hv2) hj2)
   go_wp2_with (go_at_call 50;(with_reducible refine (numbers_sp lo n (k+1) _ u17 s17 hbl5).mono ?_);rintro e w4 ⟨rfl,hS4⟩;clear c17;obtain ⟨z0,z1,z2,z3,z4,z5,u6,z7,z8,u9,u10,z11,z12,u13,u14,z15,u16,u17,cur,e',mk,c0,c1,c2,c3,c4,c5,c6,c7,c8,c9,c10,c11,c12,c13,c14,c15,c16,c17,f0,f1,f2,f3,f4,f5,f6,f7,f8,f9,f10,f11,f12,f13,f14,f15,f16,f17,s6,s9,s10,s13,s14,s16,s17,q3,q4,q5,q7,q8⟩:=elem18 ((((hS1.trans hS2).trans hS3).trans hS4).sl _ _ _ hv2) hj2)
   exact ⟨⟨j+1,by omega,by go_num,((((hS.trans hS1).trans hS2).trans hS3).trans hS4).trans (Spoil.elem q3 q4 q5 q7 q8 [.int .i64 (-9),.int .i64 0,.int .i64 0,.int .i64 0,.int .i64 0,.int .i64 0,.slice none 0 0,.int .i64 0,.int .i64 0,.slice none 0 0,.slice none 0 0,.int .i64 0,.int .i64 0,.slice none 0 0,.slice none 0 0,.int .i64 0,.slice none 0 0,.slice none 0 0] (by decide) (tl_c ⟨_,rfl⟩ (tl_c ⟨_,rfl⟩ (tl_c ⟨_,rfl⟩ (tl_c ⟨_,rfl⟩ (tl_c ⟨_,rfl⟩ (tl_c ⟨_,rfl⟩ (tl_c rfl (tl_c ⟨_,rfl⟩ (tl_c ⟨_,rfl⟩ (tl_c rfl (tl_c rfl (tl_c ⟨_,rfl⟩ (tl_c ⟨_,rfl⟩ (tl_c rfl (tl_c rfl (tl_c ⟨_,rfl⟩ (tl_c rfl (tl_c rfl tl_n)))))))))))))))))))⟩,by simp [intOf];omega⟩
  ·obtain rfl:j=len:=by omega
   obtain ⟨i0,hi,hz0,hz1,hz2⟩:=info_parts info18
   go_wp2_with (at_builtin;refine wpList_append_spoil _ rfl (.tmp 38) (.tmp 40) 71 rfl 49 i0 (.agg #[.int .i64 0,.int .i64 0,.int .i64 0,.int .i64 0,.int .i64 0,.int .i64 0,.slice none 0 0,.int .i64 0,.int .i64 0,.slice none 0 0,.slice none 0 0,.int .i64 0,.int .i64 0,.slice none 0 0,.slice none 0 0,.int .i64 0,.slice none 0 0,.slice none 0 0]) 18 256 Tryz.underlying71 hi hz0 hz1 hz2 rfl (by decide) (lo:=lo) (n:=n) (k:=k+2) (v := .slice p j cap) ?sl rfl ⟨wr.heap.size,0,none⟩ 1 [.int .i64 0,.int .i64 0,.int .i64 0,.int .i64 0,.int .i64 0,.int .i64 0,.slice none 0 0,.int .i64 0,.int .i64 0,.slice none 0 0,.slice none 0 0,.int .i64 0,.int .i64 0,.slice none 0 0,.slice none 0 0,.int .i64 0,.slice none 0 0,.slice none 0 0] rfl rfl ?c1 ?c2 (tl_c ⟨_,rfl⟩ (tl_c ⟨_,rfl⟩ (tl_c ⟨_,rfl⟩ (tl_c ⟨_,rfl⟩ (tl_c ⟨_,rfl⟩ (tl_c ⟨_,rfl⟩ (tl_c rfl (tl_c ⟨_,rfl⟩ (tl_c ⟨_,rfl⟩ (tl_c rfl (tl_c rfl (tl_c ⟨_,rfl⟩ (tl_c ⟨_,rfl⟩ (tl_c rfl (tl_c rfl (tl_c ⟨_,rfl⟩ (tl_c rfl (tl_c rfl tl_n))))))))))))))))):TrivL (gsh 18) _) (by decide) ?bl ?go)
   case sl=>exact (Spoil.keeps hbl2 (Keeps.alloc wr _)).sl _ _ _ hv2
   case c1=>intro j u hj;rw [alloc_row];simpa using hj
   case c2=>intro u hu;simp at hu;rcases hu with rfl|rfl|rfl|rfl|rfl|rfl|rfl|rfl|rfl|rfl|rfl|rfl|rfl|rfl|rfl|rfl|rfl|rfl<;>rfl
   case bl=>exact fun b h1 h2=>Nat.lt_of_lt_of_le (hbl2 b h1 h2) (Keeps.alloc wr _).size
   case go =>
    intro v' w' hS2 _
    go_wp2
    go_end0
    exact ⟨rfl,(hS.trans (Spoil.keeps hbl2 (Keeps.alloc wr _))).trans hS2⟩
end Go.Proofs.YtolkmjfkkkiboaaGreat
open Go Go.Claim Go.Proofs
namespace Go.Proofs.YtolkmjfkkkiboaaGreat
open Go.Ab Go.RowKit Go.MapKept
attribute [local irreducible] ACalls AW ADraw Into fltB fnear
set_option maxRecDepth 100000
set_option maxHeartbeats 2000000 in
set_option maxRecDepth 100000 in
theorem primary_sp (lo n k:Nat) (w:World) (i0 i1 i2 i3 i4 i5 i6 i9 i12 i13:Int) (v7 v8 v10 v11 v14 v15:Value) (h7:SL lo n w (k+2) 1 v7) (h8:SL lo n w (k+2) 1 v8) (h10:SL lo n w (k+2) 1 v10) (h11:SL lo n w (k+2) 3 v11) (h14:SL lo n w (k+2) 6 v14) (h15:SL lo n w (k+2) 6 v15) (hbl:∀ b,lo≤b→b<lo+n→b<w.heap.size) :
  Calls Tryz.prog 62 #[.agg #[.int .i64 i0,.int .i64 i1,.int .i64 i2,.int .i64 i3,.int .i64 i4,.int .i64 i5,.int .i64 i6,v7,v8,.int .i64 i9,v10,v11,.int .i64 i12,.int .i64 i13,v14,v15]] w fun e w'=>e = .returned (.tuple #[])∧Spoil lo n w w':=by
 obtain ⟨p7,l7,c7,rfl⟩:=sl_slice h7
 obtain ⟨p8,l8,c8,rfl⟩:=sl_slice h8
 obtain ⟨p10,l10,c10,rfl⟩:=sl_slice h10
 obtain ⟨p11,l11,c11,rfl⟩:=sl_slice h11
 obtain ⟨p14,l14,c14,rfl⟩:=sl_slice h14
 obtain ⟨p15,l15,c15,rfl⟩:=sl_slice h15
 obtain ⟨cs,hcs⟩:∃ cs:Array Value,cs = #[.int .i64 i0,.int .i64 i1,.int .i64 i2,.int .i64 i3,.int .i64 i4,.int .i64 i5,.int .i64 i6,.slice p7 l7 c7,.slice p8 l8 c8,.int .i64 i9,.slice p10 l10 c10,.slice p11 l11 c11,.int .i64 i12,.int .i64 i13,.slice p14 l14 c14,.slice p15 l15 c15]:=⟨_,rfl⟩
 have hA:=Spoil.keeps hbl (Keeps.alloc w (.cells cs 30))
 have hblA:∀ b,lo≤b→b<lo+n→b<(w.alloc (.cells cs 30)).heap.size:=fun b g1 g2=>Nat.lt_of_lt_of_le (hbl b g1 g2) hA.size
 have d10:(w.alloc (.cells cs 30)).cell? ⟨w.heap.size,10,none⟩=some (.slice p10 l10 c10):=by rw [cell_of_row _ _ 10 _ _ _ (heap_alloc_new w _),hcs];rfl
 have d11:(w.alloc (.cells cs 30)).cell? ⟨w.heap.size,11,none⟩=some (.slice p11 l11 c11):=by rw [cell_of_row _ _ 11 _ _ _ (heap_alloc_new w _),hcs];rfl
 have d14:(w.alloc (.cells cs 30)).cell? ⟨w.heap.size,14,none⟩=some (.slice p14 l14 c14):=by rw [cell_of_row _ _ 14 _ _ _ (heap_alloc_new w _),hcs];rfl
 have d15:(w.alloc (.cells cs 30)).cell? ⟨w.heap.size,15,none⟩=some (.slice p15 l15 c15):=by rw [cell_of_row _ _ 15 _ _ _ (heap_alloc_new w _),hcs];rfl
 have hout:¬(lo≤w.heap.size∧w.heap.size<lo+n):=isle_out hbl (Nat.le_refl _)
 replace h7:=hA.sl _ _ _ h7
 replace h8:=hA.sl _ _ _ h8
 replace h10:=hA.sl _ _ _ h10
 replace h11:=hA.sl _ _ _ h11
 replace h14:=hA.sl _ _ _ h14
 replace h15:=hA.sl _ _ _ h15
 subst hcs
 go_enter Tryz.func62,Tryz.ntmps62
 go_wp2_with (go_at_call 47;(with_reducible refine (header_sp lo n (k+1) _ i5 i6 (.slice p7 l7 c7) (.slice p8 l8 c8) h7 h8 hblA).mono ?_);rintro e w1 ⟨rfl,hS1⟩;have hbl1:∀ b,lo≤b→b<lo+n→b<w1.heap.size:=fun b g1 g2=>Nat.lt_of_lt_of_le (hblA b g1 g2) hS1.size;have e10:=Spoil.cellOf (a:=⟨w.heap.size,10,none⟩) hS1 hout d10)
 go_wp2_with (go_at_call 50;(with_reducible refine (numbers_sp lo n (k+1) _ (.slice p10 l10 c10) (hS1.sl _ _ _ h10) hbl1).mono ?_);rintro e w2 ⟨rfl,hS2⟩;clear e10;have hbl2:∀ b,lo≤b→b<lo+n→b<w2.heap.size:=fun b g1 g2=>Nat.lt_of_lt_of_le (hbl1 b g1 g2) hS2.size;have e11:=Spoil.cellOf (a:=⟨w.heap.size,11,none⟩) (hS1.trans hS2) hout d11)
 go_wp2_with (go_at_call 122;(with_reducible refine (votes_sp lo n (k+1) _ (.slice p11 l11 c11) ((hS1.trans hS2).sl _ _ _ h11) hbl2).mono ?_);rintro e w3 ⟨rfl,hS3⟩;clear e11;have hbl3:∀ b,lo≤b→b<lo+n→b<w3.heap.size:=fun b g1 g2=>Nat.lt_of_lt_of_le (hbl2 b g1 g2) hS3.size;have e14:=Spoil.cellOf (a:=⟨w.heap.size,14,none⟩) ((hS1.trans hS2).trans hS3) hout d14)
 go_wp2_with (go_at_call 123;(with_reducible refine (certs_sp lo n k _ (.slice p14 l14 c14) (((hS1.trans hS2).trans hS3).sl _ _ _ h14) hbl3).mono ?_);rintro e w4 ⟨rfl,hS4⟩;clear e14;have hbl4:∀ b,lo≤b→b<lo+n→b<w4.heap.size:=fun b g1 g2=>Nat.lt_of_lt_of_le (hbl3 b g1 g2) hS4.size;have e15:=Spoil.cellOf (a:=⟨w.heap.size,15,none⟩) (((hS1.trans hS2).trans hS3).trans hS4) hout d15)
 go_wp2_with (go_at_call 123;(with_reducible refine (certs_sp lo n k _ (.slice p15 l15 c15) ((((hS1.trans hS2).trans hS3).trans hS4).sl _ _ _ h15) hbl4).mono ?_);rintro e w5 ⟨rfl,hS5⟩)
 go_end0
 exact ⟨rfl,hA.trans ((((hS1.trans hS2).trans hS3).trans hS4).trans hS5)⟩
attribute [local irreducible] SL
theorem fsI (l:List Int) (h:l.length≤4294967296) (k:Nat):FitS (k+1) 1 (.sl 1 (nums l)) := .inr ⟨_,rfl,by rw [nums_length];exact h,fun cs hcs=>by
 obtain ⟨x,_,rfl⟩:=List.mem_map.1 hcs
 exact ⟨x,[],rfl,rfl⟩⟩
theorem fsV (l:List Vote) (h:l.length≤4294967296) (k:Nat):FitS (k+1) 3 (.sl 3 (votesD l)) := .inr ⟨_,rfl,by rw [votesD_length];exact h,fun cs hcs=>by
 obtain ⟨x,_,rfl⟩:=List.mem_map.1 hcs
 exact ⟨x.round,_,rfl,x.author,_,rfl,x.digest,[],rfl,rfl⟩⟩
theorem fsT (l:List Tx) (h:l.length≤4294967296) (k:Nat):FitS (k+1) 4 (.sl 4 (txsD l)) := .inr ⟨_,rfl,by rw [txsD,List.length_map];exact h,fun cs hcs=>by
 obtain ⟨x,_,rfl⟩:=List.mem_map.1 hcs
 exact ⟨x.sender,_,rfl,x.seq,_,rfl,x.key,_,rfl,x.val,[],rfl,rfl⟩⟩
structure Cert.fitS (c:Cert):Prop where
 bats:c.bats.length≤4294967296
 pars:c.pars.length≤4294967296
 sigs:c.sigs.length≤4294967296
theorem fsC (l:List Cert) (h:l.length≤4294967296) (hc:∀ c∈l,c.fitS) (k:Nat):FitS (k+2) 6 (.sl 6 (certsD l)) := .inr ⟨_,rfl,by rw [certsD_length];exact h,fun cs hcs=>by
 obtain ⟨x,hx,rfl⟩:=List.mem_map.1 hcs
 have hf:=hc x hx
 exact ⟨x.author,_,rfl,x.round,_,rfl,_,_,rfl,fsI x.bats hf.bats k,_,_,rfl,fsI x.pars hf.pars k,x.digest,_,rfl,_,_,rfl,fsI x.sigs hf.sigs k,rfl⟩⟩
structure Msg.fitS (m:Msg):Prop where
 txs:m.txs.length≤4294967296
 head:m.head.fitS
 cert:m.cert.fitS
 digs:m.digs.length≤4294967296
theorem fsM (l:List Msg) (h:l.length≤4294967296) (hc:∀ m∈l,m.fitS):FitS 3 18 (.sl 18 (msgsD l)) := .inr ⟨_,rfl,by rw [msgsD_length];exact h,fun cs hcs=>by
 obtain ⟨x,hx,rfl⟩:=List.mem_map.1 hcs
 have hf:=hc x hx
 exact ⟨x.kind,_,rfl,x.src,_,rfl,x.dst,_,rfl,x.digest,_,rfl,x.ba,_,rfl,x.bn,_,rfl,_,_,rfl,fsT x.txs hf.txs 1,x.head.author,_,rfl,x.head.round,_,rfl,_,_,rfl,fsI x.head.bats hf.head.bats 1,_,_,rfl,fsI x.head.pars hf.head.pars 1,
  x.cert.author,_,rfl,x.cert.round,_,rfl,_,_,rfl,fsI x.cert.bats hf.cert.bats 1,_,_,rfl,fsI x.cert.pars hf.cert.pars 1,x.cert.digest,_,rfl,_,_,rfl,fsI x.cert.sigs hf.cert.sigs 1,_,_,rfl,fsI x.digs hf.digs 1,rfl⟩⟩
def Prim.ai (p:Prim) (i:Nat):AV := .agg [.d (.int .i64 p.id),.d (.int .i64 p.nodes),.d (.int .i64 p.round),.d (.int .i64 p.age),.d (.int .i64 p.said),.d (.int .i64 p.mine.author),.d (.int .i64 p.mine.round),.isl i (.sl 1 (nums p.mine.bats)),.isl i (.sl 1 (nums p.mine.pars)),.d (.int .i64 p.dig),.isl i (.sl 1 (nums p.acks)),.isl i (.sl 3 (votesD p.votes)),.d (.int .i64 p.dag.nodes),.d (.int .i64 p.dag.low),.isl i (.sl 6 (certsD p.dag.certs)),.isl i (.sl 6 (certsD p.late))]
structure Prim.fitS (p:Prim):Prop where
 bats:p.mine.bats.length≤4294967296
 pars:p.mine.pars.length≤4294967296
 acks:p.acks.length≤4294967296
 votes:p.votes.length≤4294967296
 dag:p.dag.certs.length≤4294967296∧∀ c∈p.dag.certs,c.fitS
 late:p.late.length≤4294967296∧∀ c∈p.late,c.fitS
theorem spoilP_ok (p:Prim) (h:p.fitS) (lo n:Nat) (ok:IsK):ACalls Tryz.prog 62 [p.ai 0] [.isle lo n ok] (fun av L=>av = .tup []∧L=[.isle lo n false]):=by
 refine acalls_spoil fun c E w vs hbl hv => ?_
 simp only [VRt,Prim.ai] at hv
 obtain ⟨u,us',hvs,hu,rfl⟩:=hv
 have hu0:=hu
 simp only [VR] at hu
 obtain ⟨us,rfl,hus⟩:=hu
 simp only [VRs] at hus
 obtain ⟨a0,_,e,-,h0,a1,_,rfl,-,h1,a2,_,rfl,-,h2,a3,_,rfl,-,h3,a4,_,rfl,-,h4,a5,_,rfl,-,h5,a6,_,rfl,-,h6,a7,_,rfl,-,h7,a8,_,rfl,-,h8,a9,_,rfl,-,h9,a10,_,rfl,-,h10,a11,_,rfl,-,h11,a12,_,rfl,-,h12,a13,_,rfl,-,h13,a14,_,rfl,-,h14,a15,_,rfl,-,h15,rfl⟩:=hus
 have hi:∀ {z:Int} {a:Value},VR (rcOf c.M0 E [.isle lo n ok] w) (.d (.int .i64 z)) a→a = .int .i64 z:=fun {z a} hz=>by simpa only [VR,VD] using hz
 have b0:=hi h0
 have b1:=hi h1
 have b2:=hi h2
 have b3:=hi h3
 have b4:=hi h4
 have b5:=hi h5
 have b6:=hi h6
 have b9:=hi h9
 have b12:=hi h12
 have b13:=hi h13
 subst b0 b1 b2 b3 b4 b5 b6 b9 b12 b13
 have hvs':vs = #[.agg #[.int .i64 p.id,.int .i64 p.nodes,.int .i64 p.round,.int .i64 p.age,.int .i64 p.said,.int .i64 p.mine.author,.int .i64 p.mine.round,a7,a8,.int .i64 p.dig,a10,a11,.int .i64 p.dag.nodes,.int .i64 p.dag.low,a14,a15]]:=by
  rw [← Array.toArray_toList (xs:=vs),hvs,← Array.toArray_toList (xs:=us),e]
 rw [hvs']
 exact primary_sp lo n 1 w _ _ _ _ _ _ _ _ _ _ _ _ _ _ _ _ (isl_SL (fsI _ h.bats 2) h7) (isl_SL (fsI _ h.pars 2) h8) (isl_SL (fsI _ h.acks 2) h10) (isl_SL (fsV _ h.votes 2) h11) (isl_SL (fsC _ h.dag.1 h.dag.2 1) h14) (isl_SL (fsC _ h.late.1 h.late.2 1) h15) hbl
theorem spoilM_ok (l:List Msg) (h:l.length≤4294967296) (hl:∀ m∈l,m.fitS) (lo n:Nat) (ok:IsK):ACalls Tryz.prog 60 [.isl 0 (.sl 18 (msgsD l))] [.isle lo n ok] (fun av L=>av = .tup []∧L=[.isle lo n false]):=by
 refine acalls_spoil fun c E w vs hbl hv => ?_
 simp only [VRt] at hv
 obtain ⟨u,us',hvs,hu,rfl⟩:=hv
 have hvs':vs = #[u]:=by rw [← Array.toArray_toList (xs:=vs),hvs]
 rw [hvs']
 exact messages_sp lo n 0 w u (isl_SL (fsM l h hl) hu) hbl
end Go.Proofs.YtolkmjfkkkiboaaGreat
namespace Go.Proofs.YtolkmjfkkkiboaaGreat
open Go.Ab Go.RowKit Go.MapKept
attribute [local irreducible] ACalls AW ADraw Into fltB fnear
set_option maxRecDepth 100000
def withI (l:List Int) (n:Int):List Int:=if n∈l then l else insI l n
def foldW (l:List Int):List Int:=l.foldl withI []
theorem foldW_snoc (l:List Int) (d:Int):foldW (l++[d])=withI (foldW l) d:=by
 unfold foldW
 rw [List.foldl_append]
 rfl
theorem withI_mem {l:List Int} {n x:Int}:x∈withI l n↔x∈l∨x=n:=by
 unfold withI
 split
 ·rename_i h
  exact ⟨.inl,fun k=>k.elim id fun e=>e▸h⟩
 ·exact insI_mem
theorem withI_rising {l:List Int} {n:Int} (h:risingI l):risingI (withI l n):=by
 unfold withI
 split
 ·exact h
 ·exact insI_rising h ‹_›
theorem withI_len (l:List Int) (n:Int):(withI l n).length≤l.length+1:=by
 unfold withI
 split
 ·omega
 ·rw [insI_len]
  omega
theorem foldl_withI:∀ (l a:List Int),risingI a→risingI (l.foldl withI a)∧∀ x,x∈l.foldl withI a↔x∈a∨x∈l
 | [],a,h=>⟨h,fun x=>by simp⟩
 | d :: l,a,h=>by
   obtain ⟨h1,h2⟩:=foldl_withI l (withI a d) (withI_rising h)
   refine ⟨h1,fun x => ?_⟩
   show x∈l.foldl withI (withI a d)↔_
   rw [h2,withI_mem,List.mem_cons]
   constructor
   ·rintro ((h|h)|h)
    ·exact .inl h
    ·exact .inr (.inl h)
    ·exact .inr (.inr h)
   ·rintro (h|h|h)
    ·exact .inl (.inl h)
    ·exact .inl (.inr h)
    ·exact .inr h
theorem foldW_rising (l:List Int):risingI (foldW l):=(foldl_withI l [] .nil).1
theorem foldW_mem (l:List Int) (x:Int):x∈foldW l↔x∈l:=by
 rw [foldW,(foldl_withI l [] .nil).2]
 simp
theorem foldW_sort {l:List Int} (h:l.Nodup):sortI l=foldW l :=
 rising_ext (sortI_rising h) (foldW_rising l) fun x=>by
  rw [foldW_mem]
  exact (List.mergeSort_perm l _).mem_iff
theorem foldW_len {l:List Int} (h:l.Nodup):(foldW l).length=l.length:=by
 rw [← foldW_sort h]
 exact List.length_mergeSort l
theorem bats_fold_nodup:∀ (l acc:List Int),acc.Nodup→(l.foldl (fun acc d=>if acc.length<8∧d∉acc then acc++[d] else acc) acc).Nodup
 | [],acc,h=>h
 | d :: l,acc,h=>by
   refine bats_fold_nodup l _ ?_
   show (if acc.length<8∧d∉acc then acc++[d] else acc).Nodup
   split
   ·rename_i k
    exact List.nodup_append.2 ⟨h,List.nodup_cons.2 ⟨List.not_mem_nil,List.nodup_nil⟩,fun x hx y hy e=>k.2 (by rw [List.mem_singleton.1 hy] at e;exact e▸hx)⟩
   ·exact h
theorem batsF_nodup (l:List Int):(batsF l).Nodup:=bats_fold_nodup l [] List.nodup_nil
theorem bats_full:∀ (m:List Int) (l:List Int),¬(batsF l).length<8→batsF (l++m)=batsF l
 | [],l,_=>by rw [List.append_nil]
 | d :: m,l,h=>by
   have e:batsF (l++[d])=batsF l:=by rw [batsF_snoc,if_neg (fun k=>h k.1)]
   rw [show l++d :: m=(l++[d])++m by simp,bats_full m (l++[d]) (by rw [e];exact h),e]
theorem bats_step {l:List Int} {d:Int} (h:(foldW (batsF l)).length<8):foldW (batsF (l++[d]))=withI (foldW (batsF l)) d:=by
 rw [foldW_len (batsF_nodup l)] at h
 rw [batsF_snoc]
 by_cases k:d∈batsF l
 ·rw [if_neg (fun e=>e.2 k)]
  unfold withI
  rw [if_pos ((foldW_mem _ _).2 k)]
 ·rw [if_pos ⟨h,k⟩,foldW_snoc]
theorem bats_end {l:List Int} {i:Nat} (h:¬(foldW (batsF (l.take i))).length<8∨l.length≤i):foldW (batsF (l.take i))=sortI (batsF l):=by
 rw [foldW_sort (batsF_nodup l)]
 rcases h with h|h
 ·rw [foldW_len (batsF_nodup _)] at h
  have:=bats_full (l.drop i) (l.take i) h
  rw [List.take_append_drop] at this
  rw [this]
 ·rw [List.take_of_length_le h]
theorem pars_end {p:Prim} (h:(p.dag.certs.map (·.digest)).Nodup):foldW (parsF p)=sortI (parsF p) :=
 (foldW_sort (List.Pairwise.sublist (List.Sublist.map _ List.filter_sublist) h)).symm
def parsI (p:Prim) (i:Nat):List Int:=foldW ((ofR (p.dag.certs.take i) (p.round - 1)).map (·.digest))
theorem parsI_snoc {p:Prim} {i:Nat} {c:Cert} (hc:p.dag.certs[i]? = some c):parsI p (i+1)=if c.round=p.round - 1 then withI (parsI p i) c.digest else parsI p i:=by
 unfold parsI ofR
 rw [take_snoc hc,List.filter_append]
 by_cases h:c.round=p.round - 1
 ·rw [if_pos h,List.filter_cons_of_pos (by simpa using h),List.filter_nil,List.map_append]
  exact foldW_snoc _ _
 ·rw [if_neg h,List.filter_cons_of_neg (by simpa using h),List.filter_nil,List.append_nil]
theorem parsI_all {p:Prim} {i:Nat} (h:p.dag.certs.length≤i):parsI p i=foldW (parsF p):=by
 unfold parsI parsF
 rw [List.take_of_length_le h]
theorem parsI_len (p:Prim):∀ i,(parsI p i).length≤i
 | 0=>by
   show (foldW ((ofR [] (p.round - 1)).map (·.digest))).length≤0
   exact Nat.le_refl _
 | i+1=>by
   have ih:=parsI_len p i
   cases hc:p.dag.certs[i]? with
   | none =>
     have hl:p.dag.certs.length≤i:=by simpa using hc
     rw [parsI_all hl] at ih
     rw [parsI_all (by omega)]
     omega
   | some c =>
     rw [parsI_snoc hc]
     split
     ·have:=withI_len (parsI p i) c.digest
      omega
     ·omega
theorem inI_yes {l:List Int} {n:Int} (h:n∈l):0≤inI l n:=by
 unfold inI inC
 cases hx:l.findIdx? fun y=>decide (y=n) with
 | none =>
   rw [List.findIdx?_eq_none_iff] at hx
   have:=hx n h
   simp at this
 | some i=>exact Int.natCast_nonneg i
theorem with_in (l:List Int) (hl:tiny l) (n:Int) (h:n∈l):ACalls Tryz.prog 80 [.d (.sl 1 (nums l)),.d (.int .i64 n)] [] (fun av L=>av = .d (.sl 1 (nums l))∧L=[]):=by
 have hin:=in_ok l (by unfold few;unfold tiny at hl;omega) n
 have hy:=inI_yes h
 (refine acalls_go ttOk zOk foOk Tryz.func80 rfl Tryz.ntmps80 rfl false rfl ?_);(conv=>whnf)
 refine hin.mono ?_
 rintro _ _ ⟨rfl,rfl⟩
 conv=>whnf
 refine rdz ?_;repeat' ((with_reducible apply tw)<;>intro _)
 ·exact ⟨rfl,rfl⟩
 ·rename_i k
  exact absurd hy k
theorem with_full (l:List Int) (hl:tiny l) (hs:risingI l) (n:Int):ACalls Tryz.prog 80 [.d (.sl 1 (nums l)),.d (.int .i64 n)] [] (fun av L=>av = .d (.sl 1 (nums (withI l n)))∧L=[]):=by
 unfold withI
 by_cases h:n∈l
 ·rw [if_pos h]
  exact with_in l hl n h
 ·rw [if_neg h]
  exact with_ok l hl hs n h
open Classical in
theorem make_row (p:Prim) (hok:p.ok) (hdl:p.dag.certs.length≤100000) (l:List Int) (hl:few l) (k1:May p) (k2:digsB l=true) (k3:readyB p=true) :
  ACalls Tryz.prog 44 [p.av,.d (.sl 1 (nums l))] [] (fun av L=>av = .tup [.agg [.d (.int .i64 p.id),.d (.int .i64 p.round),.arr 0,.arr 1],.d (.int .i64 0)]∧L=[.row 3 1 (nums (sortI (batsF l))) false,.row 3 1 (nums (sortI (parsF p))) false]):=by
 have h1:=primMay_full p hok
 have h2:=containsMk_ok l hl
 have h3:=ready_ok p k1.dag.fit k1.isn k1.round
 have h4:=head_row p k1.dag.fit k1.round hdl l hl
 rw [decide_eq_true k1] at h1
 rw [k2] at h2
 rw [k3] at h3
 (refine acalls_go ttOk zOk foOk Tryz.func44 rfl Tryz.ntmps44 rfl true rfl ?_);(conv=>whnf)
 refine rdz ?_;repeat' ((with_reducible apply tw)<;>intro _)
 refine h1.mono ?_
 rintro _ _ ⟨rfl,rfl⟩
 conv=>whnf
 refine rdz ?_;repeat' ((with_reducible apply tw)<;>intro _)
 refine h2.mono ?_
 rintro _ _ ⟨rfl,rfl⟩
 conv=>whnf
 refine rdz ?_;repeat' ((with_reducible apply tw)<;>intro _)
 refine h3.mono ?_
 rintro _ _ ⟨rfl,rfl⟩
 conv=>whnf
 refine rdz ?_;repeat' ((with_reducible apply tw)<;>intro _)
 (refine (h4).mono ?_;rintro _ _ ⟨rfl,rfl⟩;(conv=>whnf))
 refine rdz ?_;repeat' ((with_reducible apply tw)<;>intro _)
 exact ⟨rfl,rfl⟩
theorem full20_ok (p:Prim) (out:List Msg) (hl:p.dag.certs.length≤1099511627776) (hc:∀ c∈p.dag.certs,c.tiny) (hn:isN p.nodes=true) (r:Int) :
  ACalls Tryz.prog 132 [.ptr 0 0,.d (.int .i64 r)] (p.st out) (fun av L=>av = .d (.bool (fullB p r))∧L=p.st out):=by
 have hnn:=of_decide_eq_true hn
 have h1:=rRound_ok p.dag (by unfold few;omega) hl hc r
 have h2:=rQuorum_ok p.nodes (by omega)
 have hol:=certsD_length (ofR p.dag.certs r)
 (refine acalls_go ttOk zOk foOk Tryz.func132 rfl Tryz.ntmps132 rfl true rfl ?_);(conv=>whnf)
 refine rdw ?_;repeat' ((with_reducible apply tw)<;>intro _)
 ((with_reducible refine draw_pl ttOk zOk foOk mixedOk pl132x1 ?_ ?_);(focus kernel_rfl);(conv=>whnf))
 repeat' (first|(first|((with_reducible first|apply rd_intro|apply gd_and);(focus ((conv=>whnf)<;>first|rfl|(intro K hK;(conv=>whnf);first|exact hK|exact z_wrap (by omega) hK)));conv=>whnf)|((with_reducible apply z_wrap);(focus omega);conv=>whnf)|((with_reducible first|apply mt_dec|apply mt_eq|apply mt_ne|apply mt_not|apply mt_any)<;>(intro _;conv=>whnf)))|(refine (h1).mono ?_;rintro _ _ ⟨rfl,rfl⟩;(conv=>whnf))|(refine (h2).mono ?_;rintro _ _ ⟨rfl,rfl⟩;(conv=>whnf))|fail)
 refine ⟨congrArg (fun b=>AV.d (.bool b)) ?_,rfl⟩
 unfold fullB quo
 rw [decide_eq_decide]
 show (((certsD (ofR p.dag.certs r)).length:Nat):Int)≥_↔_
 rw [hol]
theorem open20_ok (p:Prim) (hl:p.dag.certs.length≤1099511627776) (hc:∀ c∈p.dag.certs,c.tiny) (hn:isN p.nodes=true) (hr:1≤p.round∧p.round≤1099511627776) :
  ACalls Tryz.prog 78 [p.av] [] (fun av L=>av = .d (.bool (readyB p))∧L=[]):=by
 have h1:=full20_ok p [] hl hc hn (p.round - 1)
 unfold readyB
 (refine acalls_go ttOk zOk foOk Tryz.func78 rfl Tryz.ntmps78 rfl false rfl ?_);(conv=>whnf)
 refine rdw ?_;repeat' ((with_reducible apply tw)<;>intro _)
 ·rename_i e1 e2
  replace e1:p.said<p.round:=e1
  replace e2:p.round=1:=e2
  exact ⟨congrArg (fun b=>AV.d (.bool b)) (by rw [decide_eq_true e1,decide_eq_true e2];rfl),rfl⟩
 ·rename_i e1 e2
  replace e1:p.said<p.round:=e1
  replace e2:p.round≠1:=e2
  refine h1.mono ?_
  rintro _ _ ⟨rfl,rfl⟩
  conv=>whnf
  exact ⟨congrArg (fun b=>AV.d (.bool b)) (by rw [decide_eq_true e1,decide_eq_false e2];simp),rfl⟩
 ·rename_i e1
  replace e1:¬p.said<p.round:=e1
  exact ⟨congrArg (fun b=>AV.d (.bool b)) (by rw [decide_eq_false e1];rfl),rfl⟩
def paSt (p:Prim):Bool→Nat→AF×List AB
 | true,i=>([(1,.ptr 0 0),(3,.arr 1),(4,.d (.int .i64 i))],[.cells (p.cs.map AV.d),.row 3 1 [] false])
 | false,i=>([(1,.ptr 0 0),(3,.d (.sl 1 (nums (parsI p i)))),(4,.d (.int .i64 i))],[.cells (p.cs.map AV.d)])
theorem parents20_ok (p:Prim) (hl:p.dag.certs.length≤100000) (hr:1≤p.round∧p.round≤1099511627776) :
  ACalls Tryz.prog 79 [p.av] [] (fun av L=>av = .d (.sl 1 (nums (foldW (parsF p))))∧L=[]):=by
 have hcl:=certsD_length p.dag.certs
 (refine acalls_go ttOk zOk foOk Tryz.func79 rfl Tryz.ntmps79 rfl false rfl ?_);(conv=>whnf)
 refine loop_go2 ttOk zOk foOk (σ:=Bool) (ρ:=Nat) (paSt p) (fun b i=>i≤p.dag.certs.length∧(b=true→parsI p i=[])) (fun _ i=>p.dag.certs.length - i) [1,3,4] ?_ ?_
 ·conv=>whnf
  exact ⟨true,0,rfl,rfl,Nat.zero_le _,fun _=>rfl⟩
 ·rintro b i ⟨hi,hb⟩
  have hpl:=parsI_len p i
  cases b with
  | true =>
    have he:=hb rfl
    conv=>whnf
    refine rdw ?_;repeat' ((with_reducible apply tw)<;>intro _)
    ·rename_i hil
     replace hil:(i:Int)<((certsD p.dag.certs).length:Int):=hil
     refine Exists.elim (⟨_,List.getElem?_eq_getElem (by omega)⟩:∃ c,p.dag.certs[i]? = some c) fun c hc => ?_
     have hsn:=parsI_snoc hc
     have hw:=with_full (parsI p i) (by unfold tiny;omega) (foldW_rising _) c.digest
     rw [he] at hw hsn
     ((with_reducible refine draw_pl ttOk zOk foOk mixedOk pl79x5 ?_ ?_);(focus kernel_rfl);(conv=>whnf))
     repeat' (first|(first|((with_reducible first|apply rd_intro|apply gd_and);(focus ((conv=>whnf)<;>first|rfl|(intro K hK;(conv=>whnf);first|exact hK|exact z_wrap (by omega) hK)));conv=>whnf)|((with_reducible apply z_wrap);(focus omega);conv=>whnf)|((with_reducible first|apply mt_dec|apply mt_eq|apply mt_ne|apply mt_not|apply mt_any)<;>(intro _;conv=>whnf)))|((with_reducible apply rd_intro);(focus (intro K hK;(conv=>whnf);exact ⟨by omega,c.cs,certsD_at hc,hK⟩));(conv=>whnf))|((with_reducible apply rd_intro);(focus (intro K hK;(conv=>whnf);exact ix_map hc (by first|rfl|omega) hK));(conv=>whnf))|fail)
     ·rename_i hcr
      replace hcr:c.round=p.round - 1:=hcr
      rw [if_pos hcr] at hsn
      refine ⟨by omega,c.cs,certsD_at hc,?_⟩
      conv=>whnf
      refine rdw ?_;repeat' ((with_reducible apply tw)<;>intro _)
      (refine Or.inl ?_;(conv=>whnf))
      refine hw.mono ?_
      rintro _ _ ⟨rfl,rfl⟩
      conv=>whnf
      refine rdw ?_;repeat' ((with_reducible apply tw)<;>intro _)
      exact ⟨false,i+1,by rw [← hsn];rfl,rfl,⟨by omega,fun h=>(by cases h)⟩,by omega⟩
     ·rename_i hcr
      replace hcr:c.round≠p.round - 1:=hcr
      rw [if_neg hcr] at hsn
      exact ⟨true,i+1,rfl,rfl,⟨by omega,fun _=>hsn⟩,by omega⟩
    ·rename_i hil
     replace hil:¬(i:Int)<((certsD p.dag.certs).length:Int):=hil
     refine ⟨?_,rfl⟩
     rw [parsI_all (by omega)] at he
     rw [he]
     rfl
  | false =>
    conv=>whnf
    refine rdw ?_;repeat' ((with_reducible apply tw)<;>intro _)
    ·rename_i hil
     replace hil:(i:Int)<((certsD p.dag.certs).length:Int):=hil
     refine Exists.elim (⟨_,List.getElem?_eq_getElem (by omega)⟩:∃ c,p.dag.certs[i]? = some c) fun c hc => ?_
     have hsn:=parsI_snoc hc
     have hw:=with_full (parsI p i) (by unfold tiny;omega) (foldW_rising _) c.digest
     ((with_reducible refine draw_pl ttOk zOk foOk mixedOk pl79x5 ?_ ?_);(focus kernel_rfl);(conv=>whnf))
     repeat' (first|(first|((with_reducible first|apply rd_intro|apply gd_and);(focus ((conv=>whnf)<;>first|rfl|(intro K hK;(conv=>whnf);first|exact hK|exact z_wrap (by omega) hK)));conv=>whnf)|((with_reducible apply z_wrap);(focus omega);conv=>whnf)|((with_reducible first|apply mt_dec|apply mt_eq|apply mt_ne|apply mt_not|apply mt_any)<;>(intro _;conv=>whnf)))|((with_reducible apply rd_intro);(focus (intro K hK;(conv=>whnf);exact ⟨by omega,c.cs,certsD_at hc,hK⟩));(conv=>whnf))|((with_reducible apply rd_intro);(focus (intro K hK;(conv=>whnf);exact ix_map hc (by first|rfl|omega) hK));(conv=>whnf))|fail)
     ·rename_i hcr
      replace hcr:c.round=p.round - 1:=hcr
      rw [if_pos hcr] at hsn
      refine ⟨by omega,c.cs,certsD_at hc,?_⟩
      conv=>whnf
      refine rdw ?_;repeat' ((with_reducible apply tw)<;>intro _)
      refine hw.mono ?_
      rintro _ _ ⟨rfl,rfl⟩
      conv=>whnf
      refine rdw ?_;repeat' ((with_reducible apply tw)<;>intro _)
      exact ⟨false,i+1,by rw [← hsn];rfl,rfl,⟨by omega,fun h=>(by cases h)⟩,by omega⟩
     ·rename_i hcr
      replace hcr:c.round≠p.round - 1:=hcr
      rw [if_neg hcr] at hsn
      exact ⟨false,i+1,by rw [← hsn];rfl,rfl,⟨by omega,fun h=>(by cases h)⟩,by omega⟩
    ·rename_i hil
     replace hil:¬(i:Int)<((certsD p.dag.certs).length:Int):=hil
     refine ⟨?_,rfl⟩
     show AV.d (.sl 1 (nums (parsI p i)))=_
     rw [parsI_all (by omega)]
def noH (e:Int):AV := .tup [.agg [.d (.int .i64 0),.d (.int .i64 0),.d .nils,.d .nils],.d (.int .i64 e)]
theorem digs_iff (l:List Int):(∀ x∈l,1≤x∧x≤65536)↔digsB l=true:=by
 unfold digsB
 rw [List.all_eq_true]
 simp only [decide_eq_true_iff]
def rmSt (p:Prim) (l:List Int) (i:Nat):AF×List AB:=([(1,.d (.sl 1 (nums l))),(4,.ptr 0 0),(6,.ptr 1 0),(7,.d (.int .i64 i))],[.cells [.d (.int .i64 0),.d (.int .i64 0),.d .nils,.d .nils],.cells [.d (.int .i64 p.id),.d (.int .i64 p.round),.d (.sl 1 (nums (foldW (batsF (l.take i))))),.d (.sl 1 (nums (foldW (parsF p))))]])
open Classical in
theorem rMake_ok (p:Prim) (hm:May p) (hl:p.dag.certs.length≤100000) (hc:∀ c∈p.dag.certs,c.tiny) (l:List Int) (hll:few l) :
  ACalls Tryz.prog 43 [p.av,.d (.sl 1 (nums l))] [] (fun av L=>((digsB l=false∧av=noH 1)∨(digsB l=true∧readyB p=false∧av=noH 10)∨(digsB l=true∧readyB p=true∧av = .tup [(headC p l).hav,.d (.int .i64 0)]))∧L=[]):=by
 have h1:=rDigests_ok l hll
 have h2:=open20_ok p (by omega) hc hm.isn hm.round
 have h3:=parents20_ok p hl hm.round
 have hnl:=nums_length l
 have hll':=hll
 unfold few at hll'
 (refine acalls_go ttOk zOk foOk Tryz.func43 rfl Tryz.ntmps43 rfl false rfl ?_);(conv=>whnf)
 refine h1.mono ?_
 rintro _ _ ⟨rfl,rfl⟩
 cases hd:digsB l with
 | false =>
   have hd2:¬∀ x∈l,1≤x∧x≤65536:=fun h=>by rw [(digs_iff l).1 h] at hd;cases hd
   rw [decide_eq_false hd2]
   conv=>whnf
   refine rdw ?_;repeat' ((with_reducible apply tw)<;>intro _)
   exact ⟨.inl ⟨rfl,rfl⟩,rfl⟩
 | true =>
   rw [decide_eq_true ((digs_iff l).2 hd)]
   conv=>whnf
   refine rdw ?_;repeat' ((with_reducible apply tw)<;>intro _)
   refine h2.mono ?_
   rintro _ _ ⟨rfl,rfl⟩
   cases hr:readyB p with
   | false =>
     conv=>whnf
     refine rdw ?_;repeat' ((with_reducible apply tw)<;>intro _)
     exact ⟨.inr (.inl ⟨rfl,rfl,rfl⟩),rfl⟩
   | true =>
     conv=>whnf
     refine rdw ?_;repeat' ((with_reducible apply tw)<;>intro _)
     ((with_reducible refine draw_pl ttOk zOk foOk mixedOk pl43x5 ?_ ?_);(focus kernel_rfl);(conv=>whnf))
     repeat' (first|(first|((with_reducible first|apply rd_intro|apply gd_and);(focus ((conv=>whnf)<;>first|rfl|(intro K hK;(conv=>whnf);first|exact hK|exact z_wrap (by omega) hK)));conv=>whnf)|((with_reducible apply z_wrap);(focus omega);conv=>whnf)|((with_reducible first|apply mt_dec|apply mt_eq|apply mt_ne|apply mt_not|apply mt_any)<;>(intro _;conv=>whnf)))|((with_reducible apply rd_intro);(focus (intro K hK;(conv=>whnf);refine h3.mono ?_;rintro _ _ ⟨rfl,rfl⟩;(conv=>whnf);exact hK));(conv=>whnf))|((with_reducible apply gd_and);(focus ((conv=>whnf);intro K hK;(conv=>whnf);refine h3.mono ?_;rintro _ _ ⟨rfl,rfl⟩;(conv=>whnf);exact hK));(conv=>whnf))|fail)
     refine aw_nilsL [(2,2,1)] rfl ?_
     refine loop_go ttOk zOk foOk (σ:=Nat) (rmSt p l) (fun i=>i≤l.length) (fun i=>l.length - i) [1,4,6,7] ?_ ?_
     ·conv=>whnf
      exact ⟨0,rfl,rfl,Nat.zero_le _⟩
     ·intro i hi
      have hbl:(foldW (batsF (l.take i))).length≤8:=by rw [foldW_len (batsF_nodup _)];exact batsF_len _
      have hbn:=nums_length (foldW (batsF (l.take i)))
      have hfin:¬(foldW (batsF (l.take i))).length<8∨l.length≤i→AV.tup [.agg [.d (.int .i64 p.id),.d (.int .i64 p.round),.d (.sl 1 (nums (foldW (batsF (l.take i))))),.d (.sl 1 (nums (foldW (parsF p))))],.d (.int .i64 0)] = .tup [(headC p l).hav,.d (.int .i64 0)]:=fun h=>by
       rw [bats_end h,pars_end hm.dag.dig]
       rfl
      conv=>whnf
      refine rdw ?_;repeat' ((with_reducible apply tw)<;>intro _)
      ·rename_i k1 k2
       replace k1:(i:Int)<((nums l).length:Int):=k1
       replace k2:((nums (foldW (batsF (l.take i)))).length:Int)<8:=k2
       refine Exists.elim (⟨_,List.getElem?_eq_getElem (by omega)⟩:∃ d,l[i]? = some d) fun d hd => ?_
       have hw:=with_full (foldW (batsF (l.take i))) (by unfold tiny;omega) (foldW_rising _) d
       have hsn:=bats_step (l:=l.take i) (d:=d) (by omega)
       rw [← take_snoc hd] at hsn
       rw [← hsn] at hw
       ((with_reducible refine draw_pl ttOk zOk foOk mixedOk pl43x9 ?_ ?_);(focus kernel_rfl);(conv=>whnf))
       repeat' (first|(first|((with_reducible first|apply rd_intro|apply gd_and);(focus ((conv=>whnf)<;>first|rfl|(intro K hK;(conv=>whnf);first|exact hK|exact z_wrap (by omega) hK)));conv=>whnf)|((with_reducible apply z_wrap);(focus omega);conv=>whnf)|((with_reducible first|apply mt_dec|apply mt_eq|apply mt_ne|apply mt_not|apply mt_any)<;>(intro _;conv=>whnf)))|((with_reducible apply rd_intro);(focus (intro K hK;(conv=>whnf);exact ix_map hd (by first|rfl|omega) hK));(conv=>whnf))|((with_reducible apply rd_intro);(focus (intro K hK;(conv=>whnf);exact ⟨by omega,[.int .i64 d],nums_at hd,hK⟩));(conv=>whnf))|((with_reducible apply rd_intro);(focus (intro K hK;(conv=>whnf);refine hw.mono ?_;rintro _ _ ⟨rfl,rfl⟩;(conv=>whnf);exact hK));(conv=>whnf))|((with_reducible apply gd_and);(focus ((conv=>whnf);intro K hK;(conv=>whnf);refine hw.mono ?_;rintro _ _ ⟨rfl,rfl⟩;(conv=>whnf);exact hK));(conv=>whnf))|fail)
       (refine (hw).mono ?_;rintro _ _ ⟨rfl,rfl⟩;(conv=>whnf))
       refine rdw ?_;repeat' ((with_reducible apply tw)<;>intro _)
       exact ⟨i+1,rfl,rfl,(show i+1≤l.length by omega),(show l.length - (i+1)<l.length - i by omega)⟩
      ·rename_i k1 k2
       replace k2:¬((nums (foldW (batsF (l.take i)))).length:Int)<8:=k2
       exact ⟨.inr (.inr ⟨rfl,rfl,hfin (.inl (by omega))⟩),rfl⟩
      ·rename_i k1
       replace k1:¬(i:Int)<((nums l).length:Int):=k1
       exact ⟨.inr (.inr ⟨rfl,rfl,hfin (.inr (by omega))⟩),rfl⟩
end Go.Proofs.YtolkmjfkkkiboaaGreat
