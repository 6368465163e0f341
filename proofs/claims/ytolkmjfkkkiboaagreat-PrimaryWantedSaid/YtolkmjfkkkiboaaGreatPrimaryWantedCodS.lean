/- PrimaryWanted: contracts. -/
import Derived.Test.YtolkmjfkkkiboaaGreatRows
import Derived.Test.YtolkmjfkkkiboaaGreatPrimaryWantedCodR
set_option linter.unusedVariables false
set_option linter.unusedSimpArgs false
namespace Go.Proofs.YtolkmjfkkkiboaaGreat
open Go.Ab Go.RowKit Go.MapKept
attribute [local irreducible] ACalls AW ADraw Into fltB fnear
set_option maxRecDepth 100000
def badT (p:Prim) (e:Int) (av:AV) (L:List AB):Prop:=av = .tup [.ptr 0 0,.d (.int .i64 e)]∧L=p.st []
def goodT (q:Prim) (o:List Msg) (av:AV) (L:List AB):Prop:=av = .tup [.ptr 0 0,.d (.int .i64 0)]∧∃ j,L=q.sj j o
def Msg.bavo (m:Msg):AV := .agg [.d (.int .i64 m.ba),.d (.int .i64 m.bn),.d (.slo 4 (txsD m.txs))]
theorem copyNumbersO_ok (xs:List Int) (hm:tiny xs):ACalls Tryz.prog 26 [.d (.slo 1 (nums xs))] [] (fun av L=>av = .d (.sl 1 (nums xs))∧L=[]):=by
 have hx:=nums_length xs
 unfold tiny at hm
 (refine acalls_go ttOk zOk foOk Tryz.func26 rfl Tryz.ntmps26 rfl false rfl ?_);(conv=>whnf)
 refine loop_go ttOk zOk foOk (σ:=Nat) (fun k=>([(0,.d (.slo 1 (nums xs))),(3,.arr 0),(4,.d (.int .i64 k))],[.row 3 1 (nums (xs.take k)) false])) (fun k=>k≤xs.length) (fun k=>xs.length - k) [0,3,4] ?_ ?_
 ·conv=>whnf
  exact ⟨0,rfl,rfl,by omega⟩
 ·intro k hk
  conv=>whnf
  rw [hx]
  refine rdz ?_;repeat' ((with_reducible apply tw)<;>intro _)
  ·rename_i h
   refine Exists.elim (⟨_,List.getElem?_eq_getElem (by omega)⟩:∃ a,xs[k]? = some a) fun a ha => ?_
   have hkn:=nums_length (xs.take k)
   refine ⟨by omega,[.int .i64 a],nums_at ha,?_⟩
   conv=>whnf
   refine rdz ?_;repeat' ((with_reducible apply tw)<;>intro _)
   refine ⟨by simp [hkn];omega,?_⟩
   conv=>whnf
   refine rdz ?_;repeat' ((with_reducible apply tw)<;>intro _)
   refine ⟨k+1,rfl,?_,by omega,by omega⟩
   rw [List.take_add_one,ha,← nums_apps]
   rfl
  ·rename_i h
   rw [List.take_of_length_le (by omega)]
   exact ⟨rfl,rfl⟩
theorem copyHeaderO_ok (c:Cert) (h:c.tiny):ACalls Tryz.prog 25 [c.havo] [] (fun av L=>av=c.hav∧L=[]):=by
 (refine acalls_go ttOk zOk foOk Tryz.func25 rfl Tryz.ntmps25 rfl false rfl ?_);(conv=>whnf)
 refine (copyNumbersO_ok c.bats h.bats).mono ?_
 rintro _ _ ⟨rfl,rfl⟩
 conv=>whnf
 refine (copyNumbersO_ok c.pars h.pars).mono ?_
 rintro _ _ ⟨rfl,rfl⟩
 conv=>whnf
 exact ⟨rfl,rfl⟩
theorem copyCertO_ok (c:Cert) (h:c.tiny):ACalls Tryz.prog 66 [c.avo] [] (fun av L=>av=c.av∧L=[]):=by
 (refine acalls_go ttOk zOk foOk Tryz.func66 rfl Tryz.ntmps66 rfl false rfl ?_);(conv=>whnf)
 refine (copyHeaderO_ok c h).mono ?_
 rintro _ _ ⟨rfl,rfl⟩
 conv=>whnf
 refine (copyNumbersO_ok c.sigs h.sigs).mono ?_
 rintro _ _ ⟨rfl,rfl⟩
 conv=>whnf
 exact ⟨rfl,rfl⟩
theorem copyTxsO_ok (l:List Tx) (hl:l.length≤1099511627776):ACalls Tryz.prog 163 [.d (.slo 4 (txsD l))] [] (fun av L=>av = .d (.sl 4 (txsD l))∧L=[]):=by
 have hx:=txsD_len l
 (refine acalls_go ttOk zOk foOk Tryz.func163 rfl Tryz.ntmps163 rfl false rfl ?_);(conv=>whnf)
 refine loop_go ttOk zOk foOk (σ:=Nat) (fun j=>([(0,.d (.slo 4 (txsD l))),(3,.arr 0),(4,.d (.int .i64 j))],[.row 180 4 (txsD (l.take j)) false])) (fun j=>j≤l.length) (fun j=>l.length - j) [0,3,4] ?_ ?_
 ·conv=>whnf
  exact ⟨0,rfl,rfl,Nat.zero_le _⟩
 ·intro j hj
  have hlt:=List.length_take_le' j l
  have hxl:=txsD_len (l.take j)
  conv=>whnf
  refine rdz ?_;repeat' ((with_reducible apply tw)<;>intro _)
  ·rename_i h
   replace h:(j:Int)<((txsD l).length:Int):=h
   refine Exists.elim (⟨_,List.getElem?_eq_getElem (by omega)⟩:∃ c,l[j]? = some c) fun a ha => ?_
   refine ⟨by omega,a.cs,txsD_at ha,?_⟩
   conv=>whnf
   refine rdz ?_;repeat' ((with_reducible apply tw)<;>intro _)
   refine ⟨by show ((txsD (l.take j)).length+1) * 48≤_;omega,?_⟩
   conv=>whnf
   refine rdz ?_;repeat' ((with_reducible apply tw)<;>intro _)
   refine ⟨j+1,rfl,?_,by omega,by omega⟩
   rw [List.take_add_one,ha,show txsD (l.take j++(some a).toList)=txsD (l.take j)++[a.cs] by simp [txsD]]
   rfl
  ·rename_i h
   replace h:¬(j:Int)<((txsD l).length:Int):=h
   rw [List.take_of_length_le (by omega)]
   exact ⟨rfl,rfl⟩
theorem copyBatchO_ok (m:Msg) (hl:m.txs.length≤1099511627776):ACalls Tryz.prog 113 [m.bavo] [] (fun av L=>av=m.bav∧L=[]):=by
 (refine acalls_go ttOk zOk foOk Tryz.func113 rfl Tryz.ntmps113 rfl false rfl ?_);(conv=>whnf)
 refine rdz ?_;repeat' ((with_reducible apply tw)<;>intro _)
 (refine (copyTxsO_ok m.txs hl).mono ?_;rintro _ _ ⟨rfl,rfl⟩;(conv=>whnf))
 refine rdz ?_;repeat' ((with_reducible apply tw)<;>intro _)
 exact ⟨rfl,rfl⟩
theorem copyMsgO_ok (m:Msg) (h:m.small):ACalls Tryz.prog 57 [m.avo] [] (fun av L=>av=m.av∧L=[]):=by
 (refine acalls_go ttOk zOk foOk Tryz.func57 rfl Tryz.ntmps57 rfl false rfl ?_);(conv=>whnf)
 refine rdz ?_;repeat' ((with_reducible apply tw)<;>intro _)
 (refine (copyBatchO_ok m (by have:=h.txs;omega)).mono ?_;rintro _ _ ⟨rfl,rfl⟩;(conv=>whnf))
 refine rdz ?_;repeat' ((with_reducible apply tw)<;>intro _)
 (refine (copyHeaderO_ok m.head h.htiny).mono ?_;rintro _ _ ⟨rfl,rfl⟩;(conv=>whnf))
 refine rdz ?_;repeat' ((with_reducible apply tw)<;>intro _)
 (refine (copyCertO_ok m.cert h.ctiny).mono ?_;rintro _ _ ⟨rfl,rfl⟩;(conv=>whnf))
 refine rdz ?_;repeat' ((with_reducible apply tw)<;>intro _)
 (refine (copyNumbersO_ok m.digs (by have:=h.digs;unfold tiny;omega)).mono ?_;rintro _ _ ⟨rfl,rfl⟩;(conv=>whnf))
 refine rdz ?_;repeat' ((with_reducible apply tw)<;>intro _)
 exact ⟨rfl,rfl⟩
def Msg.acs (m:Msg) (i:Nat):List AV:=[.d (.int .i64 m.kind),.d (.int .i64 m.src),.d (.int .i64 m.dst),.d (.int .i64 m.digest),.d (.int .i64 m.ba),.d (.int .i64 m.bn),.isl i (.sl 4 (txsD m.txs)),.d (.int .i64 m.head.author),.d (.int .i64 m.head.round),.isl i (.sl 1 (nums m.head.bats)),.isl i (.sl 1 (nums m.head.pars)),.d (.int .i64 m.cert.author),.d (.int .i64 m.cert.round),.isl i (.sl 1 (nums m.cert.bats)),.isl i (.sl 1 (nums m.cert.pars)),.d (.int .i64 m.cert.digest),.isl i (.sl 1 (nums m.cert.sigs)),.isl i (.sl 1 (nums m.digs))]
def Msg.ai (m:Msg) (i:Nat):AV := .agg (m.acs i)
theorem ne_txs (l:List Tx):NoE (txsD l):=NoE_map (f:=Tx.cs) (fun _=>⟨trivial,trivial,trivial,trivial,trivial⟩) l
theorem dnE_txs (l:List Tx):DnE (txsD l) (txsD l):=DnE.map (fun _ => .cons (dn_int _) (.cons (dn_int _) (.cons (.flat (flat_str _)) (.cons (.flat (flat_str _)) .nil)))) l
theorem isl2_msg (i:Nat) (m:Msg):Isl2 i m.av (m.ai i) := .inr ⟨_,_,rfl,rfl,.cons (isl_int _) (.cons (isl_int _) (.cons (isl_int _) (.cons (isl_int _) (.cons (isl_int _) (.cons (isl_int _) (.cons (.sl (ne_txs _)) (.cons (isl_int _) (.cons (isl_int _) (.cons (.sl (ne_nums _)) (.cons (.sl (ne_nums _)) (.cons (isl_int _) (.cons (isl_int _) (.cons (.sl (ne_nums _)) (.cons (.sl (ne_nums _)) (.cons (isl_int _) (.cons (.sl (ne_nums _)) (.cons (.sl (ne_nums _)) .nil)))))))))))))))))⟩
theorem lendO_msg (L:List AB) (m:Msg):lendO2 L m.av m.avo := .inr ⟨_,_,rfl,rfl,.cons (lo_int _) (.cons (lo_int _) (.cons (lo_int _) (.cons (lo_int _) (.cons (lo_int _) (.cons (lo_int _) (.cons (lo_dn (.sl (dnE_txs _))) (.cons (lo_int _) (.cons (lo_int _) (.cons (lo_dn (dn_nums _)) (.cons (lo_dn (dn_nums _)) (.cons (lo_int _) (.cons (lo_int _) (.cons (lo_dn (dn_nums _)) (.cons (lo_dn (dn_nums _)) (.cons (lo_int _) (.cons (lo_dn (dn_nums _)) (.cons (lo_dn (dn_nums _)) .nil)))))))))))))))))⟩
theorem lo_isl {L:List AB} {i lo n:Nat} {x x':DV} (h:L[i]? = some (.isle lo n true)) (k:DnD x x'):lendO1 L (.isl i x) (.d x') := .inr ⟨i,x,x',lo,n,rfl,h,rfl,k⟩
theorem lendO_mi {L:List AB} {i lo n:Nat} (h:L[i]? = some (.isle lo n true)) (m:Msg):lendO2 L (m.ai i) m.avo := .inr ⟨_,_,rfl,rfl,.cons (lo_int _) (.cons (lo_int _) (.cons (lo_int _) (.cons (lo_int _) (.cons (lo_int _) (.cons (lo_int _) (.cons (lo_isl h (.sl (dnE_txs _))) (.cons (lo_int _) (.cons (lo_int _) (.cons (lo_isl h (dn_nums _)) (.cons (lo_isl h (dn_nums _)) (.cons (lo_int _) (.cons (lo_int _) (.cons (lo_isl h (dn_nums _)) (.cons (lo_isl h (dn_nums _)) (.cons (lo_int _) (.cons (lo_isl h (dn_nums _)) (.cons (lo_isl h (dn_nums _)) .nil)))))))))))))))))⟩
theorem lend_mi {L:List AB} {i lo n:Nat} (h:L[i]? = some (.isle lo n true)) (m:Msg):lend2 L (m.ai i) m.av := .inr ⟨_,_,rfl,rfl,lendS_c (l1_int _) (lendS_c (l1_int _) (lendS_c (l1_int _) (lendS_c (l1_int _) (lendS_c (l1_int _) (lendS_c (l1_int _) (lendS_c (l1_isl h _) (lendS_c (l1_int _) (lendS_c (l1_int _) (lendS_c (l1_isl h _) (lendS_c (l1_isl h _) (lendS_c (l1_int _) (lendS_c (l1_int _) (lendS_c (l1_isl h _) (lendS_c (l1_isl h _) (lendS_c (l1_int _) (lendS_c (l1_isl h _) (lendS_c (l1_isl h _) lendS_n)))))))))))))))))⟩
theorem lend_mv {L:List AB} (m:Msg):lend2 L m.av m.av := .inr ⟨_,_,rfl,rfl,lendS_c (l1_d _) (lendS_c (l1_d _) (lendS_c (l1_d _) (lendS_c (l1_d _) (lendS_c (l1_d _) (lendS_c (l1_d _) (lendS_c (l1_d _) (lendS_c (l1_d _) (lendS_c (l1_d _) (lendS_c (l1_d _) (lendS_c (l1_d _) (lendS_c (l1_d _) (lendS_c (l1_d _) (lendS_c (l1_d _) (lendS_c (l1_d _) (lendS_c (l1_d _) (lendS_c (l1_d _) (lendS_c (l1_d _) lendS_n)))))))))))))))))⟩
theorem copyMsgI_ok (m:Msg) (h:m.small):ACalls Tryz.prog 57 [m.av] [] (fun av L=>av=m.ai 0∧∃ lo n,L=[.isle lo n true]) :=
 acalls_isle (X:=fun av=>av=m.av) (post:=fun av=>av=m.ai 0) (.cons (lendO_msg [] m) .nil) (copyMsgO_ok m h) (by
  rintro _ rfl
  exact ⟨_,.inl (isl2_msg _ _),rfl⟩)
def outJ (q:Prim) (o:List Msg) (e:Int):AV := .tup [q.ai 1,.isl 1 (.sl 18 (msgsD o)),.d (.int .i64 e)]
theorem takeI_of {p:Prim} {m:Msg} {held:List Int} {X:AV→Prop} (h:ACalls Tryz.prog 58 [p.avo,m.avo,.d (.slo 1 (nums held))] [] (fun av L=>X av∧L=[])) {C:Prop} {q:Prim} {o:List Msg}
  (hX:∀ av,X av→(C∧av=doneAV q o)∨(¬C∧av=errAV 1)) (ho:C→∀ x∈o,x.nice) (lo n:Nat) :
  ACalls Tryz.prog 58 [p.av,m.ai 0,.d (.sl 1 (nums held))] [.isle lo n true] (fun av L=>((C∧av=outJ q o 0)∨(¬C∧av=outJ zP [] 1))∧∃ lo2 n2,L=[.isle lo n true,.isle lo2 n2 true]):=by
 refine acalls_wk (acalls_isle (X:=X) (post:=fun av=>(C∧av=outJ q o 0)∨(¬C∧av = .tup [.agg zPrim,.isl 1 (.sl 18 []),.d (.int .i64 1)])) (.cons (lendO_prim _ p) (.cons (lendO_mi rfl m) (.cons (.inl (lo_dn (dn_nums held))) .nil))) h ?_) ?_
 ·intro av hx
  rcases hX av hx with ⟨k,rfl⟩|⟨k,rfl⟩
  ·exact ⟨_,.inr ⟨_,_,rfl,rfl,.cons (isl2_prim _ _) (.cons (.inl (.sl (ne_msgs (ho k)))) (.cons (.inl (isl_int _)) .nil))⟩,.inl ⟨k,rfl⟩⟩
  ·exact ⟨_,.inr ⟨_,_,rfl,rfl,.cons (isl2_z _) (.cons (.inl (.sl trivial)) (.cons (.inl (isl_int _)) .nil))⟩,.inr ⟨k,rfl⟩⟩
 ·rintro _ _ ⟨⟨k,rfl⟩|⟨k,rfl⟩,lo2,n2,rfl⟩
  ·exact ⟨_,.inl (.inl (wk_r _)),.inl ⟨k,rfl⟩,lo2,n2,rfl⟩
  ·refine ⟨_,.inr ⟨_,_,rfl,rfl,.cons (.inr ⟨_,_,rfl,rfl,?_⟩) (.cons (.inl (wk_r _)) (.cons (.inl (wk_r _)) .nil))⟩,.inr ⟨k,rfl⟩,lo2,n2,rfl⟩
   have hw:∀ {k:Nat},0<k→Wk1 [AB.isle lo n true,AB.isle lo2 n2 true] (.d .nils) (.isl 1 (.sl k [])):=fun {k} hk => .inr ⟨1,lo2,n2,k,rfl,rfl,hk,rfl⟩
   exact .cons (wk_r _) (.cons (wk_r _) (.cons (wk_r _) (.cons (wk_r _) (.cons (wk_r _) (.cons (wk_r _) (.cons (wk_r _) (.cons (hw (by decide)) (.cons (hw (by decide)) (.cons (wk_r _) (.cons (hw (by decide)) (.cons (hw (by decide)) (.cons (wk_r _) (.cons (wk_r _) (.cons (hw (by decide)) (.cons (hw (by decide)) .nil)))))))))))))))
theorem eqTx_ok:eqOkB Tryz.prog 180 [true,true,false,false]=true:=by kernel_rfl
theorem eqTxs_same (l:List Tx) (hl:few l):ACalls Tryz.prog 170 [.d (.sl 4 (txsD l)),.d (.sl 4 (txsD l))] [] (fun av L=>av = .d (.bool true)∧L=[]):=by
 have hcl:=txsD_len l
 unfold few at hl
 (refine acalls_go ttOk zOk foOk Tryz.func170 rfl Tryz.ntmps170 rfl false rfl ?_);(conv=>whnf)
 refine rdw ?_;repeat' ((with_reducible apply tw)<;>intro _)
 ·rename_i hx;exact absurd rfl hx
 ·refine loop_go ttOk zOk foOk (σ:=Nat) (fun k=>([(0,.d (.sl 4 (txsD l))),(1,.d (.sl 4 (txsD l))),(5,.d (.int .i64 k))],[])) (fun k=>k≤l.length) (fun k=>l.length - k) [0,1,5] ?_ ?_
  ·conv=>whnf
   exact ⟨0,rfl,rfl,by omega⟩
  ·intro k hk
   conv=>whnf
   rw [hcl]
   refine rdw ?_;repeat' ((with_reducible apply tw)<;>intro _)
   ·rename_i hkl
    refine Exists.elim (⟨_,List.getElem?_eq_getElem (by omega)⟩:∃ c,l[k]? = some c) fun c hc => ?_
    ((with_reducible refine draw_pl ttOk zOk foOk mixedOk pl170x6 ?_ ?_);(focus kernel_rfl);(conv=>whnf))
    repeat' (first|(first|((with_reducible first|apply rd_intro|apply gd_and);(focus ((conv=>whnf)<;>first|rfl|(intro K hK;(conv=>whnf);first|exact hK|exact z_wrap (by omega) hK)));conv=>whnf)|((with_reducible apply z_wrap);(focus omega);conv=>whnf)|((with_reducible first|apply mt_dec|apply mt_eq|apply mt_ne|apply mt_not|apply mt_any)<;>(intro _;conv=>whnf)))|((with_reducible apply rd_intro);(focus (intro K hK;(conv=>whnf);exact ⟨by omega,c.cs,txsD_at hc,hK⟩));(conv=>whnf))|((with_reducible apply rd_intro);(focus (intro K hK;(conv=>whnf);exact ⟨eqTx_ok,hK⟩));(conv=>whnf))|fail)
    ·rename_i hb
     exfalso
     revert hb
     simp
    ·exact ⟨k+1,rfl,rfl,by omega,by omega⟩
   ·exact ⟨rfl,rfl⟩
theorem eqBatch_same (a b:Int) (l:List Tx) (hl:few l):ACalls Tryz.prog 118 [.agg [.d (.int .i64 a),.d (.int .i64 b),.d (.sl 4 (txsD l))],.agg [.d (.int .i64 a),.d (.int .i64 b),.d (.sl 4 (txsD l))]] [] (fun av L=>av = .d (.bool true)∧L=[]):=by
 have h1:=eqTxs_same l hl
 (refine acalls_go ttOk zOk foOk Tryz.func118 rfl Tryz.ntmps118 rfl false rfl ?_);(conv=>whnf)
 refine rdw ?_;repeat' ((with_reducible apply tw)<;>intro _)
 ·(refine (h1).mono ?_;rintro _ _ ⟨rfl,rfl⟩;(conv=>whnf))
  exact ⟨rfl,rfl⟩
 all_goals (rename_i hx;exact absurd rfl hx)
theorem eqMsg_self (m:Msg) (hf:m.fine):ACalls Tryz.prog 59 [m.av,m.av] [] (fun av L=>av = .d (.bool true)∧L=[]):=by
 have h1:=eqBatch_same m.ba m.bn m.txs hf.txs
 have h2:=eqHeader_same m.head hf.head
 have h3:=eqCert_same m.cert hf.cert
 have h4:=eqNumbers_ok m.digs m.digs hf.digs
 rw [decide_eq_true rfl] at h4
 (refine acalls_go ttOk zOk foOk Tryz.func59 rfl Tryz.ntmps59 rfl false rfl ?_);(conv=>whnf)
 refine rdw ?_;repeat' ((with_reducible apply tw)<;>intro _)
 ·(refine (h1).mono ?_;rintro _ _ ⟨rfl,rfl⟩;(conv=>whnf))
  refine rdw ?_;repeat' ((with_reducible apply tw)<;>intro _)
  ·(refine (h2).mono ?_;rintro _ _ ⟨rfl,rfl⟩;(conv=>whnf))
   refine rdw ?_;repeat' ((with_reducible apply tw)<;>intro _)
   ·(refine (h3).mono ?_;rintro _ _ ⟨rfl,rfl⟩;(conv=>whnf))
    refine rdw ?_;repeat' ((with_reducible apply tw)<;>intro _)
    ·(refine (h4).mono ?_;rintro _ _ ⟨rfl,rfl⟩;(conv=>whnf))
     exact ⟨rfl,rfl⟩
 all_goals (rename_i hx;exact absurd rfl hx)
theorem eqCI_ok (m:Msg) (hf:m.fine) (lo n:Nat):ACalls Tryz.prog 59 [m.ai 0,m.av] [.isle lo n true] (fun av L=>av = .d (.bool true)∧L=[.isle lo n true]) :=
 acalls_lend (flat_bool _) ⟨_,_,rfl,lend_mi rfl m,_,_,rfl,lend_mv m,rfl⟩ (eqMsg_self m hf)
attribute [local irreducible] SL
theorem isl_SLL {c:Ctx} {E:Nat→Option Nat} {L:List AB} {i lo n:Nat} {ok:Bool} {w:World} {x:DV} {v:Value} {m:Nat} (hi:L[i]? = some (.isle lo n ok)) (hf:FitS 3 m x) (h:VR (rcOf c.M0 E L w) (.isl i x) v):SL lo n w 3 m v:=by
 simp only [VR] at h
 obtain ⟨⟨ab,hab,hr⟩,_⟩:=h
 rw [hi] at hab
 cases hab
 cases ok with
 | true=>exact SL_of 3 m x v hf hr
 | false=>exact hr m hf
theorem lit_sp (m:Msg) (h:m.small) {L:List AB} {i lo n:Nat} {ok:Bool} (hi:L[i]? = some (.isle lo n ok)) (c:Ctx) (E:Nat→Option Nat) (w:World) (cur:Array Value) (hbl:∀ b,lo≤b→b<lo+n→b<w.heap.size) (hv:VRs (rcOf c.M0 E L w) (m.acs i) cur.toList) :
  Calls Tryz.prog 60 #[.slice (some ⟨w.heap.size,0,none⟩) 1 1] (w.alloc (.cells cur 49)) fun e w'=>e = .returned (.tuple #[])∧Spoil lo n w w':=by
 simp only [Msg.acs,VRs] at hv
 obtain ⟨a0,_,e,-,h0,a1,_,rfl,-,h1,a2,_,rfl,-,h2,a3,_,rfl,-,h3,a4,_,rfl,-,h4,a5,_,rfl,-,h5,a6,_,rfl,-,h6,a7,_,rfl,-,h7,a8,_,rfl,-,h8,a9,_,rfl,-,h9,a10,_,rfl,-,h10,a11,_,rfl,-,h11,a12,_,rfl,-,h12,a13,_,rfl,-,h13,a14,_,rfl,-,h14,a15,_,rfl,-,h15,a16,_,rfl,-,h16,a17,_,rfl,-,h17,rfl⟩:=hv
 have hi64:∀ {z:Int} {a:Value},VR (rcOf c.M0 E L w) (.d (.int .i64 z)) a→a = .int .i64 z:=fun {z a} hz=>by simpa only [VR,VD] using hz
 have b0:=hi64 h0
 have b1:=hi64 h1
 have b2:=hi64 h2
 have b3:=hi64 h3
 have b4:=hi64 h4
 have b5:=hi64 h5
 have b7:=hi64 h7
 have b8:=hi64 h8
 have b11:=hi64 h11
 have b12:=hi64 h12
 have b15:=hi64 h15
 subst b0 b1 b2 b3 b4 b5 b7 b8 b11 b12 b15
 have hc:cur = #[.int .i64 m.kind,.int .i64 m.src,.int .i64 m.dst,.int .i64 m.digest,.int .i64 m.ba,.int .i64 m.bn,a6,.int .i64 m.head.author,.int .i64 m.head.round,a9,a10,.int .i64 m.cert.author,.int .i64 m.cert.round,a13,a14,.int .i64 m.cert.digest,a16,a17]:=by
  rw [← Array.toArray_toList (xs:=cur),e]
 rw [hc]
 have f1:∀ {l:List Int},l.length≤3000→FitS 3 1 (.sl 1 (nums l)):=fun {l} hl=>fsI l (by omega) 2
 exact messages_lit lo n 1 w _ _ _ _ _ _ _ _ _ _ _ _ _ _ _ _ _ _ (isl_SLL hi (fsT _ (by have:=h.txs;omega) 2) h6) (isl_SLL hi (f1 h.head.1) h9) (isl_SLL hi (f1 h.head.2) h10) (isl_SLL hi (f1 h.cert.1) h13) (isl_SLL hi (f1 h.cert.2.1) h14) (isl_SLL hi (f1 h.cert.2.2) h16) (isl_SLL hi (f1 h.digs) h17) hbl
end Go.Proofs.YtolkmjfkkkiboaaGreat
namespace Go.Proofs.YtolkmjfkkkiboaaGreat
open Go.Ab Go.RowKit Go.MapKept
attribute [local irreducible] ACalls AW ADraw Into fltB fnear
set_option maxRecDepth 100000
structure TakeF (p:Prim) (m:Msg) (held:List Int) (C:Prop) (q:Prim) (o:List Msg):Prop where
 page:May p→ACalls Tryz.prog 56 [p.av,m.av,.d (.sl 1 (nums held))] [] (fun av L=>(C∧goodT q o av L)∨(¬C∧badT p 1 av L))
 prog:∀ lo n,ACalls Tryz.prog 58 [p.av,m.ai 0,.d (.sl 1 (nums held))] [.isle lo n true] (fun av L=>((C∧av=outJ q o 0)∨(¬C∧av=outJ zP [] 1))∧∃ lo2 n2,L=[.isle lo n true,.isle lo2 n2 true])
 may:C→May p
 qok:C→q.ok∧q.fitS
 nice:C→∀ x∈o,x.nice
 len:C→o.length≤100000
set_option maxHeartbeats 8000000 in
open Classical in
theorem step4_ok (p:Prim) (hok:p.ok) (ht:p.tiny) (hf:p.fitS) (hdl:p.dag.certs.length≤1000) (a:Act) (h0:a.doo=4) (had:i64 a.d) (hal:a.l.length≤1000) (has:a.m.small)
  (hT:∀ m:Msg,m.small→m.kind=a.m.kind→∃ C q o,TakeF p m a.l C q o) :
  ACalls Tryz.prog 19 [p.av,a.av] [] (fun av L=>(∃ q:Prim,av = .tup [q.av,.d (.bool true)])∧L=[]):=by
 have h1:=copyPrim_ok p ht
 have h2:=rMay20_ok p hok
 have h3:=within_ok a.doo 10 (by decide) (by decide) (by rw [h0];decide)
 have hfd:few p.dag.certs∧∀ c∈p.dag.certs,fewL c:=⟨by have:=hf.dag.1;unfold few;omega,fun c hc=>fit_few (hf.dag.2 c hc)⟩
 have hfl:few p.late∧∀ c∈p.late,fewL c:=⟨by have:=hf.late.1;unfold few;omega,fun c hc=>fit_few (hf.late.2 c hc)⟩
 have hv:few p.votes:=by have:=hf.votes;unfold few;omega
 have ha:few p.acks:=by have:=hf.acks;unfold few;omega
 have hmm:few p.mine.bats∧few p.mine.pars:=⟨by have:=hf.bats;unfold few;omega,by have:=hf.pars;unfold few;omega⟩
 have h6:=eqPrim_same p hok hfd hfl hv ha hmm
 have hfit:=fitK_ok p hok hdl a has had
 have hcn:=copyNumbers_ok a.l (by unfold tiny;omega)
 rw [show a.doo % 18446744073709551616 % 10=4 by rw [h0];decide] at h3
 refine acalls_cut ttOk zOk foOk 8 Tryz.func19 rfl Tryz.ntmps19 rfl false rfl ?_
 conv=>whnf
 refine h1.mono ?_
 rintro _ _ ⟨rfl,rfl⟩
 conv=>whnf
 refine rdw ?_;repeat' ((with_reducible apply tw)<;>intro _)
 refine h2.mono ?_
 rintro _ _ ⟨rfl,rfl⟩
 obtain ⟨b,hb⟩:∃ b,decide (May p)=b:=⟨_,rfl⟩
 rw [hb]
 conv=>whnf
 refine rdw ?_;repeat' ((with_reducible apply tw)<;>intro _)
 (refine (h3).mono ?_;rintro _ _ ⟨rfl,rfl⟩;(conv=>whnf))
 refine rdw ?_;repeat' ((with_reducible apply tw)<;>intro _)
 refine aw_seq (aw_seq (AW_go ttOk zOk foOk ?_))
 conv=>whnf
 refine ⟨rfl,?_⟩
 refine aw_block (aw_seqr (AW_go ttOk zOk foOk ?_))
 conv=>whnf
 refine rdw ?_;repeat' ((with_reducible apply tw)<;>intro _)
 refine aw_cond ?_
 conv=>whnf
 refine aw_seqr (AW_go ttOk zOk foOk ?_)
 conv=>whnf
 refine aw_cond ?_
 conv=>whnf
 refine aw_seqr (AW_go ttOk zOk foOk ?_)
 conv=>whnf
 refine aw_cond ?_
 conv=>whnf
 refine aw_seqr (AW_go ttOk zOk foOk ?_)
 conv=>whnf
 refine rdw ?_;repeat' ((with_reducible apply tw)<;>intro _)
 refine hfit.mono ?_
 rintro _ _ ⟨⟨m,rfl,hms,hmk⟩,rfl⟩
 obtain ⟨C,q,o,hF⟩:=hT m hms hmk
 obtain ⟨hcm⟩:Nonempty (ACalls Tryz.prog 57 [m.av] [] (fun av L=>av=m.ai 0∧∃ lo n,L=[.isle lo n true])):=⟨copyMsgI_ok m hms⟩
 conv=>whnf
 refine rdw ?_;repeat' ((with_reducible apply tw)<;>intro _)
 cases b with
 | false =>
   have hC:¬C:=fun h=>of_decide_eq_false hb (hF.may h)
   refine aw_seqr (AW_go ttOk zOk foOk ?_)
   conv=>whnf
   refine aw_seqr (AW_go ttOk zOk foOk ?_)
   conv=>whnf
   refine rdw ?_;repeat' ((with_reducible apply tw)<;>intro _)
   refine hcm.mono ?_
   rintro _ _ ⟨rfl,lo,n,rfl⟩
   conv=>whnf
   refine rdw ?_;repeat' ((with_reducible apply tw)<;>intro _)
   refine aw_seqr (AW_go ttOk zOk foOk ?_)
   conv=>whnf
   ((with_reducible refine draw_pl ttOk zOk foOk mixedOk pl19x13 ?_ ?_);(focus kernel_rfl);(conv=>whnf))
   refine rdw ?_;repeat' ((with_reducible apply tw)<;>intro _)
   (refine (hcn).mono ?_;rintro _ _ ⟨rfl,rfl⟩;(conv=>whnf))
   refine rdw ?_;repeat' ((with_reducible apply tw)<;>intro _)
   refine (hF.prog lo n).mono ?_
   rintro _ _ ⟨⟨hyes,_⟩|⟨_,rfl⟩,lo2,n2,rfl⟩
   ·exact absurd hyes hC
   conv=>whnf
   refine rdw ?_;repeat' ((with_reducible apply tw)<;>intro _)
   refine aw_seqr (AW_go ttOk zOk foOk ?_)
   conv=>whnf
   refine rdw ?_;repeat' ((with_reducible apply tw)<;>intro _)
   refine (eqCI_ok m hms.fine lo n).mono ?_
   rintro _ _ ⟨rfl,rfl⟩
   conv=>whnf
   first
    | refine aw_lit ttOk zOk foOk (i:=12) (lo:=lo) (m:=n) (ok:=true) (mav:=m.acs 12) rfl rfl rfl rfl rfl rfl (by decide) rfl (by decide) rfl (by decide) (by (conv=>whnf);exact ⟨rfl,rfl⟩) rfl rfl rfl rfl rfl rfl rfl (by decide) (by decide) rfl (by (conv=>whnf);rfl) (fun c E w cur hbl hv=>lit_sp m hms rfl c E w cur hbl hv) ?_
    | refine aw_lit ttOk zOk foOk (i:=13) (lo:=lo) (m:=n) (ok:=true) (mav:=m.acs 13) rfl rfl rfl rfl rfl rfl (by decide) rfl (by decide) rfl (by decide) (by (conv=>whnf);exact ⟨rfl,rfl⟩) rfl rfl rfl rfl rfl rfl rfl (by decide) (by decide) rfl (by (conv=>whnf);rfl) (fun c E w cur hbl hv=>lit_sp m hms rfl c E w cur hbl hv) ?_
    | refine aw_lit ttOk zOk foOk (i:=14) (lo:=lo) (m:=n) (ok:=true) (mav:=m.acs 14) rfl rfl rfl rfl rfl rfl (by decide) rfl (by decide) rfl (by decide) (by (conv=>whnf);exact ⟨rfl,rfl⟩) rfl rfl rfl rfl rfl rfl rfl (by decide) (by decide) rfl (by (conv=>whnf);rfl) (fun c E w cur hbl hv=>lit_sp m hms rfl c E w cur hbl hv) ?_
    | refine aw_lit ttOk zOk foOk (i:=15) (lo:=lo) (m:=n) (ok:=true) (mav:=m.acs 15) rfl rfl rfl rfl rfl rfl (by decide) rfl (by decide) rfl (by decide) (by (conv=>whnf);exact ⟨rfl,rfl⟩) rfl rfl rfl rfl rfl rfl rfl (by decide) (by decide) rfl (by (conv=>whnf);rfl) (fun c E w cur hbl hv=>lit_sp m hms rfl c E w cur hbl hv) ?_
    | refine aw_lit ttOk zOk foOk (i:=16) (lo:=lo) (m:=n) (ok:=true) (mav:=m.acs 16) rfl rfl rfl rfl rfl rfl (by decide) rfl (by decide) rfl (by decide) (by (conv=>whnf);exact ⟨rfl,rfl⟩) rfl rfl rfl rfl rfl rfl rfl (by decide) (by decide) rfl (by (conv=>whnf);rfl) (fun c E w cur hbl hv=>lit_sp m hms rfl c E w cur hbl hv) ?_
    | refine aw_lit ttOk zOk foOk (i:=17) (lo:=lo) (m:=n) (ok:=true) (mav:=m.acs 17) rfl rfl rfl rfl rfl rfl (by decide) rfl (by decide) rfl (by decide) (by (conv=>whnf);exact ⟨rfl,rfl⟩) rfl rfl rfl rfl rfl rfl rfl (by decide) (by decide) rfl (by (conv=>whnf);rfl) (fun c E w cur hbl hv=>lit_sp m hms rfl c E w cur hbl hv) ?_
    | refine aw_lit ttOk zOk foOk (i:=18) (lo:=lo) (m:=n) (ok:=true) (mav:=m.acs 18) rfl rfl rfl rfl rfl rfl (by decide) rfl (by decide) rfl (by decide) (by (conv=>whnf);exact ⟨rfl,rfl⟩) rfl rfl rfl rfl rfl rfl rfl (by decide) (by decide) rfl (by (conv=>whnf);rfl) (fun c E w cur hbl hv=>lit_sp m hms rfl c E w cur hbl hv) ?_
    | refine aw_lit ttOk zOk foOk (i:=19) (lo:=lo) (m:=n) (ok:=true) (mav:=m.acs 19) rfl rfl rfl rfl rfl rfl (by decide) rfl (by decide) rfl (by decide) (by (conv=>whnf);exact ⟨rfl,rfl⟩) rfl rfl rfl rfl rfl rfl rfl (by decide) (by decide) rfl (by (conv=>whnf);rfl) (fun c E w cur hbl hv=>lit_sp m hms rfl c E w cur hbl hv) ?_
    | refine aw_lit ttOk zOk foOk (i:=20) (lo:=lo) (m:=n) (ok:=true) (mav:=m.acs 20) rfl rfl rfl rfl rfl rfl (by decide) rfl (by decide) rfl (by decide) (by (conv=>whnf);exact ⟨rfl,rfl⟩) rfl rfl rfl rfl rfl rfl rfl (by decide) (by decide) rfl (by (conv=>whnf);rfl) (fun c E w cur hbl hv=>lit_sp m hms rfl c E w cur hbl hv) ?_
    | refine aw_lit ttOk zOk foOk (i:=21) (lo:=lo) (m:=n) (ok:=true) (mav:=m.acs 21) rfl rfl rfl rfl rfl rfl (by decide) rfl (by decide) rfl (by decide) (by (conv=>whnf);exact ⟨rfl,rfl⟩) rfl rfl rfl rfl rfl rfl rfl (by decide) (by decide) rfl (by (conv=>whnf);rfl) (fun c E w cur hbl hv=>lit_sp m hms rfl c E w cur hbl hv) ?_
    | refine aw_lit ttOk zOk foOk (i:=22) (lo:=lo) (m:=n) (ok:=true) (mav:=m.acs 22) rfl rfl rfl rfl rfl rfl (by decide) rfl (by decide) rfl (by decide) (by (conv=>whnf);exact ⟨rfl,rfl⟩) rfl rfl rfl rfl rfl rfl rfl (by decide) (by decide) rfl (by (conv=>whnf);rfl) (fun c E w cur hbl hv=>lit_sp m hms rfl c E w cur hbl hv) ?_
    | refine aw_lit ttOk zOk foOk (i:=23) (lo:=lo) (m:=n) (ok:=true) (mav:=m.acs 23) rfl rfl rfl rfl rfl rfl (by decide) rfl (by decide) rfl (by decide) (by (conv=>whnf);exact ⟨rfl,rfl⟩) rfl rfl rfl rfl rfl rfl rfl (by decide) (by decide) rfl (by (conv=>whnf);rfl) (fun c E w cur hbl hv=>lit_sp m hms rfl c E w cur hbl hv) ?_
    | fail
   refine ⟨rfl,AW_go ttOk zOk foOk ?_⟩
   conv=>whnf
   refine rdw ?_;repeat' ((with_reducible apply tw)<;>intro _)
   ((with_reducible refine draw_pl ttOk zOk foOk mixedOk pl19x54 ?_ ?_);(focus kernel_rfl);(conv=>whnf))
   refine rdw ?_;repeat' ((with_reducible apply tw)<;>intro _)
   (refine (num20_ok 1).mono ?_;rintro _ _ ⟨rfl,rfl⟩;(conv=>whnf))
   refine rdw ?_;repeat' ((with_reducible apply tw)<;>intro _)
   (refine (eqPZ_ok lo2 n2).mono ?_;rintro _ _ ⟨rfl,rfl⟩;(conv=>whnf))
   refine rdw ?_;repeat' ((with_reducible apply tw)<;>intro _)
   (refine Or.inr ?_;(conv=>whnf))
   (refine (eqMI_ok [] (Nat.zero_le _) (fun _ h=>by cases h) lo2 n2).mono ?_;rintro _ _ ⟨rfl,rfl⟩;(conv=>whnf))
   refine rdw ?_;repeat' ((with_reducible apply tw)<;>intro _)
   (refine (h6).mono ?_;rintro _ _ ⟨rfl,rfl⟩;(conv=>whnf))
   refine rdw ?_;repeat' ((with_reducible apply tw)<;>intro _)
   (refine (spoilP_ok zP zP_fit lo2 n2 true).mono ?_;rintro _ _ ⟨rfl,rfl⟩;(conv=>whnf))
   refine rdw ?_;repeat' ((with_reducible apply tw)<;>intro _)
   (refine (spoilM_ok [] (Nat.zero_le _) (fun _ h=>by cases h) lo2 n2 false).mono ?_;rintro _ _ ⟨rfl,rfl⟩;(conv=>whnf))
   refine rdw ?_;repeat' ((with_reducible apply tw)<;>intro _)
   ((with_reducible refine draw_pl ttOk zOk foOk mixedOk pl19x58 ?_ ?_);(focus kernel_rfl);(conv=>whnf))
   repeat' (first|(first|((with_reducible first|apply rd_intro|apply gd_and);(focus ((conv=>whnf)<;>first|rfl|(intro K hK;(conv=>whnf);first|exact hK|exact z_wrap (by omega) hK)));conv=>whnf)|((with_reducible apply z_wrap);(focus omega);conv=>whnf)|((with_reducible first|apply mt_dec|apply mt_eq|apply mt_ne|apply mt_not|apply mt_any)<;>(intro _;conv=>whnf)))|((with_reducible apply rd_intro);(focus (intro K hK;(conv=>whnf);refine h6.mono ?_;rintro _ _ ⟨rfl,rfl⟩;(conv=>whnf);exact hK));(conv=>whnf))|((with_reducible apply gd_and);(focus ((conv=>whnf);intro K hK;(conv=>whnf);refine h6.mono ?_;rintro _ _ ⟨rfl,rfl⟩;(conv=>whnf);exact hK));(conv=>whnf))|(refine (h6).mono ?_;rintro _ _ ⟨rfl,rfl⟩;(conv=>whnf))|fail)
   exact ⟨.inl rfl,⟨p,rfl⟩,rfl⟩
 | true =>
   have k1:May p:=of_decide_eq_true hb
   refine aw_seqr (AW_go ttOk zOk foOk ?_)
   conv=>whnf
   refine rdw ?_;repeat' ((with_reducible apply tw)<;>intro _)
   refine (hF.page k1).mono ?_
   rintro _ _ (⟨hC,rfl,j,rfl⟩|⟨hC,rfl,rfl⟩)
   ·obtain ⟨q1,q2⟩:=hF.qok hC
    cases j
    ·conv=>whnf
     refine aw_seqr (AW_go ttOk zOk foOk ?_)
     conv=>whnf
     refine rdw ?_;repeat' ((with_reducible apply tw)<;>intro _)
     refine hcm.mono ?_
     rintro _ _ ⟨rfl,lo,n,rfl⟩
     conv=>whnf
     refine rdw ?_;repeat' ((with_reducible apply tw)<;>intro _)
     refine aw_seqr (AW_go ttOk zOk foOk ?_)
     conv=>whnf
     ((with_reducible refine draw_pl ttOk zOk foOk mixedOk pl19x13 ?_ ?_);(focus kernel_rfl);(conv=>whnf))
     refine rdw ?_;repeat' ((with_reducible apply tw)<;>intro _)
     (refine (hcn).mono ?_;rintro _ _ ⟨rfl,rfl⟩;(conv=>whnf))
     refine rdw ?_;repeat' ((with_reducible apply tw)<;>intro _)
     refine (hF.prog lo n).mono ?_
     rintro _ _ ⟨⟨_,rfl⟩|⟨hno,_⟩,lo2,n2,rfl⟩
     rotate_left
     ·exact absurd hC hno
     conv=>whnf
     refine rdw ?_;repeat' ((with_reducible apply tw)<;>intro _)
     refine aw_seqr (AW_go ttOk zOk foOk ?_)
     conv=>whnf
     refine rdw ?_;repeat' ((with_reducible apply tw)<;>intro _)
     refine (eqCI_ok m hms.fine lo n).mono ?_
     rintro _ _ ⟨rfl,rfl⟩
     conv=>whnf
     first
      | refine aw_lit ttOk zOk foOk (i:=12) (lo:=lo) (m:=n) (ok:=true) (mav:=m.acs 12) rfl rfl rfl rfl rfl rfl (by decide) rfl (by decide) rfl (by decide) (by (conv=>whnf);exact ⟨rfl,rfl⟩) rfl rfl rfl rfl rfl rfl rfl (by decide) (by decide) rfl (by (conv=>whnf);rfl) (fun c E w cur hbl hv=>lit_sp m hms rfl c E w cur hbl hv) ?_
      | refine aw_lit ttOk zOk foOk (i:=13) (lo:=lo) (m:=n) (ok:=true) (mav:=m.acs 13) rfl rfl rfl rfl rfl rfl (by decide) rfl (by decide) rfl (by decide) (by (conv=>whnf);exact ⟨rfl,rfl⟩) rfl rfl rfl rfl rfl rfl rfl (by decide) (by decide) rfl (by (conv=>whnf);rfl) (fun c E w cur hbl hv=>lit_sp m hms rfl c E w cur hbl hv) ?_
      | refine aw_lit ttOk zOk foOk (i:=14) (lo:=lo) (m:=n) (ok:=true) (mav:=m.acs 14) rfl rfl rfl rfl rfl rfl (by decide) rfl (by decide) rfl (by decide) (by (conv=>whnf);exact ⟨rfl,rfl⟩) rfl rfl rfl rfl rfl rfl rfl (by decide) (by decide) rfl (by (conv=>whnf);rfl) (fun c E w cur hbl hv=>lit_sp m hms rfl c E w cur hbl hv) ?_
      | refine aw_lit ttOk zOk foOk (i:=15) (lo:=lo) (m:=n) (ok:=true) (mav:=m.acs 15) rfl rfl rfl rfl rfl rfl (by decide) rfl (by decide) rfl (by decide) (by (conv=>whnf);exact ⟨rfl,rfl⟩) rfl rfl rfl rfl rfl rfl rfl (by decide) (by decide) rfl (by (conv=>whnf);rfl) (fun c E w cur hbl hv=>lit_sp m hms rfl c E w cur hbl hv) ?_
      | refine aw_lit ttOk zOk foOk (i:=16) (lo:=lo) (m:=n) (ok:=true) (mav:=m.acs 16) rfl rfl rfl rfl rfl rfl (by decide) rfl (by decide) rfl (by decide) (by (conv=>whnf);exact ⟨rfl,rfl⟩) rfl rfl rfl rfl rfl rfl rfl (by decide) (by decide) rfl (by (conv=>whnf);rfl) (fun c E w cur hbl hv=>lit_sp m hms rfl c E w cur hbl hv) ?_
      | refine aw_lit ttOk zOk foOk (i:=17) (lo:=lo) (m:=n) (ok:=true) (mav:=m.acs 17) rfl rfl rfl rfl rfl rfl (by decide) rfl (by decide) rfl (by decide) (by (conv=>whnf);exact ⟨rfl,rfl⟩) rfl rfl rfl rfl rfl rfl rfl (by decide) (by decide) rfl (by (conv=>whnf);rfl) (fun c E w cur hbl hv=>lit_sp m hms rfl c E w cur hbl hv) ?_
      | refine aw_lit ttOk zOk foOk (i:=18) (lo:=lo) (m:=n) (ok:=true) (mav:=m.acs 18) rfl rfl rfl rfl rfl rfl (by decide) rfl (by decide) rfl (by decide) (by (conv=>whnf);exact ⟨rfl,rfl⟩) rfl rfl rfl rfl rfl rfl rfl (by decide) (by decide) rfl (by (conv=>whnf);rfl) (fun c E w cur hbl hv=>lit_sp m hms rfl c E w cur hbl hv) ?_
      | refine aw_lit ttOk zOk foOk (i:=19) (lo:=lo) (m:=n) (ok:=true) (mav:=m.acs 19) rfl rfl rfl rfl rfl rfl (by decide) rfl (by decide) rfl (by decide) (by (conv=>whnf);exact ⟨rfl,rfl⟩) rfl rfl rfl rfl rfl rfl rfl (by decide) (by decide) rfl (by (conv=>whnf);rfl) (fun c E w cur hbl hv=>lit_sp m hms rfl c E w cur hbl hv) ?_
      | refine aw_lit ttOk zOk foOk (i:=20) (lo:=lo) (m:=n) (ok:=true) (mav:=m.acs 20) rfl rfl rfl rfl rfl rfl (by decide) rfl (by decide) rfl (by decide) (by (conv=>whnf);exact ⟨rfl,rfl⟩) rfl rfl rfl rfl rfl rfl rfl (by decide) (by decide) rfl (by (conv=>whnf);rfl) (fun c E w cur hbl hv=>lit_sp m hms rfl c E w cur hbl hv) ?_
      | refine aw_lit ttOk zOk foOk (i:=21) (lo:=lo) (m:=n) (ok:=true) (mav:=m.acs 21) rfl rfl rfl rfl rfl rfl (by decide) rfl (by decide) rfl (by decide) (by (conv=>whnf);exact ⟨rfl,rfl⟩) rfl rfl rfl rfl rfl rfl rfl (by decide) (by decide) rfl (by (conv=>whnf);rfl) (fun c E w cur hbl hv=>lit_sp m hms rfl c E w cur hbl hv) ?_
      | refine aw_lit ttOk zOk foOk (i:=22) (lo:=lo) (m:=n) (ok:=true) (mav:=m.acs 22) rfl rfl rfl rfl rfl rfl (by decide) rfl (by decide) rfl (by decide) (by (conv=>whnf);exact ⟨rfl,rfl⟩) rfl rfl rfl rfl rfl rfl rfl (by decide) (by decide) rfl (by (conv=>whnf);rfl) (fun c E w cur hbl hv=>lit_sp m hms rfl c E w cur hbl hv) ?_
      | refine aw_lit ttOk zOk foOk (i:=23) (lo:=lo) (m:=n) (ok:=true) (mav:=m.acs 23) rfl rfl rfl rfl rfl rfl (by decide) rfl (by decide) rfl (by decide) (by (conv=>whnf);exact ⟨rfl,rfl⟩) rfl rfl rfl rfl rfl rfl rfl (by decide) (by decide) rfl (by (conv=>whnf);rfl) (fun c E w cur hbl hv=>lit_sp m hms rfl c E w cur hbl hv) ?_
      | fail
     refine ⟨rfl,AW_go ttOk zOk foOk ?_⟩
     conv=>whnf
     refine rdw ?_;repeat' ((with_reducible apply tw)<;>intro _)
     ((with_reducible refine draw_pl ttOk zOk foOk mixedOk pl19x54 ?_ ?_);(focus kernel_rfl);(conv=>whnf))
     refine rdw ?_;repeat' ((with_reducible apply tw)<;>intro _)
     (refine (num20_ok 0).mono ?_;rintro _ _ ⟨rfl,rfl⟩;(conv=>whnf))
     refine rdw ?_;repeat' ((with_reducible apply tw)<;>intro _)
     (refine (eqPI_ok q q1 ⟨by have:=q2.dag.1;unfold few;omega,fun c hc=>fit_few (q2.dag.2 c hc)⟩ ⟨by have:=q2.late.1;unfold few;omega,fun c hc=>fit_few (q2.late.2 c hc)⟩ (by have:=q2.votes;unfold few;omega) (by have:=q2.acks;unfold few;omega) ⟨by have:=q2.bats;unfold few;omega,by have:=q2.pars;unfold few;omega⟩ lo2 n2).mono ?_;rintro _ _ ⟨rfl,rfl⟩;(conv=>whnf))
     refine rdw ?_;repeat' ((with_reducible apply tw)<;>intro _)
     (refine Or.inr ?_;(conv=>whnf))
     (refine (eqMI_ok o (by have:=hF.len hC;unfold few;omega) (hF.nice hC) lo2 n2).mono ?_;rintro _ _ ⟨rfl,rfl⟩;(conv=>whnf))
     refine rdw ?_;repeat' ((with_reducible apply tw)<;>intro _)
     (refine (h6).mono ?_;rintro _ _ ⟨rfl,rfl⟩;(conv=>whnf))
     refine rdw ?_;repeat' ((with_reducible apply tw)<;>intro _)
     (refine (spoilP_ok q q2 lo2 n2 true).mono ?_;rintro _ _ ⟨rfl,rfl⟩;(conv=>whnf))
     refine rdw ?_;repeat' ((with_reducible apply tw)<;>intro _)
     (refine (spoilM_ok o (by have:=hF.len hC;omega) (fun m hm=>(hF.nice hC m hm).fit) lo2 n2 false).mono ?_;rintro _ _ ⟨rfl,rfl⟩;(conv=>whnf))
     refine rdw ?_;repeat' ((with_reducible apply tw)<;>intro _)
     ((with_reducible refine draw_pl ttOk zOk foOk mixedOk pl19x59 ?_ ?_);(focus kernel_rfl);(conv=>whnf))
     repeat' (first|(first|((with_reducible first|apply rd_intro|apply gd_and);(focus ((conv=>whnf)<;>first|rfl|(intro K hK;(conv=>whnf);first|exact hK|exact z_wrap (by omega) hK)));conv=>whnf)|((with_reducible apply z_wrap);(focus omega);conv=>whnf)|((with_reducible first|apply mt_dec|apply mt_eq|apply mt_ne|apply mt_not|apply mt_any)<;>(intro _;conv=>whnf)))|((with_reducible apply rd_intro);(focus (intro K hK;(conv=>whnf);refine h6.mono ?_;rintro _ _ ⟨rfl,rfl⟩;(conv=>whnf);exact hK));(conv=>whnf))|((with_reducible apply gd_and);(focus ((conv=>whnf);intro K hK;(conv=>whnf);refine h6.mono ?_;rintro _ _ ⟨rfl,rfl⟩;(conv=>whnf);exact hK));(conv=>whnf))|(refine (h6).mono ?_;rintro _ _ ⟨rfl,rfl⟩;(conv=>whnf))|fail)
     exact ⟨.inl rfl,⟨q,rfl⟩,rfl⟩
    ·conv=>whnf
     refine aw_seqr (AW_go ttOk zOk foOk ?_)
     conv=>whnf
     refine rdw ?_;repeat' ((with_reducible apply tw)<;>intro _)
     refine hcm.mono ?_
     rintro _ _ ⟨rfl,lo,n,rfl⟩
     conv=>whnf
     refine rdw ?_;repeat' ((with_reducible apply tw)<;>intro _)
     refine aw_seqr (AW_go ttOk zOk foOk ?_)
     conv=>whnf
     ((with_reducible refine draw_pl ttOk zOk foOk mixedOk pl19x13 ?_ ?_);(focus kernel_rfl);(conv=>whnf))
     refine rdw ?_;repeat' ((with_reducible apply tw)<;>intro _)
     (refine (hcn).mono ?_;rintro _ _ ⟨rfl,rfl⟩;(conv=>whnf))
     refine rdw ?_;repeat' ((with_reducible apply tw)<;>intro _)
     refine (hF.prog lo n).mono ?_
     rintro _ _ ⟨⟨_,rfl⟩|⟨hno,_⟩,lo2,n2,rfl⟩
     rotate_left
     ·exact absurd hC hno
     conv=>whnf
     refine rdw ?_;repeat' ((with_reducible apply tw)<;>intro _)
     refine aw_seqr (AW_go ttOk zOk foOk ?_)
     conv=>whnf
     refine rdw ?_;repeat' ((with_reducible apply tw)<;>intro _)
     refine (eqCI_ok m hms.fine lo n).mono ?_
     rintro _ _ ⟨rfl,rfl⟩
     conv=>whnf
     first
      | refine aw_lit ttOk zOk foOk (i:=12) (lo:=lo) (m:=n) (ok:=true) (mav:=m.acs 12) rfl rfl rfl rfl rfl rfl (by decide) rfl (by decide) rfl (by decide) (by (conv=>whnf);exact ⟨rfl,rfl⟩) rfl rfl rfl rfl rfl rfl rfl (by decide) (by decide) rfl (by (conv=>whnf);rfl) (fun c E w cur hbl hv=>lit_sp m hms rfl c E w cur hbl hv) ?_
      | refine aw_lit ttOk zOk foOk (i:=13) (lo:=lo) (m:=n) (ok:=true) (mav:=m.acs 13) rfl rfl rfl rfl rfl rfl (by decide) rfl (by decide) rfl (by decide) (by (conv=>whnf);exact ⟨rfl,rfl⟩) rfl rfl rfl rfl rfl rfl rfl (by decide) (by decide) rfl (by (conv=>whnf);rfl) (fun c E w cur hbl hv=>lit_sp m hms rfl c E w cur hbl hv) ?_
      | refine aw_lit ttOk zOk foOk (i:=14) (lo:=lo) (m:=n) (ok:=true) (mav:=m.acs 14) rfl rfl rfl rfl rfl rfl (by decide) rfl (by decide) rfl (by decide) (by (conv=>whnf);exact ⟨rfl,rfl⟩) rfl rfl rfl rfl rfl rfl rfl (by decide) (by decide) rfl (by (conv=>whnf);rfl) (fun c E w cur hbl hv=>lit_sp m hms rfl c E w cur hbl hv) ?_
      | refine aw_lit ttOk zOk foOk (i:=15) (lo:=lo) (m:=n) (ok:=true) (mav:=m.acs 15) rfl rfl rfl rfl rfl rfl (by decide) rfl (by decide) rfl (by decide) (by (conv=>whnf);exact ⟨rfl,rfl⟩) rfl rfl rfl rfl rfl rfl rfl (by decide) (by decide) rfl (by (conv=>whnf);rfl) (fun c E w cur hbl hv=>lit_sp m hms rfl c E w cur hbl hv) ?_
      | refine aw_lit ttOk zOk foOk (i:=16) (lo:=lo) (m:=n) (ok:=true) (mav:=m.acs 16) rfl rfl rfl rfl rfl rfl (by decide) rfl (by decide) rfl (by decide) (by (conv=>whnf);exact ⟨rfl,rfl⟩) rfl rfl rfl rfl rfl rfl rfl (by decide) (by decide) rfl (by (conv=>whnf);rfl) (fun c E w cur hbl hv=>lit_sp m hms rfl c E w cur hbl hv) ?_
      | refine aw_lit ttOk zOk foOk (i:=17) (lo:=lo) (m:=n) (ok:=true) (mav:=m.acs 17) rfl rfl rfl rfl rfl rfl (by decide) rfl (by decide) rfl (by decide) (by (conv=>whnf);exact ⟨rfl,rfl⟩) rfl rfl rfl rfl rfl rfl rfl (by decide) (by decide) rfl (by (conv=>whnf);rfl) (fun c E w cur hbl hv=>lit_sp m hms rfl c E w cur hbl hv) ?_
      | refine aw_lit ttOk zOk foOk (i:=18) (lo:=lo) (m:=n) (ok:=true) (mav:=m.acs 18) rfl rfl rfl rfl rfl rfl (by decide) rfl (by decide) rfl (by decide) (by (conv=>whnf);exact ⟨rfl,rfl⟩) rfl rfl rfl rfl rfl rfl rfl (by decide) (by decide) rfl (by (conv=>whnf);rfl) (fun c E w cur hbl hv=>lit_sp m hms rfl c E w cur hbl hv) ?_
      | refine aw_lit ttOk zOk foOk (i:=19) (lo:=lo) (m:=n) (ok:=true) (mav:=m.acs 19) rfl rfl rfl rfl rfl rfl (by decide) rfl (by decide) rfl (by decide) (by (conv=>whnf);exact ⟨rfl,rfl⟩) rfl rfl rfl rfl rfl rfl rfl (by decide) (by decide) rfl (by (conv=>whnf);rfl) (fun c E w cur hbl hv=>lit_sp m hms rfl c E w cur hbl hv) ?_
      | refine aw_lit ttOk zOk foOk (i:=20) (lo:=lo) (m:=n) (ok:=true) (mav:=m.acs 20) rfl rfl rfl rfl rfl rfl (by decide) rfl (by decide) rfl (by decide) (by (conv=>whnf);exact ⟨rfl,rfl⟩) rfl rfl rfl rfl rfl rfl rfl (by decide) (by decide) rfl (by (conv=>whnf);rfl) (fun c E w cur hbl hv=>lit_sp m hms rfl c E w cur hbl hv) ?_
      | refine aw_lit ttOk zOk foOk (i:=21) (lo:=lo) (m:=n) (ok:=true) (mav:=m.acs 21) rfl rfl rfl rfl rfl rfl (by decide) rfl (by decide) rfl (by decide) (by (conv=>whnf);exact ⟨rfl,rfl⟩) rfl rfl rfl rfl rfl rfl rfl (by decide) (by decide) rfl (by (conv=>whnf);rfl) (fun c E w cur hbl hv=>lit_sp m hms rfl c E w cur hbl hv) ?_
      | refine aw_lit ttOk zOk foOk (i:=22) (lo:=lo) (m:=n) (ok:=true) (mav:=m.acs 22) rfl rfl rfl rfl rfl rfl (by decide) rfl (by decide) rfl (by decide) (by (conv=>whnf);exact ⟨rfl,rfl⟩) rfl rfl rfl rfl rfl rfl rfl (by decide) (by decide) rfl (by (conv=>whnf);rfl) (fun c E w cur hbl hv=>lit_sp m hms rfl c E w cur hbl hv) ?_
      | refine aw_lit ttOk zOk foOk (i:=23) (lo:=lo) (m:=n) (ok:=true) (mav:=m.acs 23) rfl rfl rfl rfl rfl rfl (by decide) rfl (by decide) rfl (by decide) (by (conv=>whnf);exact ⟨rfl,rfl⟩) rfl rfl rfl rfl rfl rfl rfl (by decide) (by decide) rfl (by (conv=>whnf);rfl) (fun c E w cur hbl hv=>lit_sp m hms rfl c E w cur hbl hv) ?_
      | fail
     refine ⟨rfl,AW_go ttOk zOk foOk ?_⟩
     conv=>whnf
     refine rdw ?_;repeat' ((with_reducible apply tw)<;>intro _)
     ((with_reducible refine draw_pl ttOk zOk foOk mixedOk pl19x54 ?_ ?_);(focus kernel_rfl);(conv=>whnf))
     refine rdw ?_;repeat' ((with_reducible apply tw)<;>intro _)
     (refine (num20_ok 0).mono ?_;rintro _ _ ⟨rfl,rfl⟩;(conv=>whnf))
     refine rdw ?_;repeat' ((with_reducible apply tw)<;>intro _)
     (refine (eqPI_ok q q1 ⟨by have:=q2.dag.1;unfold few;omega,fun c hc=>fit_few (q2.dag.2 c hc)⟩ ⟨by have:=q2.late.1;unfold few;omega,fun c hc=>fit_few (q2.late.2 c hc)⟩ (by have:=q2.votes;unfold few;omega) (by have:=q2.acks;unfold few;omega) ⟨by have:=q2.bats;unfold few;omega,by have:=q2.pars;unfold few;omega⟩ lo2 n2).mono ?_;rintro _ _ ⟨rfl,rfl⟩;(conv=>whnf))
     refine rdw ?_;repeat' ((with_reducible apply tw)<;>intro _)
     (refine Or.inr ?_;(conv=>whnf))
     (refine (eqMI_ok o (by have:=hF.len hC;unfold few;omega) (hF.nice hC) lo2 n2).mono ?_;rintro _ _ ⟨rfl,rfl⟩;(conv=>whnf))
     refine rdw ?_;repeat' ((with_reducible apply tw)<;>intro _)
     (refine (h6).mono ?_;rintro _ _ ⟨rfl,rfl⟩;(conv=>whnf))
     refine rdw ?_;repeat' ((with_reducible apply tw)<;>intro _)
     (refine (spoilP_ok q q2 lo2 n2 true).mono ?_;rintro _ _ ⟨rfl,rfl⟩;(conv=>whnf))
     refine rdw ?_;repeat' ((with_reducible apply tw)<;>intro _)
     (refine (spoilM_ok o (by have:=hF.len hC;omega) (fun m hm=>(hF.nice hC m hm).fit) lo2 n2 false).mono ?_;rintro _ _ ⟨rfl,rfl⟩;(conv=>whnf))
     refine rdw ?_;repeat' ((with_reducible apply tw)<;>intro _)
     ((with_reducible refine draw_pl ttOk zOk foOk mixedOk pl19x59 ?_ ?_);(focus kernel_rfl);(conv=>whnf))
     repeat' (first|(first|((with_reducible first|apply rd_intro|apply gd_and);(focus ((conv=>whnf)<;>first|rfl|(intro K hK;(conv=>whnf);first|exact hK|exact z_wrap (by omega) hK)));conv=>whnf)|((with_reducible apply z_wrap);(focus omega);conv=>whnf)|((with_reducible first|apply mt_dec|apply mt_eq|apply mt_ne|apply mt_not|apply mt_any)<;>(intro _;conv=>whnf)))|((with_reducible apply rd_intro);(focus (intro K hK;(conv=>whnf);refine h6.mono ?_;rintro _ _ ⟨rfl,rfl⟩;(conv=>whnf);exact hK));(conv=>whnf))|((with_reducible apply gd_and);(focus ((conv=>whnf);intro K hK;(conv=>whnf);refine h6.mono ?_;rintro _ _ ⟨rfl,rfl⟩;(conv=>whnf);exact hK));(conv=>whnf))|(refine (h6).mono ?_;rintro _ _ ⟨rfl,rfl⟩;(conv=>whnf))|fail)
     exact ⟨.inl rfl,⟨q,rfl⟩,rfl⟩
   ·conv=>whnf
    refine aw_seqr (AW_go ttOk zOk foOk ?_)
    conv=>whnf
    refine rdw ?_;repeat' ((with_reducible apply tw)<;>intro _)
    refine hcm.mono ?_
    rintro _ _ ⟨rfl,lo,n,rfl⟩
    conv=>whnf
    refine rdw ?_;repeat' ((with_reducible apply tw)<;>intro _)
    refine aw_seqr (AW_go ttOk zOk foOk ?_)
    conv=>whnf
    ((with_reducible refine draw_pl ttOk zOk foOk mixedOk pl19x13 ?_ ?_);(focus kernel_rfl);(conv=>whnf))
    refine rdw ?_;repeat' ((with_reducible apply tw)<;>intro _)
    (refine (hcn).mono ?_;rintro _ _ ⟨rfl,rfl⟩;(conv=>whnf))
    refine rdw ?_;repeat' ((with_reducible apply tw)<;>intro _)
    refine (hF.prog lo n).mono ?_
    rintro _ _ ⟨⟨hyes,_⟩|⟨_,rfl⟩,lo2,n2,rfl⟩
    ·exact absurd hyes hC
    conv=>whnf
    refine rdw ?_;repeat' ((with_reducible apply tw)<;>intro _)
    refine aw_seqr (AW_go ttOk zOk foOk ?_)
    conv=>whnf
    refine rdw ?_;repeat' ((with_reducible apply tw)<;>intro _)
    refine (eqCI_ok m hms.fine lo n).mono ?_
    rintro _ _ ⟨rfl,rfl⟩
    conv=>whnf
    first
     | refine aw_lit ttOk zOk foOk (i:=12) (lo:=lo) (m:=n) (ok:=true) (mav:=m.acs 12) rfl rfl rfl rfl rfl rfl (by decide) rfl (by decide) rfl (by decide) (by (conv=>whnf);exact ⟨rfl,rfl⟩) rfl rfl rfl rfl rfl rfl rfl (by decide) (by decide) rfl (by (conv=>whnf);rfl) (fun c E w cur hbl hv=>lit_sp m hms rfl c E w cur hbl hv) ?_
     | refine aw_lit ttOk zOk foOk (i:=13) (lo:=lo) (m:=n) (ok:=true) (mav:=m.acs 13) rfl rfl rfl rfl rfl rfl (by decide) rfl (by decide) rfl (by decide) (by (conv=>whnf);exact ⟨rfl,rfl⟩) rfl rfl rfl rfl rfl rfl rfl (by decide) (by decide) rfl (by (conv=>whnf);rfl) (fun c E w cur hbl hv=>lit_sp m hms rfl c E w cur hbl hv) ?_
     | refine aw_lit ttOk zOk foOk (i:=14) (lo:=lo) (m:=n) (ok:=true) (mav:=m.acs 14) rfl rfl rfl rfl rfl rfl (by decide) rfl (by decide) rfl (by decide) (by (conv=>whnf);exact ⟨rfl,rfl⟩) rfl rfl rfl rfl rfl rfl rfl (by decide) (by decide) rfl (by (conv=>whnf);rfl) (fun c E w cur hbl hv=>lit_sp m hms rfl c E w cur hbl hv) ?_
     | refine aw_lit ttOk zOk foOk (i:=15) (lo:=lo) (m:=n) (ok:=true) (mav:=m.acs 15) rfl rfl rfl rfl rfl rfl (by decide) rfl (by decide) rfl (by decide) (by (conv=>whnf);exact ⟨rfl,rfl⟩) rfl rfl rfl rfl rfl rfl rfl (by decide) (by decide) rfl (by (conv=>whnf);rfl) (fun c E w cur hbl hv=>lit_sp m hms rfl c E w cur hbl hv) ?_
     | refine aw_lit ttOk zOk foOk (i:=16) (lo:=lo) (m:=n) (ok:=true) (mav:=m.acs 16) rfl rfl rfl rfl rfl rfl (by decide) rfl (by decide) rfl (by decide) (by (conv=>whnf);exact ⟨rfl,rfl⟩) rfl rfl rfl rfl rfl rfl rfl (by decide) (by decide) rfl (by (conv=>whnf);rfl) (fun c E w cur hbl hv=>lit_sp m hms rfl c E w cur hbl hv) ?_
     | refine aw_lit ttOk zOk foOk (i:=17) (lo:=lo) (m:=n) (ok:=true) (mav:=m.acs 17) rfl rfl rfl rfl rfl rfl (by decide) rfl (by decide) rfl (by decide) (by (conv=>whnf);exact ⟨rfl,rfl⟩) rfl rfl rfl rfl rfl rfl rfl (by decide) (by decide) rfl (by (conv=>whnf);rfl) (fun c E w cur hbl hv=>lit_sp m hms rfl c E w cur hbl hv) ?_
     | refine aw_lit ttOk zOk foOk (i:=18) (lo:=lo) (m:=n) (ok:=true) (mav:=m.acs 18) rfl rfl rfl rfl rfl rfl (by decide) rfl (by decide) rfl (by decide) (by (conv=>whnf);exact ⟨rfl,rfl⟩) rfl rfl rfl rfl rfl rfl rfl (by decide) (by decide) rfl (by (conv=>whnf);rfl) (fun c E w cur hbl hv=>lit_sp m hms rfl c E w cur hbl hv) ?_
     | refine aw_lit ttOk zOk foOk (i:=19) (lo:=lo) (m:=n) (ok:=true) (mav:=m.acs 19) rfl rfl rfl rfl rfl rfl (by decide) rfl (by decide) rfl (by decide) (by (conv=>whnf);exact ⟨rfl,rfl⟩) rfl rfl rfl rfl rfl rfl rfl (by decide) (by decide) rfl (by (conv=>whnf);rfl) (fun c E w cur hbl hv=>lit_sp m hms rfl c E w cur hbl hv) ?_
     | refine aw_lit ttOk zOk foOk (i:=20) (lo:=lo) (m:=n) (ok:=true) (mav:=m.acs 20) rfl rfl rfl rfl rfl rfl (by decide) rfl (by decide) rfl (by decide) (by (conv=>whnf);exact ⟨rfl,rfl⟩) rfl rfl rfl rfl rfl rfl rfl (by decide) (by decide) rfl (by (conv=>whnf);rfl) (fun c E w cur hbl hv=>lit_sp m hms rfl c E w cur hbl hv) ?_
     | refine aw_lit ttOk zOk foOk (i:=21) (lo:=lo) (m:=n) (ok:=true) (mav:=m.acs 21) rfl rfl rfl rfl rfl rfl (by decide) rfl (by decide) rfl (by decide) (by (conv=>whnf);exact ⟨rfl,rfl⟩) rfl rfl rfl rfl rfl rfl rfl (by decide) (by decide) rfl (by (conv=>whnf);rfl) (fun c E w cur hbl hv=>lit_sp m hms rfl c E w cur hbl hv) ?_
     | refine aw_lit ttOk zOk foOk (i:=22) (lo:=lo) (m:=n) (ok:=true) (mav:=m.acs 22) rfl rfl rfl rfl rfl rfl (by decide) rfl (by decide) rfl (by decide) (by (conv=>whnf);exact ⟨rfl,rfl⟩) rfl rfl rfl rfl rfl rfl rfl (by decide) (by decide) rfl (by (conv=>whnf);rfl) (fun c E w cur hbl hv=>lit_sp m hms rfl c E w cur hbl hv) ?_
     | refine aw_lit ttOk zOk foOk (i:=23) (lo:=lo) (m:=n) (ok:=true) (mav:=m.acs 23) rfl rfl rfl rfl rfl rfl (by decide) rfl (by decide) rfl (by decide) (by (conv=>whnf);exact ⟨rfl,rfl⟩) rfl rfl rfl rfl rfl rfl rfl (by decide) (by decide) rfl (by (conv=>whnf);rfl) (fun c E w cur hbl hv=>lit_sp m hms rfl c E w cur hbl hv) ?_
     | fail
    refine ⟨rfl,AW_go ttOk zOk foOk ?_⟩
    conv=>whnf
    refine rdw ?_;repeat' ((with_reducible apply tw)<;>intro _)
    ((with_reducible refine draw_pl ttOk zOk foOk mixedOk pl19x54 ?_ ?_);(focus kernel_rfl);(conv=>whnf))
    refine rdw ?_;repeat' ((with_reducible apply tw)<;>intro _)
    (refine (num20_ok 1).mono ?_;rintro _ _ ⟨rfl,rfl⟩;(conv=>whnf))
    refine rdw ?_;repeat' ((with_reducible apply tw)<;>intro _)
    (refine (eqPZ_ok lo2 n2).mono ?_;rintro _ _ ⟨rfl,rfl⟩;(conv=>whnf))
    refine rdw ?_;repeat' ((with_reducible apply tw)<;>intro _)
    (refine Or.inr ?_;(conv=>whnf))
    (refine (eqMI_ok [] (Nat.zero_le _) (fun _ h=>by cases h) lo2 n2).mono ?_;rintro _ _ ⟨rfl,rfl⟩;(conv=>whnf))
    refine rdw ?_;repeat' ((with_reducible apply tw)<;>intro _)
    (refine (h6).mono ?_;rintro _ _ ⟨rfl,rfl⟩;(conv=>whnf))
    refine rdw ?_;repeat' ((with_reducible apply tw)<;>intro _)
    (refine (spoilP_ok zP zP_fit lo2 n2 true).mono ?_;rintro _ _ ⟨rfl,rfl⟩;(conv=>whnf))
    refine rdw ?_;repeat' ((with_reducible apply tw)<;>intro _)
    (refine (spoilM_ok [] (Nat.zero_le _) (fun _ h=>by cases h) lo2 n2 false).mono ?_;rintro _ _ ⟨rfl,rfl⟩;(conv=>whnf))
    refine rdw ?_;repeat' ((with_reducible apply tw)<;>intro _)
    ((with_reducible refine draw_pl ttOk zOk foOk mixedOk pl19x58 ?_ ?_);(focus kernel_rfl);(conv=>whnf))
    repeat' (first|(first|((with_reducible first|apply rd_intro|apply gd_and);(focus ((conv=>whnf)<;>first|rfl|(intro K hK;(conv=>whnf);first|exact hK|exact z_wrap (by omega) hK)));conv=>whnf)|((with_reducible apply z_wrap);(focus omega);conv=>whnf)|((with_reducible first|apply mt_dec|apply mt_eq|apply mt_ne|apply mt_not|apply mt_any)<;>(intro _;conv=>whnf)))|((with_reducible apply rd_intro);(focus (intro K hK;(conv=>whnf);refine h6.mono ?_;rintro _ _ ⟨rfl,rfl⟩;(conv=>whnf);exact hK));(conv=>whnf))|((with_reducible apply gd_and);(focus ((conv=>whnf);intro K hK;(conv=>whnf);refine h6.mono ?_;rintro _ _ ⟨rfl,rfl⟩;(conv=>whnf);exact hK));(conv=>whnf))|(refine (h6).mono ?_;rintro _ _ ⟨rfl,rfl⟩;(conv=>whnf))|fail)
    exact ⟨.inl rfl,⟨p,rfl⟩,rfl⟩
end Go.Proofs.YtolkmjfkkkiboaaGreat
set_option linter.unusedVariables false
set_option linter.unusedSimpArgs false
namespace Go.Proofs.YtolkmjfkkkiboaaGreat
open Go.Ab Go.RowKit Go.MapKept
attribute [local irreducible] ACalls AW ADraw Into fltB fnear
set_option maxRecDepth 100000
def twS (p:Prim) (m:Msg) (k:Nat):AF×List AB:=([(3,.ptr 0 0),(4,.ptr 1 0),(8,.ptr 2 0),(9,.d (.int .i64 k))],[.cells (p.cs.map AV.d),.cells (m.cs.map AV.d),.cells (p.cs.map AV.d++[.arr 3]),.row 49 18 (msgsD (wantedO p m k)) false])
set_option maxHeartbeats 8000000 in
open Classical in
theorem take20w_ok (p:Prim) (k1:May p) (hok:p.ok) (ht:p.tiny) (m:Msg) (hf:m.fine) (hk:m.kind=8) (held:List Int) (hl:few held) :
  ACalls Tryz.prog 56 [p.av,m.av,.d (.sl 1 (nums held))] [] (fun av L=>(takeC p m held∧goodT (gotP p m held) (gotO p m held) av L)∨(¬takeC p m held∧badT p 1 av L)):=by
 have hcp:=copyPrim_ok p ht
 have h1:=pageX8 hf hk (n:=p.nodes)
 have h2:=rDigests_ok held hl
 have h3:=rRising_ok held hl
 (refine acalls_go ttOk zOk foOk Tryz.func56 rfl Tryz.ntmps56 rfl true rfl ?_);(conv=>whnf)
 refine rdw ?_;repeat' ((with_reducible apply tw)<;>intro _)
 (refine (hcp).mono ?_;rintro _ _ ⟨rfl,rfl⟩;(conv=>whnf))
 refine rdw ?_;repeat' ((with_reducible apply tw)<;>intro _)
 refine h1.mono ?_
 rintro _ _ ⟨rfl,rfl⟩
 by_cases k2:okMsg p.nodes m
 rotate_left
 ·rw [decide_eq_false k2]
  conv=>whnf
  refine rdw ?_;repeat' ((with_reducible apply tw)<;>intro _)
  exact .inr ⟨fun h=>k2 h.msg,rfl,rfl⟩
 rw [decide_eq_true k2]
 conv=>whnf
 refine rdw ?_;repeat' ((with_reducible apply tw)<;>intro _)
 ·rename_i k3
  exact .inr ⟨fun h=>k3 h.dst,rfl,rfl⟩
 rename_i k3
 replace k3:m.dst=p.id:=k3
 refine h2.mono ?_
 rintro _ _ ⟨rfl,rfl⟩
 by_cases k4:∀ x∈held,1≤x∧x≤65536
 rotate_left
 ·rw [decide_eq_false k4]
  conv=>whnf
  refine rdw ?_;repeat' ((with_reducible apply tw)<;>intro _)
  exact .inr ⟨fun h=>k4 h.held.2,rfl,rfl⟩
 rw [decide_eq_true k4]
 conv=>whnf
 refine rdw ?_;repeat' ((with_reducible apply tw)<;>intro _)
 refine h3.mono ?_
 rintro _ _ ⟨rfl,rfl⟩
 by_cases k5:risingI held
 rotate_left
 ·rw [decide_eq_false k5]
  conv=>whnf
  refine rdw ?_;repeat' ((with_reducible apply tw)<;>intro _)
  exact .inr ⟨fun h=>k5 h.held.1,rfl,rfl⟩
 rw [decide_eq_true k5]
 have hC:takeC p m held:=⟨k1,k2,k3,⟨k5,k4⟩⟩
 conv=>whnf
 refine rdw ?_;repeat' ((with_reducible apply tw)<;>intro _)
 all_goals first|exact absurd hk (show ¬m.kind=8 by omega)|exact absurd (show m.kind=4 by assumption) (by omega)|exact absurd (show m.kind=5 by assumption) (by omega)|exact absurd (show m.kind=6 by assumption) (by omega)|skip
 have e1:gotP p m held=p:=by rw [gotP,if_neg (by omega),if_neg (by omega),if_neg (by omega)]
 have e2:gotO p m held=wantedO p m m.digs.length:=by rw [gotO,if_neg (by omega),if_neg (by omega),if_neg (by omega)]
 have hdl:=(k2.ok.digs (by omega)).1.2
 have hll:=nums_length m.digs
 rw [e1,e2]
 refine loop_go ttOk zOk foOk (σ:=Nat) (twS p m) (fun k=>k≤m.digs.length) (fun k=>m.digs.length - k) [3,4,8,9] ?_ ?_
 ·conv=>whnf
  exact ⟨0,rfl,by simp only [twS,wantedO,wantedL,List.take_zero,List.flatMap_nil,List.map_nil];rfl,Nat.zero_le _⟩
 ·intro k hkk
  have hwl:=wantedO_len p m k
  conv=>whnf
  refine rdw ?_;repeat' ((with_reducible apply tw)<;>intro _)
  ·rename_i hkl
   replace hkl:(k:Int)<((nums m.digs).length:Int):=hkl
   refine Exists.elim (⟨_,List.getElem?_eq_getElem (by omega)⟩:∃ x,m.digs[k]? = some x) fun x hx => ?_
   have hsn:=wantedO_succ p m hx
   have hfi:=rFind_ok p.dag (by have:=k1.dag.len;unfold few;omega) x
   ((with_reducible refine draw_pl ttOk zOk foOk mixedOk pl56x18 ?_ ?_);(focus kernel_rfl);(conv=>whnf))
   repeat' (first|(first|((with_reducible first|apply rd_intro|apply gd_and);(focus ((conv=>whnf)<;>first|rfl|(intro K hK;(conv=>whnf);first|exact hK|exact z_wrap (by omega) hK)));conv=>whnf)|((with_reducible apply z_wrap);(focus omega);conv=>whnf)|((with_reducible first|apply mt_dec|apply mt_eq|apply mt_ne|apply mt_not|apply mt_any)<;>(intro _;conv=>whnf)))|((with_reducible apply rd_intro);(focus (intro K hK;(conv=>whnf);exact ⟨by omega,[.int .i64 x],nums_at hx,hK⟩));(conv=>whnf))|((with_reducible apply rd_intro);(focus (intro K hK;(conv=>whnf);refine (hfi).mono ?_;rintro _ _ ⟨rfl,rfl⟩;(conv=>whnf);exact hK));(conv=>whnf))|((with_reducible apply gd_and);(focus ((conv=>whnf);intro K hK;(conv=>whnf);refine (hfi).mono ?_;rintro _ _ ⟨rfl,rfl⟩;(conv=>whnf);exact hK));(conv=>whnf))|(refine (hfi).mono ?_;rintro _ _ ⟨rfl,rfl⟩;(conv=>whnf))|fail)
   ·rename_i k6
    replace k6:getI p.dag.certs x≥0:=k6
    cases hg:getC p.dag.certs x with
    | none=>rw [getI,hg] at k6;exact absurd k6 (by decide)
    | some i =>
      have hi:i<p.dag.certs.length:=by
       rw [getC,List.findIdx?_eq_some_iff_getElem] at hg
       exact hg.1
      refine Exists.elim (⟨_,List.getElem?_eq_getElem hi⟩:∃ c,p.dag.certs[i]? = some c) fun c hc => ?_
      have hgi:getI p.dag.certs x=(i:Int):=by rw [getI,hg];rfl
      have hcl:=certsD_length p.dag.certs
      rw [hg] at hsn
      replace hsn:wantedO p m (k+1)=wantedO p m k++[(certMsg c).told p m.src]:=by rw [hsn,show (some i).bind (fun i=>p.dag.certs[i]?)=some c from hc];rfl
      have hct:=copyCert_ok c (ht.dag.2 c (List.mem_of_getElem? hc))
      have hte:=tells20_ok p (wantedO p m k) (by omega) ((certMsg c).dstd m.src)
      rw [told_from,← hsn] at hte
      rw [hgi]
      ((with_reducible refine draw_pl ttOk zOk foOk mixedOk pl56x20 ?_ ?_);(focus kernel_rfl);(conv=>whnf))
      repeat' (first|(first|((with_reducible first|apply rd_intro|apply gd_and);(focus ((conv=>whnf)<;>first|rfl|(intro K hK;(conv=>whnf);first|exact hK|exact z_wrap (by omega) hK)));conv=>whnf)|((with_reducible apply z_wrap);(focus omega);conv=>whnf)|((with_reducible first|apply mt_dec|apply mt_eq|apply mt_ne|apply mt_not|apply mt_any)<;>(intro _;conv=>whnf)))|((with_reducible apply rd_intro);(focus (intro K hK;(conv=>whnf);exact ⟨by omega,c.cs,certsD_at (by rw [Int.toNat_natCast];exact hc),hK⟩));(conv=>whnf))|((with_reducible apply rd_intro);(focus (intro K hK;(conv=>whnf);refine (hct).mono ?_;rintro _ _ ⟨rfl,rfl⟩;(conv=>whnf);exact hK));(conv=>whnf))|((with_reducible apply gd_and);(focus ((conv=>whnf);intro K hK;(conv=>whnf);refine (hct).mono ?_;rintro _ _ ⟨rfl,rfl⟩;(conv=>whnf);exact hK));(conv=>whnf))|(refine (hct).mono ?_;rintro _ _ ⟨rfl,rfl⟩;(conv=>whnf))|fail)
      refine (acalls_nw hte (.cons (.refl _) (.cons (.agg ?_) .nil))).mono ?_
      ·repeat (first|exact .nil|refine .cons (.refl _) ?_|refine .cons (.nils _ (by decide)) ?_)
      ·rintro _ _ ⟨rfl,rfl⟩
       conv=>whnf
       refine rdw ?_;repeat' ((with_reducible apply tw)<;>intro _)
       exact ⟨k+1,rfl,rfl,(show k+1≤m.digs.length by omega),(show m.digs.length - (k+1)<m.digs.length - k by omega)⟩
   ·rename_i k6
    replace k6:¬getI p.dag.certs x≥0:=k6
    cases hg:getC p.dag.certs x with
    | some i=>rw [getI,hg] at k6;exact absurd (show ((i:Nat):Int)≥0 by omega) k6
    | none =>
      rw [hg] at hsn
      replace hsn:wantedO p m (k+1)=wantedO p m k:=hsn.trans (List.append_nil _)
      exact ⟨k+1,rfl,by simp only [twS];rw [hsn];rfl,(show k+1≤m.digs.length by omega),(show m.digs.length - (k+1)<m.digs.length - k by omega)⟩
  ·rename_i hkl
   replace hkl:¬(k:Int)<((nums m.digs).length:Int):=hkl
   obtain rfl:k=m.digs.length:=by omega
   exact .inl ⟨hC,rfl,false,rfl⟩
theorem okc_fit {n:Int} (hn:isN n=true) {c:Cert} (h:okCert n c):c.fitS:=by
 have hnn:=of_decide_eq_true hn
 have h3:=h.head.bats
 have h4:=h.head.pars
 have h6:=h.sigs
 rw [show n=(n.toNat:Int) by omega] at h6
 have h6:=riseN_len2 h6
 exact ⟨by omega,by omega,by omega⟩
theorem may_fit {p:Prim} (h:May p):p.fitS:=by
 have hnn:=of_decide_eq_true h.isn
 have h1:=h.acks.2
 have h2:=h.votes.len
 have h3:=h.dag.len
 have h4:=h.late.len
 have hm:p.mine.bats.length≤4294967296∧p.mine.pars.length≤4294967296:=by
  by_cases h0:p.dig=0
  ·obtain ⟨_,_,e1,e2,_⟩:=h.mine.none h0
   rw [e1,e2]
   exact ⟨Nat.zero_le _,Nat.zero_le _⟩
  ·have hh:=h.mine.head h0
   have a1:=hh.bats
   have a2:=hh.pars
   exact ⟨by omega,by omega⟩
 exact ⟨hm.1,hm.2,by omega,by omega,⟨by omega,fun c hc=>okc_fit h.isn (by have:=h.dag.certs c hc;rw [h.same] at this;exact this)⟩,by omega,fun c hc=>okc_fit h.isn (h.late.certs c hc)⟩
theorem told_nice {m:Msg} (h:m.nice) (p:Prim) (d:Int):(m.told p d).nice:=⟨⟨h.fine.txs,h.fine.head,h.fine.cert,h.fine.digs⟩,h.txs,⟨h.fit.txs,h.fit.head,h.fit.cert,h.fit.digs⟩⟩
theorem wantedO_nice {p:Prim} (h:May p) (m:Msg) (k:Nat):∀ x∈wantedO p m k,x.nice:=by
 intro x hx
 obtain ⟨c,hc,rfl⟩:=List.mem_map.1 hx
 obtain ⟨y,_,hy⟩:=List.mem_flatMap.1 hc
 have hcm:c∈p.dag.certs:=by
  cases hg:getC p.dag.certs y with
  | none=>rw [hg] at hy;simp at hy
  | some i =>
    rw [hg] at hy
    have hy2:p.dag.certs[i]? = some c:=by simpa using hy
    exact List.mem_of_getElem? hy2
 exact told_nice (certMsg_nice (okc_fit h.isn (by have:=h.dag.certs c hcm;rw [h.same] at this;exact this))) p m.src
open Classical in
theorem takeX_of {p:Prim} {m:Msg} {held:List Int} (hk:kindC m) (av:AV) (h:(takeC p m held∧kindC m∧av=doneAV (gotP p m held) (gotO p m held))∨(takeC p m held∧¬kindC m∧av=errAV 10)∨(¬takeC p m held∧av=errAV 1)) :
  (takeC p m held∧av=doneAV (gotP p m held) (gotO p m held))∨(¬takeC p m held∧av=errAV 1):=by
 rcases h with ⟨a,_,b⟩|⟨_,a,_⟩|⟨a,b⟩
 ·exact .inl ⟨a,b⟩
 ·exact absurd hk a
 ·exact .inr ⟨a,b⟩
theorem takeF8 (p:Prim) (hok:p.ok) (ht:p.tiny) (hg:p.gh) (hr:p.dag.certs.length+p.late.length<60000) (m:Msg) (hm:m.small) (hk:m.kind=8) (held:List Int) (hl:few held):TakeF p m held (takeC p m held) (gotP p m held) (gotO p m held) where
 page:=fun k1=>take20w_ok p k1 hok ht m hm.fine hk held hl
 prog:=takeI_of (takeO_ok p hok hr m hm.fine (.inr hk) held hl) (takeX_of (by unfold kindC;rw [hk];simp)) (fun hC x hx=>by
  rw [gotO,if_neg (by omega),if_neg (by omega),if_neg (by omega)] at hx
  exact wantedO_nice hC.may m _ x hx)
 may:=fun h=>h.may
 qok:=fun hC=>by
  have hgo:=goes_got hC.may hr hC.msg held
  exact ⟨may_ok hgo.may (hgo.gh hg),may_fit hgo.may⟩
 nice:=fun hC x hx=>by
  rw [gotO,if_neg (by omega),if_neg (by omega),if_neg (by omega)] at hx
  exact wantedO_nice hC.may m _ x hx
 len:=fun hC=>by
  rw [gotO,if_neg (by omega),if_neg (by omega),if_neg (by omega)]
  have:=wantedO_len p m m.digs.length
  have:=hm.digs
  omega
def onStT (s:Script) (kind:Int) (i:Nat):AF×List AB:=([(1,.d (.int .i64 kind)),(2,.ptr 0 0),(5,.d (.int .i64 i))],[.cells (s.cs.map AV.d)])
def Act.take4 (a:Act):Act:={ a with doo:=4 }
set_option maxHeartbeats 4000000 in
open Classical in
theorem takes20_ok (s:Script) (hs:s.okk) (kind:Int) (hT:s.p.ok→s.p.tiny→s.p.gh→s.p.dag.certs.length+s.p.late.length<60000→∀ (m:Msg) (l:List Int),m.small→m.kind=kind→few l→∃ C q o,TakeF s.p m l C q o):ACalls Tryz.prog 13 [s.av,.d (.int .i64 kind)] [] (fun av L=>av = .d (.bool true)∧L=[]):=by
 have hh:=heavyS_full s hs.oks
 have hok:=hs.oks.ok
 have hal:=actsD_length s.acts
 have hpok:s.p.ok:=⟨hok.mine,by rw [hs.gh.2];exact Nat.zero_le _,hok.acks,hok.votes,hok.dag,hok.late⟩
 (refine acalls_go ttOk zOk foOk Tryz.func13 rfl Tryz.ntmps13 rfl false rfl ?_);(conv=>whnf)
 refine rdz ?_;repeat' ((with_reducible apply tw)<;>intro _)
 refine hh.mono ?_
 rintro _ _ ⟨⟨b,rfl,hb⟩,rfl⟩
 cases b with
 | true =>
   conv=>whnf
   refine rdz ?_;repeat' ((with_reducible apply tw)<;>intro _)
   exact ⟨rfl,rfl⟩
 | false =>
   have hlt:=hb rfl
   have e1:=hlt.certs
   have e2:=hlt.late
   have e3:=hlt.votes
   have e4:=hlt.acks
   have e5:=hlt.mine
   have e6:=hlt.acts
   have hpt:s.p.tiny:=⟨⟨by unfold tiny;omega,by unfold tiny;omega,by rw [hs.gh.2];exact Nat.zero_le _⟩,by omega,by omega,⟨by unfold tiny;omega,fun c hc=>(e1.2 c hc).all.2⟩,⟨by unfold tiny;omega,fun c hc=>(e2.2 c hc).all.2⟩⟩
   have hcf:∀ c:Cert,c.light→c.fitS:=fun c h=>⟨by have:=h.1;omega,by have:=h.2.1;omega,by have:=h.2.2;omega⟩
   have hpm:s.p.mine.fitS:=⟨by omega,by omega,by rw [hs.gh.2];exact Nat.zero_le _⟩
   have hpf:s.p.fitS:=⟨by omega,by omega,by omega,by omega,⟨by omega,fun c hc=>hcf c (e1.2 c hc)⟩,⟨by omega,fun c hc=>hcf c (e2.2 c hc)⟩⟩
   conv=>whnf
   refine rdz ?_;repeat' ((with_reducible apply tw)<;>intro _)
   refine loop_go ttOk zOk foOk (σ:=Nat) (onStT s kind) (fun i=>i≤s.acts.length) (fun i=>s.acts.length - i) [1,2,5] ?_ ?_
   ·conv=>whnf
    exact ⟨0,rfl,rfl,Nat.zero_le _⟩
   ·intro i hi
    conv=>whnf
    refine rdz ?_;repeat' ((with_reducible apply tw)<;>intro _)
    ·rename_i k1 k2
     replace k1:(i:Int)<((actsD s.acts).length:Int):=k1
     refine Exists.elim (⟨_,List.getElem?_eq_getElem (by omega)⟩:∃ a,s.acts[i]? = some a) fun a ha => ?_
     have ham:=List.mem_of_getElem? ha
     have hal4:=(e6.2 a ham).l
     refine ⟨by omega,a.cs,by rw [Int.toNat_natCast,actsD,List.getElem?_map,ha];rfl,?_⟩
     conv=>whnf
     refine rdz ?_;repeat' ((with_reducible apply tw)<;>intro _)
     ·exact ⟨i+1,rfl,rfl,(show i+1≤s.acts.length by omega),(show s.acts.length - (i+1)<s.acts.length - i by omega)⟩
     ·rename_i k3
      replace k3:a.m.kind=kind:=k3
      have hst:=step4_ok s.p hpok hpt hpf (by omega) a.take4 rfl (hs.ints a ham).1 (show a.l.length≤1000 by omega) (light_small (e6.2 a ham).m (hs.hg a ham)) (fun m hm hmk=>hT hpok hpt hs.gh (by omega) m a.l hm (hmk.trans k3) (by unfold few;omega))
      refine hst.mono ?_
      rintro _ _ ⟨⟨q,rfl⟩,rfl⟩
      conv=>whnf
      refine rdz ?_;repeat' ((with_reducible apply tw)<;>intro _)
      exact ⟨i+1,rfl,rfl,(show i+1≤s.acts.length by omega),(show s.acts.length - (i+1)<s.acts.length - i by omega)⟩
    all_goals
     refine wakes_ok.mono ?_
     rintro _ _ ⟨rfl,rfl⟩
     conv=>whnf
     refine rdz ?_;repeat' ((with_reducible apply tw)<;>intro _)
     exact ⟨rfl,rfl⟩
theorem primaryWanted_ok (s:Script) (hs:s.okk):ACalls Tryz.prog 10 [s.av] [] (fun av L=>av = .d (.bool true)∧L=[]):=by
 have h:=takes20_ok s hs 8 fun h1 h2 h3 h4 m l hm hk hl=>⟨_,_,_,takeF8 s.p h1 h2 h3 h4 m hm hk l hl⟩
 (refine acalls_go ttOk zOk foOk Tryz.func10 rfl Tryz.ntmps10 rfl false rfl ?_);(conv=>whnf)
 refine rdz ?_;repeat' ((with_reducible apply tw)<;>intro _)
 (refine (h).mono ?_;rintro _ _ ⟨rfl,rfl⟩;(conv=>whnf))
 refine rdz ?_;repeat' ((with_reducible apply tw)<;>intro _)
 exact ⟨rfl,rfl⟩
end Go.Proofs.YtolkmjfkkkiboaaGreat
/- PrimaryWanted: for every argument the law returns true, and its argument reads behind the call as it read before. No condition of ours. -/
namespace Go.Proofs.YtolkmjfkkkiboaaGreat
open Go.Ab Go.RowKit Go.ChangeShapes Go.WideShapes Go.ChangeAt
theorem own:ownKnob Tryz.prog.godebug=none:=by kernel_rfl
theorem laidOut:laidOutB Tryz.prog=true:=by kernel_rfl
set_option maxRecDepth 100000 in
theorem primaryWanted_lifted (os:Os) (started:os.Started) (H:Type) (enc:TypeId×Value→H) :
  ReturnsInHanded {} Tryz.checked os 10 .any (Rows.primaryWantedSpec.pre6 enc Tryz.prog Tryz.f10 Rows.primaryWantedRow.domain false) (Rows.primaryWantedSpec.post enc Tryz.prog Tryz.f10 false true false false):=by
 refine returnsInHanded_of_change_sized (C:=Tryz.checked) own started (by kernel_rfl) Tryz.func10
  (ChangeSpec.witness6 (enc:=enc) (C:=Tryz.checked) false ⟨#[],#[.agg #[.int .i64 0,.int .i64 0,.int .i64 0,.int .i64 0,.int .i64 0,.int .i64 0,.int .i64 0,.slice none 0 0,.slice none 0 0,.int .i64 0,.slice none 0 0,.slice none 0 0,.int .i64 0,.int .i64 0,.slice none 0 0,.slice none 0 0,.slice none 0 0]],[]⟩ 8 (by kernel_rfl) (by kernel_rfl) (by kernel_rfl) (by kernel_rfl)) ?_
 intro W base args ds gs before hval hW _ hsz _
 exact law_contract ttOk (f:=Tryz.f10) (tb:=4) (t:=33) rfl rfl Tryz.underlying4 rfl (fun _ _=>rfl) laidOut (by kernel_rfl) (of_decide_eq_true (by kernel_rfl)) 8 (by kernel_rfl) argS
  (fun W base v ds h1 h2=>argS_ok Tryz.underlying33 h1 h2)
  (fun ds hd=>by
    obtain ⟨p,hp,hok⟩:=askR_of hd
    rw [hp]
    exact primaryWanted_ok p hok) hval hW hsz
theorem jf1:Tryz.prog.inPlace 10=Rows.primaryWantedRow.inPlace:=by kernel_rfl
theorem jf2:Tryz.prog.unfollowed 10=Rows.primaryWantedRow.unfollowed:=by kernel_rfl
theorem jf3:Tryz.prog.recurses 10=Rows.primaryWantedRow.recurses:=by kernel_rfl
theorem jf4:Tryz.prog.varsNamed 10=Rows.primaryWantedRow.named:=by kernel_rfl
theorem jf5:mapsRowed Tryz.prog=true:=by kernel_rfl
theorem jf:joinedFacts Tryz.prog 10 Tryz.f10 Rows.primaryWantedSpec Rows.primaryWantedRow=true:=by
 unfold joinedFacts
 rw [jf1,jf2,jf3,jf4,jf5,laidOut]
 kernel_rfl
theorem primaryWanted_holds:Rows.PrimaryWantedSaid :=
 OpenClaim.holds_of_wide 10 Tryz.f10 rfl rfl rfl rfl rfl rfl rfl ⟨rfl,rfl,rfl,rfl,rfl⟩ rfl rfl rfl rfl rfl (by kernel_rfl) Tryz.func10 jf
  (of_decide_eq_true (by kernel_rfl)) (by unfold Func.isWrapper;first|(rw [if_pos (by decide +kernel)];kernel_rfl)|(rw [if_neg (by decide +kernel)];exact ⟨rfl,rfl⟩))
  (fun os started H enc _=>primaryWanted_lifted os started H enc)
#print axioms primaryWanted_holds
end Go.Proofs.YtolkmjfkkkiboaaGreat
