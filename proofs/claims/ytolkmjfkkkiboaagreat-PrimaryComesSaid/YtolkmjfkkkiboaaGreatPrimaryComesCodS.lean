/- PrimaryComes: contracts. -/
import Derived.Test.YtolkmjfkkkiboaaGreatRows
import Derived.Test.YtolkmjfkkkiboaaGreatPrimaryComesCodR
set_option linter.unusedVariables false
set_option linter.unusedSimpArgs false
namespace Go.Proofs.YtolkmjfkkkiboaaGreat
open Go.Ab Go.RowKit Go.MapKept
attribute [local irreducible] ACalls AW ADraw Into fltB fnear
set_option maxRecDepth 100000
def badT (p:Prim) (e:Int) (av:AV) (L:List AB):Prop:=av = .tup [.ptr 0 0,.d (.int .i64 e)]∧L=p.st []
def goodT (q:Prim) (o:List Msg) (av:AV) (L:List AB):Prop:=av = .tup [.ptr 0 0,.d (.int .i64 0)]∧∃ j,L=q.sj j o
def Msg.bavo (m:Msg):AV := .agg [.d (.int .i64 m.ba),.d (.int .i64 m.bn),.d (.slo 4 (txsD m.txs))]
theorem copyNumbersO_ok (xs:List Int) (hm:tiny xs):ACalls Tryz.prog 26 [.d (.slo 1 (nums xs))] [] (fun av L=>av = .d (.sl 1 (nums xs))∧L=[]):=by
 have hx:=nums_length xs
 unfold tiny at hm
 (refine acalls_go ttOk zOk foOk Tryz.func26 rfl Tryz.ntmps26 rfl false rfl ?_);(conv=>whnf)
 refine loop_go ttOk zOk foOk (σ:=Nat) (fun k=>([(0,.d (.slo 1 (nums xs))),(3,.arr 0),(4,.d (.int .i64 k))],[.row 3 1 (nums (xs.take k)) false])) (fun k=>k≤xs.length) (fun k=>xs.length - k) [0,3,4] ?_ ?_
 ·conv=>whnf
  exact ⟨0,rfl,rfl,by omega⟩
 ·intro k hk
  conv=>whnf
  rw [hx]
  refine rdz ?_;repeat' ((with_reducible apply tw)<;>intro _)
  ·rename_i h
   refine Exists.elim (⟨_,List.getElem?_eq_getElem (by omega)⟩:∃ a,xs[k]? = some a) fun a ha => ?_
   have hkn:=nums_length (xs.take k)
   refine ⟨by omega,[.int .i64 a],nums_at ha,?_⟩
   conv=>whnf
   refine rdz ?_;repeat' ((with_reducible apply tw)<;>intro _)
   refine ⟨by simp [hkn];omega,?_⟩
   conv=>whnf
   refine rdz ?_;repeat' ((with_reducible apply tw)<;>intro _)
   refine ⟨k+1,rfl,?_,by omega,by omega⟩
   rw [List.take_add_one,ha,← nums_apps]
   rfl
  ·rename_i h
   rw [List.take_of_length_le (by omega)]
   exact ⟨rfl,rfl⟩
theorem copyHeaderO_ok (c:Cert) (h:c.tiny):ACalls Tryz.prog 25 [c.havo] [] (fun av L=>av=c.hav∧L=[]):=by
 (refine acalls_go ttOk zOk foOk Tryz.func25 rfl Tryz.ntmps25 rfl false rfl ?_);(conv=>whnf)
 refine (copyNumbersO_ok c.bats h.bats).mono ?_
 rintro _ _ ⟨rfl,rfl⟩
 conv=>whnf
 refine (copyNumbersO_ok c.pars h.pars).mono ?_
 rintro _ _ ⟨rfl,rfl⟩
 conv=>whnf
 exact ⟨rfl,rfl⟩
theorem copyCertO_ok (c:Cert) (h:c.tiny):ACalls Tryz.prog 66 [c.avo] [] (fun av L=>av=c.av∧L=[]):=by
 (refine acalls_go ttOk zOk foOk Tryz.func66 rfl Tryz.ntmps66 rfl false rfl ?_);(conv=>whnf)
 refine (copyHeaderO_ok c h).mono ?_
 rintro _ _ ⟨rfl,rfl⟩
 conv=>whnf
 refine (copyNumbersO_ok c.sigs h.sigs).mono ?_
 rintro _ _ ⟨rfl,rfl⟩
 conv=>whnf
 exact ⟨rfl,rfl⟩
theorem copyTxsO_ok (l:List Tx) (hl:l.length≤1099511627776):ACalls Tryz.prog 163 [.d (.slo 4 (txsD l))] [] (fun av L=>av = .d (.sl 4 (txsD l))∧L=[]):=by
 have hx:=txsD_len l
 (refine acalls_go ttOk zOk foOk Tryz.func163 rfl Tryz.ntmps163 rfl false rfl ?_);(conv=>whnf)
 refine loop_go ttOk zOk foOk (σ:=Nat) (fun j=>([(0,.d (.slo 4 (txsD l))),(3,.arr 0),(4,.d (.int .i64 j))],[.row 180 4 (txsD (l.take j)) false])) (fun j=>j≤l.length) (fun j=>l.length - j) [0,3,4] ?_ ?_
 ·conv=>whnf
  exact ⟨0,rfl,rfl,Nat.zero_le _⟩
 ·intro j hj
  have hlt:=List.length_take_le' j l
  have hxl:=txsD_len (l.take j)
  conv=>whnf
  refine rdz ?_;repeat' ((with_reducible apply tw)<;>intro _)
  ·rename_i h
   replace h:(j:Int)<((txsD l).length:Int):=h
   refine Exists.elim (⟨_,List.getElem?_eq_getElem (by omega)⟩:∃ c,l[j]? = some c) fun a ha => ?_
   refine ⟨by omega,a.cs,txsD_at ha,?_⟩
   conv=>whnf
   refine rdz ?_;repeat' ((with_reducible apply tw)<;>intro _)
   refine ⟨by show ((txsD (l.take j)).length+1) * 48≤_;omega,?_⟩
   conv=>whnf
   refine rdz ?_;repeat' ((with_reducible apply tw)<;>intro _)
   refine ⟨j+1,rfl,?_,by omega,by omega⟩
   rw [List.take_add_one,ha,show txsD (l.take j++(some a).toList)=txsD (l.take j)++[a.cs] by simp [txsD]]
   rfl
  ·rename_i h
   replace h:¬(j:Int)<((txsD l).length:Int):=h
   rw [List.take_of_length_le (by omega)]
   exact ⟨rfl,rfl⟩
theorem copyBatchO_ok (m:Msg) (hl:m.txs.length≤1099511627776):ACalls Tryz.prog 113 [m.bavo] [] (fun av L=>av=m.bav∧L=[]):=by
 (refine acalls_go ttOk zOk foOk Tryz.func113 rfl Tryz.ntmps113 rfl false rfl ?_);(conv=>whnf)
 refine rdz ?_;repeat' ((with_reducible apply tw)<;>intro _)
 (refine (copyTxsO_ok m.txs hl).mono ?_;rintro _ _ ⟨rfl,rfl⟩;(conv=>whnf))
 refine rdz ?_;repeat' ((with_reducible apply tw)<;>intro _)
 exact ⟨rfl,rfl⟩
theorem copyMsgO_ok (m:Msg) (h:m.small):ACalls Tryz.prog 57 [m.avo] [] (fun av L=>av=m.av∧L=[]):=by
 (refine acalls_go ttOk zOk foOk Tryz.func57 rfl Tryz.ntmps57 rfl false rfl ?_);(conv=>whnf)
 refine rdz ?_;repeat' ((with_reducible apply tw)<;>intro _)
 (refine (copyBatchO_ok m (by have:=h.txs;omega)).mono ?_;rintro _ _ ⟨rfl,rfl⟩;(conv=>whnf))
 refine rdz ?_;repeat' ((with_reducible apply tw)<;>intro _)
 (refine (copyHeaderO_ok m.head h.htiny).mono ?_;rintro _ _ ⟨rfl,rfl⟩;(conv=>whnf))
 refine rdz ?_;repeat' ((with_reducible apply tw)<;>intro _)
 (refine (copyCertO_ok m.cert h.ctiny).mono ?_;rintro _ _ ⟨rfl,rfl⟩;(conv=>whnf))
 refine rdz ?_;repeat' ((with_reducible apply tw)<;>intro _)
 (refine (copyNumbersO_ok m.digs (by have:=h.digs;unfold tiny;omega)).mono ?_;rintro _ _ ⟨rfl,rfl⟩;(conv=>whnf))
 refine rdz ?_;repeat' ((with_reducible apply tw)<;>intro _)
 exact ⟨rfl,rfl⟩
def Msg.acs (m:Msg) (i:Nat):List AV:=[.d (.int .i64 m.kind),.d (.int .i64 m.src),.d (.int .i64 m.dst),.d (.int .i64 m.digest),.d (.int .i64 m.ba),.d (.int .i64 m.bn),.isl i (.sl 4 (txsD m.txs)),.d (.int .i64 m.head.author),.d (.int .i64 m.head.round),.isl i (.sl 1 (nums m.head.bats)),.isl i (.sl 1 (nums m.head.pars)),.d (.int .i64 m.cert.author),.d (.int .i64 m.cert.round),.isl i (.sl 1 (nums m.cert.bats)),.isl i (.sl 1 (nums m.cert.pars)),.d (.int .i64 m.cert.digest),.isl i (.sl 1 (nums m.cert.sigs)),.isl i (.sl 1 (nums m.digs))]
def Msg.ai (m:Msg) (i:Nat):AV := .agg (m.acs i)
theorem ne_txs (l:List Tx):NoE (txsD l):=NoE_map (f:=Tx.cs) (fun _=>⟨trivial,trivial,trivial,trivial,trivial⟩) l
theorem dnE_txs (l:List Tx):DnE (txsD l) (txsD l):=DnE.map (fun _ => .cons (dn_int _) (.cons (dn_int _) (.cons (.flat (flat_str _)) (.cons (.flat (flat_str _)) .nil)))) l
theorem isl2_msg (i:Nat) (m:Msg):Isl2 i m.av (m.ai i) := .inr ⟨_,_,rfl,rfl,.cons (isl_int _) (.cons (isl_int _) (.cons (isl_int _) (.cons (isl_int _) (.cons (isl_int _) (.cons (isl_int _) (.cons (.sl (ne_txs _)) (.cons (isl_int _) (.cons (isl_int _) (.cons (.sl (ne_nums _)) (.cons (.sl (ne_nums _)) (.cons (isl_int _) (.cons (isl_int _) (.cons (.sl (ne_nums _)) (.cons (.sl (ne_nums _)) (.cons (isl_int _) (.cons (.sl (ne_nums _)) (.cons (.sl (ne_nums _)) .nil)))))))))))))))))⟩
theorem lendO_msg (L:List AB) (m:Msg):lendO2 L m.av m.avo := .inr ⟨_,_,rfl,rfl,.cons (lo_int _) (.cons (lo_int _) (.cons (lo_int _) (.cons (lo_int _) (.cons (lo_int _) (.cons (lo_int _) (.cons (lo_dn (.sl (dnE_txs _))) (.cons (lo_int _) (.cons (lo_int _) (.cons (lo_dn (dn_nums _)) (.cons (lo_dn (dn_nums _)) (.cons (lo_int _) (.cons (lo_int _) (.cons (lo_dn (dn_nums _)) (.cons (lo_dn (dn_nums _)) (.cons (lo_int _) (.cons (lo_dn (dn_nums _)) (.cons (lo_dn (dn_nums _)) .nil)))))))))))))))))⟩
theorem lo_isl {L:List AB} {i lo n:Nat} {x x':DV} (h:L[i]? = some (.isle lo n true)) (k:DnD x x'):lendO1 L (.isl i x) (.d x') := .inr ⟨i,x,x',lo,n,rfl,h,rfl,k⟩
theorem lendO_mi {L:List AB} {i lo n:Nat} (h:L[i]? = some (.isle lo n true)) (m:Msg):lendO2 L (m.ai i) m.avo := .inr ⟨_,_,rfl,rfl,.cons (lo_int _) (.cons (lo_int _) (.cons (lo_int _) (.cons (lo_int _) (.cons (lo_int _) (.cons (lo_int _) (.cons (lo_isl h (.sl (dnE_txs _))) (.cons (lo_int _) (.cons (lo_int _) (.cons (lo_isl h (dn_nums _)) (.cons (lo_isl h (dn_nums _)) (.cons (lo_int _) (.cons (lo_int _) (.cons (lo_isl h (dn_nums _)) (.cons (lo_isl h (dn_nums _)) (.cons (lo_int _) (.cons (lo_isl h (dn_nums _)) (.cons (lo_isl h (dn_nums _)) .nil)))))))))))))))))⟩
theorem lend_mi {L:List AB} {i lo n:Nat} (h:L[i]? = some (.isle lo n true)) (m:Msg):lend2 L (m.ai i) m.av := .inr ⟨_,_,rfl,rfl,lendS_c (l1_int _) (lendS_c (l1_int _) (lendS_c (l1_int _) (lendS_c (l1_int _) (lendS_c (l1_int _) (lendS_c (l1_int _) (lendS_c (l1_isl h _) (lendS_c (l1_int _) (lendS_c (l1_int _) (lendS_c (l1_isl h _) (lendS_c (l1_isl h _) (lendS_c (l1_int _) (lendS_c (l1_int _) (lendS_c (l1_isl h _) (lendS_c (l1_isl h _) (lendS_c (l1_int _) (lendS_c (l1_isl h _) (lendS_c (l1_isl h _) lendS_n)))))))))))))))))⟩
theorem lend_mv {L:List AB} (m:Msg):lend2 L m.av m.av := .inr ⟨_,_,rfl,rfl,lendS_c (l1_d _) (lendS_c (l1_d _) (lendS_c (l1_d _) (lendS_c (l1_d _) (lendS_c (l1_d _) (lendS_c (l1_d _) (lendS_c (l1_d _) (lendS_c (l1_d _) (lendS_c (l1_d _) (lendS_c (l1_d _) (lendS_c (l1_d _) (lendS_c (l1_d _) (lendS_c (l1_d _) (lendS_c (l1_d _) (lendS_c (l1_d _) (lendS_c (l1_d _) (lendS_c (l1_d _) (lendS_c (l1_d _) lendS_n)))))))))))))))))⟩
theorem copyMsgI_ok (m:Msg) (h:m.small):ACalls Tryz.prog 57 [m.av] [] (fun av L=>av=m.ai 0∧∃ lo n,L=[.isle lo n true]) :=
 acalls_isle (X:=fun av=>av=m.av) (post:=fun av=>av=m.ai 0) (.cons (lendO_msg [] m) .nil) (copyMsgO_ok m h) (by
  rintro _ rfl
  exact ⟨_,.inl (isl2_msg _ _),rfl⟩)
def outJ (q:Prim) (o:List Msg) (e:Int):AV := .tup [q.ai 1,.isl 1 (.sl 18 (msgsD o)),.d (.int .i64 e)]
theorem takeI_of {p:Prim} {m:Msg} {held:List Int} {X:AV→Prop} (h:ACalls Tryz.prog 58 [p.avo,m.avo,.d (.slo 1 (nums held))] [] (fun av L=>X av∧L=[])) {C:Prop} {q:Prim} {o:List Msg}
  (hX:∀ av,X av→(C∧av=doneAV q o)∨(¬C∧av=errAV 1)) (ho:C→∀ x∈o,x.nice) (lo n:Nat) :
  ACalls Tryz.prog 58 [p.av,m.ai 0,.d (.sl 1 (nums held))] [.isle lo n true] (fun av L=>((C∧av=outJ q o 0)∨(¬C∧av=outJ zP [] 1))∧∃ lo2 n2,L=[.isle lo n true,.isle lo2 n2 true]):=by
 refine acalls_wk (acalls_isle (X:=X) (post:=fun av=>(C∧av=outJ q o 0)∨(¬C∧av = .tup [.agg zPrim,.isl 1 (.sl 18 []),.d (.int .i64 1)])) (.cons (lendO_prim _ p) (.cons (lendO_mi rfl m) (.cons (.inl (lo_dn (dn_nums held))) .nil))) h ?_) ?_
 ·intro av hx
  rcases hX av hx with ⟨k,rfl⟩|⟨k,rfl⟩
  ·exact ⟨_,.inr ⟨_,_,rfl,rfl,.cons (isl2_prim _ _) (.cons (.inl (.sl (ne_msgs (ho k)))) (.cons (.inl (isl_int _)) .nil))⟩,.inl ⟨k,rfl⟩⟩
  ·exact ⟨_,.inr ⟨_,_,rfl,rfl,.cons (isl2_z _) (.cons (.inl (.sl trivial)) (.cons (.inl (isl_int _)) .nil))⟩,.inr ⟨k,rfl⟩⟩
 ·rintro _ _ ⟨⟨k,rfl⟩|⟨k,rfl⟩,lo2,n2,rfl⟩
  ·exact ⟨_,.inl (.inl (wk_r _)),.inl ⟨k,rfl⟩,lo2,n2,rfl⟩
  ·refine ⟨_,.inr ⟨_,_,rfl,rfl,.cons (.inr ⟨_,_,rfl,rfl,?_⟩) (.cons (.inl (wk_r _)) (.cons (.inl (wk_r _)) .nil))⟩,.inr ⟨k,rfl⟩,lo2,n2,rfl⟩
   have hw:∀ {k:Nat},0<k→Wk1 [AB.isle lo n true,AB.isle lo2 n2 true] (.d .nils) (.isl 1 (.sl k [])):=fun {k} hk => .inr ⟨1,lo2,n2,k,rfl,⟨_,rfl,rfl⟩,hk,rfl⟩
   exact .cons (wk_r _) (.cons (wk_r _) (.cons (wk_r _) (.cons (wk_r _) (.cons (wk_r _) (.cons (wk_r _) (.cons (wk_r _) (.cons (hw (by decide)) (.cons (hw (by decide)) (.cons (wk_r _) (.cons (hw (by decide)) (.cons (hw (by decide)) (.cons (wk_r _) (.cons (wk_r _) (.cons (hw (by decide)) (.cons (hw (by decide)) .nil)))))))))))))))
theorem eqTx_ok:eqOkB Tryz.prog 180 [true,true,false,false]=true:=by kernel_rfl
theorem eqTxs_same (l:List Tx) (hl:few l):ACalls Tryz.prog 170 [.d (.sl 4 (txsD l)),.d (.sl 4 (txsD l))] [] (fun av L=>av = .d (.bool true)∧L=[]):=by
 have hcl:=txsD_len l
 unfold few at hl
 (refine acalls_go ttOk zOk foOk Tryz.func170 rfl Tryz.ntmps170 rfl false rfl ?_);(conv=>whnf)
 refine rdw ?_;repeat' ((with_reducible apply tw)<;>intro _)
 ·rename_i hx;exact absurd rfl hx
 ·refine loop_go ttOk zOk foOk (σ:=Nat) (fun k=>([(0,.d (.sl 4 (txsD l))),(1,.d (.sl 4 (txsD l))),(5,.d (.int .i64 k))],[])) (fun k=>k≤l.length) (fun k=>l.length - k) [0,1,5] ?_ ?_
  ·conv=>whnf
   exact ⟨0,rfl,rfl,by omega⟩
  ·intro k hk
   conv=>whnf
   rw [hcl]
   refine rdw ?_;repeat' ((with_reducible apply tw)<;>intro _)
   ·rename_i hkl
    refine Exists.elim (⟨_,List.getElem?_eq_getElem (by omega)⟩:∃ c,l[k]? = some c) fun c hc => ?_
    ((with_reducible refine draw_pl ttOk zOk foOk mixedOk pl170x6 ?_ ?_);(focus kernel_rfl);(conv=>whnf))
    repeat' (first|(first|((with_reducible first|apply rd_intro|apply gd_and);(focus ((conv=>whnf)<;>first|rfl|(intro K hK;(conv=>whnf);first|exact hK|exact z_wrap (by omega) hK)));conv=>whnf)|((with_reducible apply z_wrap);(focus omega);conv=>whnf)|((with_reducible first|apply mt_dec|apply mt_eq|apply mt_ne|apply mt_not|apply mt_any)<;>(intro _;conv=>whnf)))|((with_reducible apply rd_intro);(focus (intro K hK;(conv=>whnf);exact ⟨by omega,c.cs,txsD_at hc,hK⟩));(conv=>whnf))|((with_reducible apply rd_intro);(focus (intro K hK;(conv=>whnf);exact ⟨eqTx_ok,hK⟩));(conv=>whnf))|fail)
    ·rename_i hb
     exfalso
     revert hb
     simp
    ·exact ⟨k+1,rfl,rfl,by omega,by omega⟩
   ·exact ⟨rfl,rfl⟩
theorem eqBatch_same (a b:Int) (l:List Tx) (hl:few l):ACalls Tryz.prog 118 [.agg [.d (.int .i64 a),.d (.int .i64 b),.d (.sl 4 (txsD l))],.agg [.d (.int .i64 a),.d (.int .i64 b),.d (.sl 4 (txsD l))]] [] (fun av L=>av = .d (.bool true)∧L=[]):=by
 have h1:=eqTxs_same l hl
 (refine acalls_go ttOk zOk foOk Tryz.func118 rfl Tryz.ntmps118 rfl false rfl ?_);(conv=>whnf)
 refine rdw ?_;repeat' ((with_reducible apply tw)<;>intro _)
 ·(refine (h1).mono ?_;rintro _ _ ⟨rfl,rfl⟩;(conv=>whnf))
  exact ⟨rfl,rfl⟩
 all_goals (rename_i hx;exact absurd rfl hx)
theorem eqMsg_self (m:Msg) (hf:m.fine):ACalls Tryz.prog 59 [m.av,m.av] [] (fun av L=>av = .d (.bool true)∧L=[]):=by
 have h1:=eqBatch_same m.ba m.bn m.txs hf.txs
 have h2:=eqHeader_same m.head hf.head
 have h3:=eqCert_same m.cert hf.cert
 have h4:=eqNumbers_ok m.digs m.digs hf.digs
 rw [decide_eq_true rfl] at h4
 (refine acalls_go ttOk zOk foOk Tryz.func59 rfl Tryz.ntmps59 rfl false rfl ?_);(conv=>whnf)
 refine rdw ?_;repeat' ((with_reducible apply tw)<;>intro _)
 ·(refine (h1).mono ?_;rintro _ _ ⟨rfl,rfl⟩;(conv=>whnf))
  refine rdw ?_;repeat' ((with_reducible apply tw)<;>intro _)
  ·(refine (h2).mono ?_;rintro _ _ ⟨rfl,rfl⟩;(conv=>whnf))
   refine rdw ?_;repeat' ((with_reducible apply tw)<;>intro _)
   ·(refine (h3).mono ?_;rintro _ _ ⟨rfl,rfl⟩;(conv=>whnf))
    refine rdw ?_;repeat' ((with_reducible apply tw)<;>intro _)
    ·(refine (h4).mono ?_;rintro _ _ ⟨rfl,rfl⟩;(conv=>whnf))
     exact ⟨rfl,rfl⟩
 all_goals (rename_i hx;exact absurd rfl hx)
theorem eqCI_ok (m:Msg) (hf:m.fine) (lo n:Nat):ACalls Tryz.prog 59 [m.ai 0,m.av] [.isle lo n true] (fun av L=>av = .d (.bool true)∧L=[.isle lo n true]) :=
 acalls_lend (flat_bool _) ⟨_,_,rfl,lend_mi rfl m,_,_,rfl,lend_mv m,rfl⟩ (eqMsg_self m hf)
attribute [local irreducible] SL
theorem isl_SLL {c:Ctx} {E:Nat→Option Nat} {L:List AB} {i lo n:Nat} {ok:IsK} {w:World} {x:DV} {v:Value} {m:Nat} (hi:L[i]? = some (.isle lo n ok)) (hf:FitS 3 m x) (h:VR (rcOf c.M0 E L w) (.isl i x) v):SL lo n w 3 m v:=by
 simp only [VR] at h
 obtain ⟨⟨ab,hab,hr⟩,_⟩:=h
 rw [hi] at hab
 cases hab
 exact SL_of_is hf hr
theorem lit_sp (m:Msg) (h:m.small) {L:List AB} {i lo n:Nat} {ok:IsK} (hi:L[i]? = some (.isle lo n ok)) (c:Ctx) (E:Nat→Option Nat) (w:World) (cur:Array Value) (hbl:∀ b,lo≤b→b<lo+n→b<w.heap.size) (hv:VRs (rcOf c.M0 E L w) (m.acs i) cur.toList) :
  Calls Tryz.prog 60 #[.slice (some ⟨w.heap.size,0,none⟩) 1 1] (w.alloc (.cells cur 49)) fun e w'=>e = .returned (.tuple #[])∧Spoil lo n w w':=by
 simp only [Msg.acs,VRs] at hv
 obtain ⟨a0,_,e,-,h0,a1,_,rfl,-,h1,a2,_,rfl,-,h2,a3,_,rfl,-,h3,a4,_,rfl,-,h4,a5,_,rfl,-,h5,a6,_,rfl,-,h6,a7,_,rfl,-,h7,a8,_,rfl,-,h8,a9,_,rfl,-,h9,a10,_,rfl,-,h10,a11,_,rfl,-,h11,a12,_,rfl,-,h12,a13,_,rfl,-,h13,a14,_,rfl,-,h14,a15,_,rfl,-,h15,a16,_,rfl,-,h16,a17,_,rfl,-,h17,rfl⟩:=hv
 have hi64:∀ {z:Int} {a:Value},VR (rcOf c.M0 E L w) (.d (.int .i64 z)) a→a = .int .i64 z:=fun {z a} hz=>by simpa only [VR,VD] using hz
 have b0:=hi64 h0
 have b1:=hi64 h1
 have b2:=hi64 h2
 have b3:=hi64 h3
 have b4:=hi64 h4
 have b5:=hi64 h5
 have b7:=hi64 h7
 have b8:=hi64 h8
 have b11:=hi64 h11
 have b12:=hi64 h12
 have b15:=hi64 h15
 subst b0 b1 b2 b3 b4 b5 b7 b8 b11 b12 b15
 have hc:cur = #[.int .i64 m.kind,.int .i64 m.src,.int .i64 m.dst,.int .i64 m.digest,.int .i64 m.ba,.int .i64 m.bn,a6,.int .i64 m.head.author,.int .i64 m.head.round,a9,a10,.int .i64 m.cert.author,.int .i64 m.cert.round,a13,a14,.int .i64 m.cert.digest,a16,a17]:=by
  rw [← Array.toArray_toList (xs:=cur),e]
 rw [hc]
 have f1:∀ {l:List Int},l.length≤3000→FitS 3 1 (.sl 1 (nums l)):=fun {l} hl=>fsI l (by omega) 2
 exact messages_lit lo n 1 w _ _ _ _ _ _ _ _ _ _ _ _ _ _ _ _ _ _ (isl_SLL hi (fsT _ (by have:=h.txs;omega) 2) h6) (isl_SLL hi (f1 h.head.1) h9) (isl_SLL hi (f1 h.head.2) h10) (isl_SLL hi (f1 h.cert.1) h13) (isl_SLL hi (f1 h.cert.2.1) h14) (isl_SLL hi (f1 h.cert.2.2) h16) (isl_SLL hi (f1 h.digs) h17) hbl
end Go.Proofs.YtolkmjfkkkiboaaGreat
namespace Go.Proofs.YtolkmjfkkkiboaaGreat
open Go.Ab Go.RowKit Go.MapKept
attribute [local irreducible] ACalls AW ADraw Into fltB fnear
set_option maxRecDepth 100000
structure TakeF (p:Prim) (m:Msg) (held:List Int) (C:Prop) (q:Prim) (o:List Msg):Prop where
 page:May p→ACalls Tryz.prog 56 [p.av,m.av,.d (.sl 1 (nums held))] [] (fun av L=>(C∧goodT q o av L)∨(¬C∧badT p 1 av L))
 prog:∀ lo n,ACalls Tryz.prog 58 [p.av,m.ai 0,.d (.sl 1 (nums held))] [.isle lo n true] (fun av L=>((C∧av=outJ q o 0)∨(¬C∧av=outJ zP [] 1))∧∃ lo2 n2,L=[.isle lo n true,.isle lo2 n2 true])
 may:C→May p
 qok:C→q.ok∧q.fitS
 nice:C→∀ x∈o,x.nice
 len:C→o.length≤100000
set_option maxHeartbeats 8000000 in
open Classical in
theorem step4_ok (p:Prim) (hok:p.ok) (ht:p.tiny) (hf:p.fitS) (hdl:p.dag.certs.length≤1000) (a:Act) (h0:a.doo=4) (had:i64 a.d) (hal:a.l.length≤1000) (has:a.m.small)
  (hT:∀ m:Msg,m.small→m.kind=a.m.kind→∃ C q o,TakeF p m a.l C q o) :
  ACalls Tryz.prog 19 [p.av,a.av] [] (fun av L=>(∃ q:Prim,av = .tup [q.av,.d (.bool true)])∧L=[]):=by
 have h1:=copyPrim_ok p ht
 have h2:=rMay20_ok p hok
 have h3:=within_ok a.doo 10 (by decide) (by decide) (by rw [h0];decide)
 have hfd:few p.dag.certs∧∀ c∈p.dag.certs,fewL c:=⟨by have:=hf.dag.1;unfold few;omega,fun c hc=>fit_few (hf.dag.2 c hc)⟩
 have hfl:few p.late∧∀ c∈p.late,fewL c:=⟨by have:=hf.late.1;unfold few;omega,fun c hc=>fit_few (hf.late.2 c hc)⟩
 have hv:few p.votes:=by have:=hf.votes;unfold few;omega
 have ha:few p.acks:=by have:=hf.acks;unfold few;omega
 have hmm:few p.mine.bats∧few p.mine.pars:=⟨by have:=hf.bats;unfold few;omega,by have:=hf.pars;unfold few;omega⟩
 have h6:=eqPrim_same p hok hfd hfl hv ha hmm
 have hfit:=fitK_ok p hok hdl a has had
 have hcn:=copyNumbers_ok a.l (by unfold tiny;omega)
 rw [show a.doo % 18446744073709551616 % 10=4 by rw [h0];decide] at h3
 refine acalls_cut ttOk zOk foOk 8 Tryz.func19 rfl Tryz.ntmps19 rfl false rfl ?_
 conv=>whnf
 refine h1.mono ?_
 rintro _ _ ⟨rfl,rfl⟩
 conv=>whnf
 refine rdw ?_;repeat' ((with_reducible apply tw)<;>intro _)
 refine h2.mono ?_
 rintro _ _ ⟨rfl,rfl⟩
 obtain ⟨b,hb⟩:∃ b,decide (May p)=b:=⟨_,rfl⟩
 rw [hb]
 conv=>whnf
 refine rdw ?_;repeat' ((with_reducible apply tw)<;>intro _)
 (refine (h3).mono ?_;rintro _ _ ⟨rfl,rfl⟩;(conv=>whnf))
 refine rdw ?_;repeat' ((with_reducible apply tw)<;>intro _)
 refine aw_seq (aw_seq (AW_go ttOk zOk foOk ?_))
 conv=>whnf
 refine ⟨rfl,?_⟩
 refine aw_block (aw_seqr (AW_go ttOk zOk foOk ?_))
 conv=>whnf
 refine rdw ?_;repeat' ((with_reducible apply tw)<;>intro _)
 refine aw_cond ?_
 conv=>whnf
 refine aw_seqr (AW_go ttOk zOk foOk ?_)
 conv=>whnf
 refine aw_cond ?_
 conv=>whnf
 refine aw_seqr (AW_go ttOk zOk foOk ?_)
 conv=>whnf
 refine aw_cond ?_
 conv=>whnf
 refine aw_seqr (AW_go ttOk zOk foOk ?_)
 conv=>whnf
 refine rdw ?_;repeat' ((with_reducible apply tw)<;>intro _)
 refine hfit.mono ?_
 rintro _ _ ⟨⟨m,rfl,hms,hmk⟩,rfl⟩
 obtain ⟨C,q,o,hF⟩:=hT m hms hmk
 obtain ⟨hcm⟩:Nonempty (ACalls Tryz.prog 57 [m.av] [] (fun av L=>av=m.ai 0∧∃ lo n,L=[.isle lo n true])):=⟨copyMsgI_ok m hms⟩
 conv=>whnf
 refine rdw ?_;repeat' ((with_reducible apply tw)<;>intro _)
 cases b with
 | false =>
   have hC:¬C:=fun h=>of_decide_eq_false hb (hF.may h)
   refine aw_seqr (AW_go ttOk zOk foOk ?_)
   conv=>whnf
   refine aw_seqr (AW_go ttOk zOk foOk ?_)
   conv=>whnf
   refine rdw ?_;repeat' ((with_reducible apply tw)<;>intro _)
   refine hcm.mono ?_
   rintro _ _ ⟨rfl,lo,n,rfl⟩
   conv=>whnf
   refine rdw ?_;repeat' ((with_reducible apply tw)<;>intro _)
   refine aw_seqr (AW_go ttOk zOk foOk ?_)
   conv=>whnf
   ((with_reducible refine draw_pl ttOk zOk foOk mixedOk pl19x13 ?_ ?_);(focus kernel_rfl);(conv=>whnf))
   refine rdw ?_;repeat' ((with_reducible apply tw)<;>intro _)
   (refine (hcn).mono ?_;rintro _ _ ⟨rfl,rfl⟩;(conv=>whnf))
   refine rdw ?_;repeat' ((with_reducible apply tw)<;>intro _)
   refine (hF.prog lo n).mono ?_
   rintro _ _ ⟨⟨hyes,_⟩|⟨_,rfl⟩,lo2,n2,rfl⟩
   ·exact absurd hyes hC
   conv=>whnf
   refine rdw ?_;repeat' ((with_reducible apply tw)<;>intro _)
   refine aw_seqr (AW_go ttOk zOk foOk ?_)
   conv=>whnf
   refine rdw ?_;repeat' ((with_reducible apply tw)<;>intro _)
   refine (eqCI_ok m hms.fine lo n).mono ?_
   rintro _ _ ⟨rfl,rfl⟩
   conv=>whnf
   first
    | refine aw_lit ttOk zOk foOk (i:=12) (lo:=lo) (m:=n) (ok:=true) (mav:=m.acs 12) rfl rfl rfl rfl rfl rfl (by decide) rfl (by decide) rfl (by decide) (by (conv=>whnf);exact ⟨rfl,rfl⟩) rfl rfl rfl rfl rfl rfl rfl (by decide) (by decide) rfl (by (conv=>whnf);rfl) (fun c E w cur hbl hv=>lit_sp m hms rfl c E w cur hbl hv) ?_
    | refine aw_lit ttOk zOk foOk (i:=13) (lo:=lo) (m:=n) (ok:=true) (mav:=m.acs 13) rfl rfl rfl rfl rfl rfl (by decide) rfl (by decide) rfl (by decide) (by (conv=>whnf);exact ⟨rfl,rfl⟩) rfl rfl rfl rfl rfl rfl rfl (by decide) (by decide) rfl (by (conv=>whnf);rfl) (fun c E w cur hbl hv=>lit_sp m hms rfl c E w cur hbl hv) ?_
    | refine aw_lit ttOk zOk foOk (i:=14) (lo:=lo) (m:=n) (ok:=true) (mav:=m.acs 14) rfl rfl rfl rfl rfl rfl (by decide) rfl (by decide) rfl (by decide) (by (conv=>whnf);exact ⟨rfl,rfl⟩) rfl rfl rfl rfl rfl rfl rfl (by decide) (by decide) rfl (by (conv=>whnf);rfl) (fun c E w cur hbl hv=>lit_sp m hms rfl c E w cur hbl hv) ?_
    | refine aw_lit ttOk zOk foOk (i:=15) (lo:=lo) (m:=n) (ok:=true) (mav:=m.acs 15) rfl rfl rfl rfl rfl rfl (by decide) rfl (by decide) rfl (by decide) (by (conv=>whnf);exact ⟨rfl,rfl⟩) rfl rfl rfl rfl rfl rfl rfl (by decide) (by decide) rfl (by (conv=>whnf);rfl) (fun c E w cur hbl hv=>lit_sp m hms rfl c E w cur hbl hv) ?_
    | refine aw_lit ttOk zOk foOk (i:=16) (lo:=lo) (m:=n) (ok:=true) (mav:=m.acs 16) rfl rfl rfl rfl rfl rfl (by decide) rfl (by decide) rfl (by decide) (by (conv=>whnf);exact ⟨rfl,rfl⟩) rfl rfl rfl rfl rfl rfl rfl (by decide) (by decide) rfl (by (conv=>whnf);rfl) (fun c E w cur hbl hv=>lit_sp m hms rfl c E w cur hbl hv) ?_
    | refine aw_lit ttOk zOk foOk (i:=17) (lo:=lo) (m:=n) (ok:=true) (mav:=m.acs 17) rfl rfl rfl rfl rfl rfl (by decide) rfl (by decide) rfl (by decide) (by (conv=>whnf);exact ⟨rfl,rfl⟩) rfl rfl rfl rfl rfl rfl rfl (by decide) (by decide) rfl (by (conv=>whnf);rfl) (fun c E w cur hbl hv=>lit_sp m hms rfl c E w cur hbl hv) ?_
    | refine aw_lit ttOk zOk foOk (i:=18) (lo:=lo) (m:=n) (ok:=true) (mav:=m.acs 18) rfl rfl rfl rfl rfl rfl (by decide) rfl (by decide) rfl (by decide) (by (conv=>whnf);exact ⟨rfl,rfl⟩) rfl rfl rfl rfl rfl rfl rfl (by decide) (by decide) rfl (by (conv=>whnf);rfl) (fun c E w cur hbl hv=>lit_sp m hms rfl c E w cur hbl hv) ?_
    | refine aw_lit ttOk zOk foOk (i:=19) (lo:=lo) (m:=n) (ok:=true) (mav:=m.acs 19) rfl rfl rfl rfl rfl rfl (by decide) rfl (by decide) rfl (by decide) (by (conv=>whnf);exact ⟨rfl,rfl⟩) rfl rfl rfl rfl rfl rfl rfl (by decide) (by decide) rfl (by (conv=>whnf);rfl) (fun c E w cur hbl hv=>lit_sp m hms rfl c E w cur hbl hv) ?_
    | refine aw_lit ttOk zOk foOk (i:=20) (lo:=lo) (m:=n) (ok:=true) (mav:=m.acs 20) rfl rfl rfl rfl rfl rfl (by decide) rfl (by decide) rfl (by decide) (by (conv=>whnf);exact ⟨rfl,rfl⟩) rfl rfl rfl rfl rfl rfl rfl (by decide) (by decide) rfl (by (conv=>whnf);rfl) (fun c E w cur hbl hv=>lit_sp m hms rfl c E w cur hbl hv) ?_
    | refine aw_lit ttOk zOk foOk (i:=21) (lo:=lo) (m:=n) (ok:=true) (mav:=m.acs 21) rfl rfl rfl rfl rfl rfl (by decide) rfl (by decide) rfl (by decide) (by (conv=>whnf);exact ⟨rfl,rfl⟩) rfl rfl rfl rfl rfl rfl rfl (by decide) (by decide) rfl (by (conv=>whnf);rfl) (fun c E w cur hbl hv=>lit_sp m hms rfl c E w cur hbl hv) ?_
    | refine aw_lit ttOk zOk foOk (i:=22) (lo:=lo) (m:=n) (ok:=true) (mav:=m.acs 22) rfl rfl rfl rfl rfl rfl (by decide) rfl (by decide) rfl (by decide) (by (conv=>whnf);exact ⟨rfl,rfl⟩) rfl rfl rfl rfl rfl rfl rfl (by decide) (by decide) rfl (by (conv=>whnf);rfl) (fun c E w cur hbl hv=>lit_sp m hms rfl c E w cur hbl hv) ?_
    | refine aw_lit ttOk zOk foOk (i:=23) (lo:=lo) (m:=n) (ok:=true) (mav:=m.acs 23) rfl rfl rfl rfl rfl rfl (by decide) rfl (by decide) rfl (by decide) (by (conv=>whnf);exact ⟨rfl,rfl⟩) rfl rfl rfl rfl rfl rfl rfl (by decide) (by decide) rfl (by (conv=>whnf);rfl) (fun c E w cur hbl hv=>lit_sp m hms rfl c E w cur hbl hv) ?_
    | fail
   refine ⟨rfl,AW_go ttOk zOk foOk ?_⟩
   conv=>whnf
   refine rdw ?_;repeat' ((with_reducible apply tw)<;>intro _)
   ((with_reducible refine draw_pl ttOk zOk foOk mixedOk pl19x54 ?_ ?_);(focus kernel_rfl);(conv=>whnf))
   refine rdw ?_;repeat' ((with_reducible apply tw)<;>intro _)
   (refine (num20_ok 1).mono ?_;rintro _ _ ⟨rfl,rfl⟩;(conv=>whnf))
   refine rdw ?_;repeat' ((with_reducible apply tw)<;>intro _)
   (refine (eqPZ_ok lo2 n2).mono ?_;rintro _ _ ⟨rfl,rfl⟩;(conv=>whnf))
   refine rdw ?_;repeat' ((with_reducible apply tw)<;>intro _)
   (refine Or.inr ?_;(conv=>whnf))
   (refine (eqMI_ok [] (Nat.zero_le _) (fun _ h=>by cases h) lo2 n2).mono ?_;rintro _ _ ⟨rfl,rfl⟩;(conv=>whnf))
   refine rdw ?_;repeat' ((with_reducible apply tw)<;>intro _)
   (refine (h6).mono ?_;rintro _ _ ⟨rfl,rfl⟩;(conv=>whnf))
   refine rdw ?_;repeat' ((with_reducible apply tw)<;>intro _)
   (refine (spoilP_ok zP zP_fit lo2 n2 true).mono ?_;rintro _ _ ⟨rfl,rfl⟩;(conv=>whnf))
   refine rdw ?_;repeat' ((with_reducible apply tw)<;>intro _)
   (refine (spoilM_ok [] (Nat.zero_le _) (fun _ h=>by cases h) lo2 n2 false).mono ?_;rintro _ _ ⟨rfl,rfl⟩;(conv=>whnf))
   refine rdw ?_;repeat' ((with_reducible apply tw)<;>intro _)
   ((with_reducible refine draw_pl ttOk zOk foOk mixedOk pl19x58 ?_ ?_);(focus kernel_rfl);(conv=>whnf))
   repeat' (first|(first|((with_reducible first|apply rd_intro|apply gd_and);(focus ((conv=>whnf)<;>first|rfl|(intro K hK;(conv=>whnf);first|exact hK|exact z_wrap (by omega) hK)));conv=>whnf)|((with_reducible apply z_wrap);(focus omega);conv=>whnf)|((with_reducible first|apply mt_dec|apply mt_eq|apply mt_ne|apply mt_not|apply mt_any)<;>(intro _;conv=>whnf)))|((with_reducible apply rd_intro);(focus (intro K hK;(conv=>whnf);refine h6.mono ?_;rintro _ _ ⟨rfl,rfl⟩;(conv=>whnf);exact hK));(conv=>whnf))|((with_reducible apply gd_and);(focus ((conv=>whnf);intro K hK;(conv=>whnf);refine h6.mono ?_;rintro _ _ ⟨rfl,rfl⟩;(conv=>whnf);exact hK));(conv=>whnf))|(refine (h6).mono ?_;rintro _ _ ⟨rfl,rfl⟩;(conv=>whnf))|fail)
   exact ⟨.inl rfl,⟨p,rfl⟩,rfl⟩
 | true =>
   have k1:May p:=of_decide_eq_true hb
   refine aw_seqr (AW_go ttOk zOk foOk ?_)
   conv=>whnf
   refine rdw ?_;repeat' ((with_reducible apply tw)<;>intro _)
   refine (hF.page k1).mono ?_
   rintro _ _ (⟨hC,rfl,j,rfl⟩|⟨hC,rfl,rfl⟩)
   ·obtain ⟨q1,q2⟩:=hF.qok hC
    cases j
    ·conv=>whnf
     refine aw_seqr (AW_go ttOk zOk foOk ?_)
     conv=>whnf
     refine rdw ?_;repeat' ((with_reducible apply tw)<;>intro _)
     refine hcm.mono ?_
     rintro _ _ ⟨rfl,lo,n,rfl⟩
     conv=>whnf
     refine rdw ?_;repeat' ((with_reducible apply tw)<;>intro _)
     refine aw_seqr (AW_go ttOk zOk foOk ?_)
     conv=>whnf
     ((with_reducible refine draw_pl ttOk zOk foOk mixedOk pl19x13 ?_ ?_);(focus kernel_rfl);(conv=>whnf))
     refine rdw ?_;repeat' ((with_reducible apply tw)<;>intro _)
     (refine (hcn).mono ?_;rintro _ _ ⟨rfl,rfl⟩;(conv=>whnf))
     refine rdw ?_;repeat' ((with_reducible apply tw)<;>intro _)
     refine (hF.prog lo n).mono ?_
     rintro _ _ ⟨⟨_,rfl⟩|⟨hno,_⟩,lo2,n2,rfl⟩
     rotate_left
     ·exact absurd hC hno
     conv=>whnf
     refine rdw ?_;repeat' ((with_reducible apply tw)<;>intro _)
     refine aw_seqr (AW_go ttOk zOk foOk ?_)
     conv=>whnf
     refine rdw ?_;repeat' ((with_reducible apply tw)<;>intro _)
     refine (eqCI_ok m hms.fine lo n).mono ?_
     rintro _ _ ⟨rfl,rfl⟩
     conv=>whnf
     first
      | refine aw_lit ttOk zOk foOk (i:=12) (lo:=lo) (m:=n) (ok:=true) (mav:=m.acs 12) rfl rfl rfl rfl rfl rfl (by decide) rfl (by decide) rfl (by decide) (by (conv=>whnf);exact ⟨rfl,rfl⟩) rfl rfl rfl rfl rfl rfl rfl (by decide) (by decide) rfl (by (conv=>whnf);rfl) (fun c E w cur hbl hv=>lit_sp m hms rfl c E w cur hbl hv) ?_
      | refine aw_lit ttOk zOk foOk (i:=13) (lo:=lo) (m:=n) (ok:=true) (mav:=m.acs 13) rfl rfl rfl rfl rfl rfl (by decide) rfl (by decide) rfl (by decide) (by (conv=>whnf);exact ⟨rfl,rfl⟩) rfl rfl rfl rfl rfl rfl rfl (by decide) (by decide) rfl (by (conv=>whnf);rfl) (fun c E w cur hbl hv=>lit_sp m hms rfl c E w cur hbl hv) ?_
      | refine aw_lit ttOk zOk foOk (i:=14) (lo:=lo) (m:=n) (ok:=true) (mav:=m.acs 14) rfl rfl rfl rfl rfl rfl (by decide) rfl (by decide) rfl (by decide) (by (conv=>whnf);exact ⟨rfl,rfl⟩) rfl rfl rfl rfl rfl rfl rfl (by decide) (by decide) rfl (by (conv=>whnf);rfl) (fun c E w cur hbl hv=>lit_sp m hms rfl c E w cur hbl hv) ?_
      | refine aw_lit ttOk zOk foOk (i:=15) (lo:=lo) (m:=n) (ok:=true) (mav:=m.acs 15) rfl rfl rfl rfl rfl rfl (by decide) rfl (by decide) rfl (by decide) (by (conv=>whnf);exact ⟨rfl,rfl⟩) rfl rfl rfl rfl rfl rfl rfl (by decide) (by decide) rfl (by (conv=>whnf);rfl) (fun c E w cur hbl hv=>lit_sp m hms rfl c E w cur hbl hv) ?_
      | refine aw_lit ttOk zOk foOk (i:=16) (lo:=lo) (m:=n) (ok:=true) (mav:=m.acs 16) rfl rfl rfl rfl rfl rfl (by decide) rfl (by decide) rfl (by decide) (by (conv=>whnf);exact ⟨rfl,rfl⟩) rfl rfl rfl rfl rfl rfl rfl (by decide) (by decide) rfl (by (conv=>whnf);rfl) (fun c E w cur hbl hv=>lit_sp m hms rfl c E w cur hbl hv) ?_
      | refine aw_lit ttOk zOk foOk (i:=17) (lo:=lo) (m:=n) (ok:=true) (mav:=m.acs 17) rfl rfl rfl rfl rfl rfl (by decide) rfl (by decide) rfl (by decide) (by (conv=>whnf);exact ⟨rfl,rfl⟩) rfl rfl rfl rfl rfl rfl rfl (by decide) (by decide) rfl (by (conv=>whnf);rfl) (fun c E w cur hbl hv=>lit_sp m hms rfl c E w cur hbl hv) ?_
      | refine aw_lit ttOk zOk foOk (i:=18) (lo:=lo) (m:=n) (ok:=true) (mav:=m.acs 18) rfl rfl rfl rfl rfl rfl (by decide) rfl (by decide) rfl (by decide) (by (conv=>whnf);exact ⟨rfl,rfl⟩) rfl rfl rfl rfl rfl rfl rfl (by decide) (by decide) rfl (by (conv=>whnf);rfl) (fun c E w cur hbl hv=>lit_sp m hms rfl c E w cur hbl hv) ?_
      | refine aw_lit ttOk zOk foOk (i:=19) (lo:=lo) (m:=n) (ok:=true) (mav:=m.acs 19) rfl rfl rfl rfl rfl rfl (by decide) rfl (by decide) rfl (by decide) (by (conv=>whnf);exact ⟨rfl,rfl⟩) rfl rfl rfl rfl rfl rfl rfl (by decide) (by decide) rfl (by (conv=>whnf);rfl) (fun c E w cur hbl hv=>lit_sp m hms rfl c E w cur hbl hv) ?_
      | refine aw_lit ttOk zOk foOk (i:=20) (lo:=lo) (m:=n) (ok:=true) (mav:=m.acs 20) rfl rfl rfl rfl rfl rfl (by decide) rfl (by decide) rfl (by decide) (by (conv=>whnf);exact ⟨rfl,rfl⟩) rfl rfl rfl rfl rfl rfl rfl (by decide) (by decide) rfl (by (conv=>whnf);rfl) (fun c E w cur hbl hv=>lit_sp m hms rfl c E w cur hbl hv) ?_
      | refine aw_lit ttOk zOk foOk (i:=21) (lo:=lo) (m:=n) (ok:=true) (mav:=m.acs 21) rfl rfl rfl rfl rfl rfl (by decide) rfl (by decide) rfl (by decide) (by (conv=>whnf);exact ⟨rfl,rfl⟩) rfl rfl rfl rfl rfl rfl rfl (by decide) (by decide) rfl (by (conv=>whnf);rfl) (fun c E w cur hbl hv=>lit_sp m hms rfl c E w cur hbl hv) ?_
      | refine aw_lit ttOk zOk foOk (i:=22) (lo:=lo) (m:=n) (ok:=true) (mav:=m.acs 22) rfl rfl rfl rfl rfl rfl (by decide) rfl (by decide) rfl (by decide) (by (conv=>whnf);exact ⟨rfl,rfl⟩) rfl rfl rfl rfl rfl rfl rfl (by decide) (by decide) rfl (by (conv=>whnf);rfl) (fun c E w cur hbl hv=>lit_sp m hms rfl c E w cur hbl hv) ?_
      | refine aw_lit ttOk zOk foOk (i:=23) (lo:=lo) (m:=n) (ok:=true) (mav:=m.acs 23) rfl rfl rfl rfl rfl rfl (by decide) rfl (by decide) rfl (by decide) (by (conv=>whnf);exact ⟨rfl,rfl⟩) rfl rfl rfl rfl rfl rfl rfl (by decide) (by decide) rfl (by (conv=>whnf);rfl) (fun c E w cur hbl hv=>lit_sp m hms rfl c E w cur hbl hv) ?_
      | fail
     refine ⟨rfl,AW_go ttOk zOk foOk ?_⟩
     conv=>whnf
     refine rdw ?_;repeat' ((with_reducible apply tw)<;>intro _)
     ((with_reducible refine draw_pl ttOk zOk foOk mixedOk pl19x54 ?_ ?_);(focus kernel_rfl);(conv=>whnf))
     refine rdw ?_;repeat' ((with_reducible apply tw)<;>intro _)
     (refine (num20_ok 0).mono ?_;rintro _ _ ⟨rfl,rfl⟩;(conv=>whnf))
     refine rdw ?_;repeat' ((with_reducible apply tw)<;>intro _)
     (refine (eqPI_ok q q1 ⟨by have:=q2.dag.1;unfold few;omega,fun c hc=>fit_few (q2.dag.2 c hc)⟩ ⟨by have:=q2.late.1;unfold few;omega,fun c hc=>fit_few (q2.late.2 c hc)⟩ (by have:=q2.votes;unfold few;omega) (by have:=q2.acks;unfold few;omega) ⟨by have:=q2.bats;unfold few;omega,by have:=q2.pars;unfold few;omega⟩ lo2 n2).mono ?_;rintro _ _ ⟨rfl,rfl⟩;(conv=>whnf))
     refine rdw ?_;repeat' ((with_reducible apply tw)<;>intro _)
     (refine Or.inr ?_;(conv=>whnf))
     (refine (eqMI_ok o (by have:=hF.len hC;unfold few;omega) (hF.nice hC) lo2 n2).mono ?_;rintro _ _ ⟨rfl,rfl⟩;(conv=>whnf))
     refine rdw ?_;repeat' ((with_reducible apply tw)<;>intro _)
     (refine (h6).mono ?_;rintro _ _ ⟨rfl,rfl⟩;(conv=>whnf))
     refine rdw ?_;repeat' ((with_reducible apply tw)<;>intro _)
     (refine (spoilP_ok q q2 lo2 n2 true).mono ?_;rintro _ _ ⟨rfl,rfl⟩;(conv=>whnf))
     refine rdw ?_;repeat' ((with_reducible apply tw)<;>intro _)
     (refine (spoilM_ok o (by have:=hF.len hC;omega) (fun m hm=>(hF.nice hC m hm).fit) lo2 n2 false).mono ?_;rintro _ _ ⟨rfl,rfl⟩;(conv=>whnf))
     refine rdw ?_;repeat' ((with_reducible apply tw)<;>intro _)
     ((with_reducible refine draw_pl ttOk zOk foOk mixedOk pl19x59 ?_ ?_);(focus kernel_rfl);(conv=>whnf))
     repeat' (first|(first|((with_reducible first|apply rd_intro|apply gd_and);(focus ((conv=>whnf)<;>first|rfl|(intro K hK;(conv=>whnf);first|exact hK|exact z_wrap (by omega) hK)));conv=>whnf)|((with_reducible apply z_wrap);(focus omega);conv=>whnf)|((with_reducible first|apply mt_dec|apply mt_eq|apply mt_ne|apply mt_not|apply mt_any)<;>(intro _;conv=>whnf)))|((with_reducible apply rd_intro);(focus (intro K hK;(conv=>whnf);refine h6.mono ?_;rintro _ _ ⟨rfl,rfl⟩;(conv=>whnf);exact hK));(conv=>whnf))|((with_reducible apply gd_and);(focus ((conv=>whnf);intro K hK;(conv=>whnf);refine h6.mono ?_;rintro _ _ ⟨rfl,rfl⟩;(conv=>whnf);exact hK));(conv=>whnf))|(refine (h6).mono ?_;rintro _ _ ⟨rfl,rfl⟩;(conv=>whnf))|fail)
     exact ⟨.inl rfl,⟨q,rfl⟩,rfl⟩
    ·conv=>whnf
     refine aw_seqr (AW_go ttOk zOk foOk ?_)
     conv=>whnf
     refine rdw ?_;repeat' ((with_reducible apply tw)<;>intro _)
     refine hcm.mono ?_
     rintro _ _ ⟨rfl,lo,n,rfl⟩
     conv=>whnf
     refine rdw ?_;repeat' ((with_reducible apply tw)<;>intro _)
     refine aw_seqr (AW_go ttOk zOk foOk ?_)
     conv=>whnf
     ((with_reducible refine draw_pl ttOk zOk foOk mixedOk pl19x13 ?_ ?_);(focus kernel_rfl);(conv=>whnf))
     refine rdw ?_;repeat' ((with_reducible apply tw)<;>intro _)
     (refine (hcn).mono ?_;rintro _ _ ⟨rfl,rfl⟩;(conv=>whnf))
     refine rdw ?_;repeat' ((with_reducible apply tw)<;>intro _)
     refine (hF.prog lo n).mono ?_
     rintro _ _ ⟨⟨_,rfl⟩|⟨hno,_⟩,lo2,n2,rfl⟩
     rotate_left
     ·exact absurd hC hno
     conv=>whnf
     refine rdw ?_;repeat' ((with_reducible apply tw)<;>intro _)
     refine aw_seqr (AW_go ttOk zOk foOk ?_)
     conv=>whnf
     refine rdw ?_;repeat' ((with_reducible apply tw)<;>intro _)
     refine (eqCI_ok m hms.fine lo n).mono ?_
     rintro _ _ ⟨rfl,rfl⟩
     conv=>whnf
     first
      | refine aw_lit ttOk zOk foOk (i:=12) (lo:=lo) (m:=n) (ok:=true) (mav:=m.acs 12) rfl rfl rfl rfl rfl rfl (by decide) rfl (by decide) rfl (by decide) (by (conv=>whnf);exact ⟨rfl,rfl⟩) rfl rfl rfl rfl rfl rfl rfl (by decide) (by decide) rfl (by (conv=>whnf);rfl) (fun c E w cur hbl hv=>lit_sp m hms rfl c E w cur hbl hv) ?_
      | refine aw_lit ttOk zOk foOk (i:=13) (lo:=lo) (m:=n) (ok:=true) (mav:=m.acs 13) rfl rfl rfl rfl rfl rfl (by decide) rfl (by decide) rfl (by decide) (by (conv=>whnf);exact ⟨rfl,rfl⟩) rfl rfl rfl rfl rfl rfl rfl (by decide) (by decide) rfl (by (conv=>whnf);rfl) (fun c E w cur hbl hv=>lit_sp m hms rfl c E w cur hbl hv) ?_
      | refine aw_lit ttOk zOk foOk (i:=14) (lo:=lo) (m:=n) (ok:=true) (mav:=m.acs 14) rfl rfl rfl rfl rfl rfl (by decide) rfl (by decide) rfl (by decide) (by (conv=>whnf);exact ⟨rfl,rfl⟩) rfl rfl rfl rfl rfl rfl rfl (by decide) (by decide) rfl (by (conv=>whnf);rfl) (fun c E w cur hbl hv=>lit_sp m hms rfl c E w cur hbl hv) ?_
      | refine aw_lit ttOk zOk foOk (i:=15) (lo:=lo) (m:=n) (ok:=true) (mav:=m.acs 15) rfl rfl rfl rfl rfl rfl (by decide) rfl (by decide) rfl (by decide) (by (conv=>whnf);exact ⟨rfl,rfl⟩) rfl rfl rfl rfl rfl rfl rfl (by decide) (by decide) rfl (by (conv=>whnf);rfl) (fun c E w cur hbl hv=>lit_sp m hms rfl c E w cur hbl hv) ?_
      | refine aw_lit ttOk zOk foOk (i:=16) (lo:=lo) (m:=n) (ok:=true) (mav:=m.acs 16) rfl rfl rfl rfl rfl rfl (by decide) rfl (by decide) rfl (by decide) (by (conv=>whnf);exact ⟨rfl,rfl⟩) rfl rfl rfl rfl rfl rfl rfl (by decide) (by decide) rfl (by (conv=>whnf);rfl) (fun c E w cur hbl hv=>lit_sp m hms rfl c E w cur hbl hv) ?_
      | refine aw_lit ttOk zOk foOk (i:=17) (lo:=lo) (m:=n) (ok:=true) (mav:=m.acs 17) rfl rfl rfl rfl rfl rfl (by decide) rfl (by decide) rfl (by decide) (by (conv=>whnf);exact ⟨rfl,rfl⟩) rfl rfl rfl rfl rfl rfl rfl (by decide) (by decide) rfl (by (conv=>whnf);rfl) (fun c E w cur hbl hv=>lit_sp m hms rfl c E w cur hbl hv) ?_
      | refine aw_lit ttOk zOk foOk (i:=18) (lo:=lo) (m:=n) (ok:=true) (mav:=m.acs 18) rfl rfl rfl rfl rfl rfl (by decide) rfl (by decide) rfl (by decide) (by (conv=>whnf);exact ⟨rfl,rfl⟩) rfl rfl rfl rfl rfl rfl rfl (by decide) (by decide) rfl (by (conv=>whnf);rfl) (fun c E w cur hbl hv=>lit_sp m hms rfl c E w cur hbl hv) ?_
      | refine aw_lit ttOk zOk foOk (i:=19) (lo:=lo) (m:=n) (ok:=true) (mav:=m.acs 19) rfl rfl rfl rfl rfl rfl (by decide) rfl (by decide) rfl (by decide) (by (conv=>whnf);exact ⟨rfl,rfl⟩) rfl rfl rfl rfl rfl rfl rfl (by decide) (by decide) rfl (by (conv=>whnf);rfl) (fun c E w cur hbl hv=>lit_sp m hms rfl c E w cur hbl hv) ?_
      | refine aw_lit ttOk zOk foOk (i:=20) (lo:=lo) (m:=n) (ok:=true) (mav:=m.acs 20) rfl rfl rfl rfl rfl rfl (by decide) rfl (by decide) rfl (by decide) (by (conv=>whnf);exact ⟨rfl,rfl⟩) rfl rfl rfl rfl rfl rfl rfl (by decide) (by decide) rfl (by (conv=>whnf);rfl) (fun c E w cur hbl hv=>lit_sp m hms rfl c E w cur hbl hv) ?_
      | refine aw_lit ttOk zOk foOk (i:=21) (lo:=lo) (m:=n) (ok:=true) (mav:=m.acs 21) rfl rfl rfl rfl rfl rfl (by decide) rfl (by decide) rfl (by decide) (by (conv=>whnf);exact ⟨rfl,rfl⟩) rfl rfl rfl rfl rfl rfl rfl (by decide) (by decide) rfl (by (conv=>whnf);rfl) (fun c E w cur hbl hv=>lit_sp m hms rfl c E w cur hbl hv) ?_
      | refine aw_lit ttOk zOk foOk (i:=22) (lo:=lo) (m:=n) (ok:=true) (mav:=m.acs 22) rfl rfl rfl rfl rfl rfl (by decide) rfl (by decide) rfl (by decide) (by (conv=>whnf);exact ⟨rfl,rfl⟩) rfl rfl rfl rfl rfl rfl rfl (by decide) (by decide) rfl (by (conv=>whnf);rfl) (fun c E w cur hbl hv=>lit_sp m hms rfl c E w cur hbl hv) ?_
      | refine aw_lit ttOk zOk foOk (i:=23) (lo:=lo) (m:=n) (ok:=true) (mav:=m.acs 23) rfl rfl rfl rfl rfl rfl (by decide) rfl (by decide) rfl (by decide) (by (conv=>whnf);exact ⟨rfl,rfl⟩) rfl rfl rfl rfl rfl rfl rfl (by decide) (by decide) rfl (by (conv=>whnf);rfl) (fun c E w cur hbl hv=>lit_sp m hms rfl c E w cur hbl hv) ?_
      | fail
     refine ⟨rfl,AW_go ttOk zOk foOk ?_⟩
     conv=>whnf
     refine rdw ?_;repeat' ((with_reducible apply tw)<;>intro _)
     ((with_reducible refine draw_pl ttOk zOk foOk mixedOk pl19x54 ?_ ?_);(focus kernel_rfl);(conv=>whnf))
     refine rdw ?_;repeat' ((with_reducible apply tw)<;>intro _)
     (refine (num20_ok 0).mono ?_;rintro _ _ ⟨rfl,rfl⟩;(conv=>whnf))
     refine rdw ?_;repeat' ((with_reducible apply tw)<;>intro _)
     (refine (eqPI_ok q q1 ⟨by have:=q2.dag.1;unfold few;omega,fun c hc=>fit_few (q2.dag.2 c hc)⟩ ⟨by have:=q2.late.1;unfold few;omega,fun c hc=>fit_few (q2.late.2 c hc)⟩ (by have:=q2.votes;unfold few;omega) (by have:=q2.acks;unfold few;omega) ⟨by have:=q2.bats;unfold few;omega,by have:=q2.pars;unfold few;omega⟩ lo2 n2).mono ?_;rintro _ _ ⟨rfl,rfl⟩;(conv=>whnf))
     refine rdw ?_;repeat' ((with_reducible apply tw)<;>intro _)
     (refine Or.inr ?_;(conv=>whnf))
     (refine (eqMI_ok o (by have:=hF.len hC;unfold few;omega) (hF.nice hC) lo2 n2).mono ?_;rintro _ _ ⟨rfl,rfl⟩;(conv=>whnf))
     refine rdw ?_;repeat' ((with_reducible apply tw)<;>intro _)
     (refine (h6).mono ?_;rintro _ _ ⟨rfl,rfl⟩;(conv=>whnf))
     refine rdw ?_;repeat' ((with_reducible apply tw)<;>intro _)
     (refine (spoilP_ok q q2 lo2 n2 true).mono ?_;rintro _ _ ⟨rfl,rfl⟩;(conv=>whnf))
     refine rdw ?_;repeat' ((with_reducible apply tw)<;>intro _)
     (refine (spoilM_ok o (by have:=hF.len hC;omega) (fun m hm=>(hF.nice hC m hm).fit) lo2 n2 false).mono ?_;rintro _ _ ⟨rfl,rfl⟩;(conv=>whnf))
     refine rdw ?_;repeat' ((with_reducible apply tw)<;>intro _)
     ((with_reducible refine draw_pl ttOk zOk foOk mixedOk pl19x59 ?_ ?_);(focus kernel_rfl);(conv=>whnf))
     repeat' (first|(first|((with_reducible first|apply rd_intro|apply gd_and);(focus ((conv=>whnf)<;>first|rfl|(intro K hK;(conv=>whnf);first|exact hK|exact z_wrap (by omega) hK)));conv=>whnf)|((with_reducible apply z_wrap);(focus omega);conv=>whnf)|((with_reducible first|apply mt_dec|apply mt_eq|apply mt_ne|apply mt_not|apply mt_any)<;>(intro _;conv=>whnf)))|((with_reducible apply rd_intro);(focus (intro K hK;(conv=>whnf);refine h6.mono ?_;rintro _ _ ⟨rfl,rfl⟩;(conv=>whnf);exact hK));(conv=>whnf))|((with_reducible apply gd_and);(focus ((conv=>whnf);intro K hK;(conv=>whnf);refine h6.mono ?_;rintro _ _ ⟨rfl,rfl⟩;(conv=>whnf);exact hK));(conv=>whnf))|(refine (h6).mono ?_;rintro _ _ ⟨rfl,rfl⟩;(conv=>whnf))|fail)
     exact ⟨.inl rfl,⟨q,rfl⟩,rfl⟩
   ·conv=>whnf
    refine aw_seqr (AW_go ttOk zOk foOk ?_)
    conv=>whnf
    refine rdw ?_;repeat' ((with_reducible apply tw)<;>intro _)
    refine hcm.mono ?_
    rintro _ _ ⟨rfl,lo,n,rfl⟩
    conv=>whnf
    refine rdw ?_;repeat' ((with_reducible apply tw)<;>intro _)
    refine aw_seqr (AW_go ttOk zOk foOk ?_)
    conv=>whnf
    ((with_reducible refine draw_pl ttOk zOk foOk mixedOk pl19x13 ?_ ?_);(focus kernel_rfl);(conv=>whnf))
    refine rdw ?_;repeat' ((with_reducible apply tw)<;>intro _)
    (refine (hcn).mono ?_;rintro _ _ ⟨rfl,rfl⟩;(conv=>whnf))
    refine rdw ?_;repeat' ((with_reducible apply tw)<;>intro _)
    refine (hF.prog lo n).mono ?_
    rintro _ _ ⟨⟨hyes,_⟩|⟨_,rfl⟩,lo2,n2,rfl⟩
    ·exact absurd hyes hC
    conv=>whnf
    refine rdw ?_;repeat' ((with_reducible apply tw)<;>intro _)
    refine aw_seqr (AW_go ttOk zOk foOk ?_)
    conv=>whnf
    refine rdw ?_;repeat' ((with_reducible apply tw)<;>intro _)
    refine (eqCI_ok m hms.fine lo n).mono ?_
    rintro _ _ ⟨rfl,rfl⟩
    conv=>whnf
    first
     | refine aw_lit ttOk zOk foOk (i:=12) (lo:=lo) (m:=n) (ok:=true) (mav:=m.acs 12) rfl rfl rfl rfl rfl rfl (by decide) rfl (by decide) rfl (by decide) (by (conv=>whnf);exact ⟨rfl,rfl⟩) rfl rfl rfl rfl rfl rfl rfl (by decide) (by decide) rfl (by (conv=>whnf);rfl) (fun c E w cur hbl hv=>lit_sp m hms rfl c E w cur hbl hv) ?_
     | refine aw_lit ttOk zOk foOk (i:=13) (lo:=lo) (m:=n) (ok:=true) (mav:=m.acs 13) rfl rfl rfl rfl rfl rfl (by decide) rfl (by decide) rfl (by decide) (by (conv=>whnf);exact ⟨rfl,rfl⟩) rfl rfl rfl rfl rfl rfl rfl (by decide) (by decide) rfl (by (conv=>whnf);rfl) (fun c E w cur hbl hv=>lit_sp m hms rfl c E w cur hbl hv) ?_
     | refine aw_lit ttOk zOk foOk (i:=14) (lo:=lo) (m:=n) (ok:=true) (mav:=m.acs 14) rfl rfl rfl rfl rfl rfl (by decide) rfl (by decide) rfl (by decide) (by (conv=>whnf);exact ⟨rfl,rfl⟩) rfl rfl rfl rfl rfl rfl rfl (by decide) (by decide) rfl (by (conv=>whnf);rfl) (fun c E w cur hbl hv=>lit_sp m hms rfl c E w cur hbl hv) ?_
     | refine aw_lit ttOk zOk foOk (i:=15) (lo:=lo) (m:=n) (ok:=true) (mav:=m.acs 15) rfl rfl rfl rfl rfl rfl (by decide) rfl (by decide) rfl (by decide) (by (conv=>whnf);exact ⟨rfl,rfl⟩) rfl rfl rfl rfl rfl rfl rfl (by decide) (by decide) rfl (by (conv=>whnf);rfl) (fun c E w cur hbl hv=>lit_sp m hms rfl c E w cur hbl hv) ?_
     | refine aw_lit ttOk zOk foOk (i:=16) (lo:=lo) (m:=n) (ok:=true) (mav:=m.acs 16) rfl rfl rfl rfl rfl rfl (by decide) rfl (by decide) rfl (by decide) (by (conv=>whnf);exact ⟨rfl,rfl⟩) rfl rfl rfl rfl rfl rfl rfl (by decide) (by decide) rfl (by (conv=>whnf);rfl) (fun c E w cur hbl hv=>lit_sp m hms rfl c E w cur hbl hv) ?_
     | refine aw_lit ttOk zOk foOk (i:=17) (lo:=lo) (m:=n) (ok:=true) (mav:=m.acs 17) rfl rfl rfl rfl rfl rfl (by decide) rfl (by decide) rfl (by decide) (by (conv=>whnf);exact ⟨rfl,rfl⟩) rfl rfl rfl rfl rfl rfl rfl (by decide) (by decide) rfl (by (conv=>whnf);rfl) (fun c E w cur hbl hv=>lit_sp m hms rfl c E w cur hbl hv) ?_
     | refine aw_lit ttOk zOk foOk (i:=18) (lo:=lo) (m:=n) (ok:=true) (mav:=m.acs 18) rfl rfl rfl rfl rfl rfl (by decide) rfl (by decide) rfl (by decide) (by (conv=>whnf);exact ⟨rfl,rfl⟩) rfl rfl rfl rfl rfl rfl rfl (by decide) (by decide) rfl (by (conv=>whnf);rfl) (fun c E w cur hbl hv=>lit_sp m hms rfl c E w cur hbl hv) ?_
     | refine aw_lit ttOk zOk foOk (i:=19) (lo:=lo) (m:=n) (ok:=true) (mav:=m.acs 19) rfl rfl rfl rfl rfl rfl (by decide) rfl (by decide) rfl (by decide) (by (conv=>whnf);exact ⟨rfl,rfl⟩) rfl rfl rfl rfl rfl rfl rfl (by decide) (by decide) rfl (by (conv=>whnf);rfl) (fun c E w cur hbl hv=>lit_sp m hms rfl c E w cur hbl hv) ?_
     | refine aw_lit ttOk zOk foOk (i:=20) (lo:=lo) (m:=n) (ok:=true) (mav:=m.acs 20) rfl rfl rfl rfl rfl rfl (by decide) rfl (by decide) rfl (by decide) (by (conv=>whnf);exact ⟨rfl,rfl⟩) rfl rfl rfl rfl rfl rfl rfl (by decide) (by decide) rfl (by (conv=>whnf);rfl) (fun c E w cur hbl hv=>lit_sp m hms rfl c E w cur hbl hv) ?_
     | refine aw_lit ttOk zOk foOk (i:=21) (lo:=lo) (m:=n) (ok:=true) (mav:=m.acs 21) rfl rfl rfl rfl rfl rfl (by decide) rfl (by decide) rfl (by decide) (by (conv=>whnf);exact ⟨rfl,rfl⟩) rfl rfl rfl rfl rfl rfl rfl (by decide) (by decide) rfl (by (conv=>whnf);rfl) (fun c E w cur hbl hv=>lit_sp m hms rfl c E w cur hbl hv) ?_
     | refine aw_lit ttOk zOk foOk (i:=22) (lo:=lo) (m:=n) (ok:=true) (mav:=m.acs 22) rfl rfl rfl rfl rfl rfl (by decide) rfl (by decide) rfl (by decide) (by (conv=>whnf);exact ⟨rfl,rfl⟩) rfl rfl rfl rfl rfl rfl rfl (by decide) (by decide) rfl (by (conv=>whnf);rfl) (fun c E w cur hbl hv=>lit_sp m hms rfl c E w cur hbl hv) ?_
     | refine aw_lit ttOk zOk foOk (i:=23) (lo:=lo) (m:=n) (ok:=true) (mav:=m.acs 23) rfl rfl rfl rfl rfl rfl (by decide) rfl (by decide) rfl (by decide) (by (conv=>whnf);exact ⟨rfl,rfl⟩) rfl rfl rfl rfl rfl rfl rfl (by decide) (by decide) rfl (by (conv=>whnf);rfl) (fun c E w cur hbl hv=>lit_sp m hms rfl c E w cur hbl hv) ?_
     | fail
    refine ⟨rfl,AW_go ttOk zOk foOk ?_⟩
    conv=>whnf
    refine rdw ?_;repeat' ((with_reducible apply tw)<;>intro _)
    ((with_reducible refine draw_pl ttOk zOk foOk mixedOk pl19x54 ?_ ?_);(focus kernel_rfl);(conv=>whnf))
    refine rdw ?_;repeat' ((with_reducible apply tw)<;>intro _)
    (refine (num20_ok 1).mono ?_;rintro _ _ ⟨rfl,rfl⟩;(conv=>whnf))
    refine rdw ?_;repeat' ((with_reducible apply tw)<;>intro _)
    (refine (eqPZ_ok lo2 n2).mono ?_;rintro _ _ ⟨rfl,rfl⟩;(conv=>whnf))
    refine rdw ?_;repeat' ((with_reducible apply tw)<;>intro _)
    (refine Or.inr ?_;(conv=>whnf))
    (refine (eqMI_ok [] (Nat.zero_le _) (fun _ h=>by cases h) lo2 n2).mono ?_;rintro _ _ ⟨rfl,rfl⟩;(conv=>whnf))
    refine rdw ?_;repeat' ((with_reducible apply tw)<;>intro _)
    (refine (h6).mono ?_;rintro _ _ ⟨rfl,rfl⟩;(conv=>whnf))
    refine rdw ?_;repeat' ((with_reducible apply tw)<;>intro _)
    (refine (spoilP_ok zP zP_fit lo2 n2 true).mono ?_;rintro _ _ ⟨rfl,rfl⟩;(conv=>whnf))
    refine rdw ?_;repeat' ((with_reducible apply tw)<;>intro _)
    (refine (spoilM_ok [] (Nat.zero_le _) (fun _ h=>by cases h) lo2 n2 false).mono ?_;rintro _ _ ⟨rfl,rfl⟩;(conv=>whnf))
    refine rdw ?_;repeat' ((with_reducible apply tw)<;>intro _)
    ((with_reducible refine draw_pl ttOk zOk foOk mixedOk pl19x58 ?_ ?_);(focus kernel_rfl);(conv=>whnf))
    repeat' (first|(first|((with_reducible first|apply rd_intro|apply gd_and);(focus ((conv=>whnf)<;>first|rfl|(intro K hK;(conv=>whnf);first|exact hK|exact z_wrap (by omega) hK)));conv=>whnf)|((with_reducible apply z_wrap);(focus omega);conv=>whnf)|((with_reducible first|apply mt_dec|apply mt_eq|apply mt_ne|apply mt_not|apply mt_any)<;>(intro _;conv=>whnf)))|((with_reducible apply rd_intro);(focus (intro K hK;(conv=>whnf);refine h6.mono ?_;rintro _ _ ⟨rfl,rfl⟩;(conv=>whnf);exact hK));(conv=>whnf))|((with_reducible apply gd_and);(focus ((conv=>whnf);intro K hK;(conv=>whnf);refine h6.mono ?_;rintro _ _ ⟨rfl,rfl⟩;(conv=>whnf);exact hK));(conv=>whnf))|(refine (h6).mono ?_;rintro _ _ ⟨rfl,rfl⟩;(conv=>whnf))|fail)
    exact ⟨.inl rfl,⟨p,rfl⟩,rfl⟩
end Go.Proofs.YtolkmjfkkkiboaaGreat
set_option linter.unusedVariables false
set_option linter.unusedSimpArgs false
namespace Go.Proofs.YtolkmjfkkkiboaaGreat
open Go.Ab Go.RowKit Go.MapKept
attribute [local irreducible] ACalls AW ADraw Into fltB fnear
set_option maxRecDepth 100000
theorem okc_fit {n:Int} (hn:isN n=true) {c:Cert} (h:okCert n c):c.fitS:=by
 have hnn:=of_decide_eq_true hn
 have h3:=h.head.bats
 have h4:=h.head.pars
 have h6:=h.sigs
 rw [show n=(n.toNat:Int) by omega] at h6
 have h6:=riseN_len2 h6
 exact ⟨by omega,by omega,by omega⟩
theorem may_fit {p:Prim} (h:May p):p.fitS:=by
 have hnn:=of_decide_eq_true h.isn
 have h1:=h.acks.2
 have h2:=h.votes.len
 have h3:=h.dag.len
 have h4:=h.late.len
 have hm:p.mine.bats.length≤4294967296∧p.mine.pars.length≤4294967296:=by
  by_cases h0:p.dig=0
  ·obtain ⟨_,_,e1,e2,_⟩:=h.mine.none h0
   rw [e1,e2]
   exact ⟨Nat.zero_le _,Nat.zero_le _⟩
  ·have hh:=h.mine.head h0
   have a1:=hh.bats
   have a2:=hh.pars
   exact ⟨by omega,by omega⟩
 exact ⟨hm.1,hm.2,by omega,by omega,⟨by omega,fun c hc=>okc_fit h.isn (by have:=h.dag.certs c hc;rw [h.same] at this;exact this)⟩,by omega,fun c hc=>okc_fit h.isn (h.late.certs c hc)⟩
open Classical in
theorem takeX_of {p:Prim} {m:Msg} {held:List Int} (hk:kindC m) (av:AV) (h:(takeC p m held∧kindC m∧av=doneAV (gotP p m held) (gotO p m held))∨(takeC p m held∧¬kindC m∧av=errAV 10)∨(¬takeC p m held∧av=errAV 1)) :
  (takeC p m held∧av=doneAV (gotP p m held) (gotO p m held))∨(¬takeC p m held∧av=errAV 1):=by
 rcases h with ⟨a,_,b⟩|⟨_,a,_⟩|⟨a,b⟩
 ·exact .inl ⟨a,b⟩
 ·exact absurd hk a
 ·exact .inr ⟨a,b⟩
def onStT (s:Script) (kind:Int) (i:Nat):AF×List AB:=([(1,.d (.int .i64 kind)),(2,.ptr 0 0),(5,.d (.int .i64 i))],[.cells (s.cs.map AV.d)])
def Act.take4 (a:Act):Act:={ a with doo:=4 }
set_option maxHeartbeats 4000000 in
open Classical in
theorem takes20_ok (s:Script) (hs:s.okk) (kind:Int) (hT:s.p.ok→s.p.tiny→s.p.gh→s.p.dag.certs.length+s.p.late.length<60000→∀ (m:Msg) (l:List Int),m.small→m.kind=kind→few l→∃ C q o,TakeF s.p m l C q o):ACalls Tryz.prog 13 [s.av,.d (.int .i64 kind)] [] (fun av L=>av = .d (.bool true)∧L=[]):=by
 have hh:=heavyS_full s hs.oks
 have hok:=hs.oks.ok
 have hal:=actsD_length s.acts
 have hpok:s.p.ok:=⟨hok.mine,by rw [hs.gh.2];exact Nat.zero_le _,hok.acks,hok.votes,hok.dag,hok.late⟩
 (refine acalls_go ttOk zOk foOk Tryz.func13 rfl Tryz.ntmps13 rfl false rfl ?_);(conv=>whnf)
 refine rdz ?_;repeat' ((with_reducible apply tw)<;>intro _)
 refine hh.mono ?_
 rintro _ _ ⟨⟨b,rfl,hb⟩,rfl⟩
 cases b with
 | true =>
   conv=>whnf
   refine rdz ?_;repeat' ((with_reducible apply tw)<;>intro _)
   exact ⟨rfl,rfl⟩
 | false =>
   have hlt:=hb rfl
   have e1:=hlt.certs
   have e2:=hlt.late
   have e3:=hlt.votes
   have e4:=hlt.acks
   have e5:=hlt.mine
   have e6:=hlt.acts
   have hpt:s.p.tiny:=⟨⟨by unfold tiny;omega,by unfold tiny;omega,by rw [hs.gh.2];exact Nat.zero_le _⟩,by omega,by omega,⟨by unfold tiny;omega,fun c hc=>(e1.2 c hc).all.2⟩,⟨by unfold tiny;omega,fun c hc=>(e2.2 c hc).all.2⟩⟩
   have hcf:∀ c:Cert,c.light→c.fitS:=fun c h=>⟨by have:=h.1;omega,by have:=h.2.1;omega,by have:=h.2.2;omega⟩
   have hpm:s.p.mine.fitS:=⟨by omega,by omega,by rw [hs.gh.2];exact Nat.zero_le _⟩
   have hpf:s.p.fitS:=⟨by omega,by omega,by omega,by omega,⟨by omega,fun c hc=>hcf c (e1.2 c hc)⟩,⟨by omega,fun c hc=>hcf c (e2.2 c hc)⟩⟩
   conv=>whnf
   refine rdz ?_;repeat' ((with_reducible apply tw)<;>intro _)
   refine loop_go ttOk zOk foOk (σ:=Nat) (onStT s kind) (fun i=>i≤s.acts.length) (fun i=>s.acts.length - i) [1,2,5] ?_ ?_
   ·conv=>whnf
    exact ⟨0,rfl,rfl,Nat.zero_le _⟩
   ·intro i hi
    conv=>whnf
    refine rdz ?_;repeat' ((with_reducible apply tw)<;>intro _)
    ·rename_i k1 k2
     replace k1:(i:Int)<((actsD s.acts).length:Int):=k1
     refine Exists.elim (⟨_,List.getElem?_eq_getElem (by omega)⟩:∃ a,s.acts[i]? = some a) fun a ha => ?_
     have ham:=List.mem_of_getElem? ha
     have hal4:=(e6.2 a ham).l
     refine ⟨by omega,a.cs,by rw [Int.toNat_natCast,actsD,List.getElem?_map,ha];rfl,?_⟩
     conv=>whnf
     refine rdz ?_;repeat' ((with_reducible apply tw)<;>intro _)
     ·exact ⟨i+1,rfl,rfl,(show i+1≤s.acts.length by omega),(show s.acts.length - (i+1)<s.acts.length - i by omega)⟩
     ·rename_i k3
      replace k3:a.m.kind=kind:=k3
      have hst:=step4_ok s.p hpok hpt hpf (by omega) a.take4 rfl (hs.ints a ham).1 (show a.l.length≤1000 by omega) (light_small (e6.2 a ham).m (hs.hg a ham)) (fun m hm hmk=>hT hpok hpt hs.gh (by omega) m a.l hm (hmk.trans k3) (by unfold few;omega))
      refine hst.mono ?_
      rintro _ _ ⟨⟨q,rfl⟩,rfl⟩
      conv=>whnf
      refine rdz ?_;repeat' ((with_reducible apply tw)<;>intro _)
      exact ⟨i+1,rfl,rfl,(show i+1≤s.acts.length by omega),(show s.acts.length - (i+1)<s.acts.length - i by omega)⟩
    all_goals
     refine wakes_ok.mono ?_
     rintro _ _ ⟨rfl,rfl⟩
     conv=>whnf
     refine rdz ?_;repeat' ((with_reducible apply tw)<;>intro _)
     exact ⟨rfl,rfl⟩
theorem dagPlaceO_ok (c:Cert):ACalls Tryz.prog 131 [c.avo] [] (fun av L=>av = .d (plb c.round c.author)∧L=[]):=by
 (refine acalls_go ttOk zOk foOk Tryz.func131 rfl Tryz.ntmps131 rfl false rfl ?_);(conv=>whnf)
 refine (placeOf_ok c.round c.author).mono ?_
 rintro _ _ ⟨rfl,rfl⟩
 conv=>whnf
 exact ⟨rfl,rfl⟩
theorem lackO_ok (d:Dag) (hd:d.fit) (c:Cert) (hc:tiny c.pars) (hr:isF c.round) (hr1:1≤c.round) (hlow:0≤d.low∧d.low≤1099511627776):ACalls Tryz.prog 194 [d.av,c.havo] [] (fun av L=>av = .d (.sl 1 (nums (lackI d c)))∧L=[]):=by
 have hpl:=nums_length c.pars
 have hfl:few (ofR d.certs (c.round - 1)):=by
  have:=hd.few
  unfold few at this ⊢
  exact Nat.le_trans (List.length_filter_le ..) this
 unfold tiny at hc
 unfold isF at hr
 (refine acalls_go ttOk zOk foOk Tryz.func194 rfl Tryz.ntmps194 rfl false rfl ?_);(conv=>whnf)
 refine rdw ?_;repeat' ((with_reducible apply tw)<;>intro _)
 ·rename_i h
  rw [lackI,if_pos h]
  exact ⟨rfl,rfl⟩
 ·rename_i h
  rw [lackI,if_neg h]
  refine (dagOf_ok d hd (c.round - 1) (by unfold isF;omega)).mono ?_
  rintro _ _ ⟨rfl,rfl⟩
  obtain ⟨A,hA⟩:∃ A,ofR d.certs (c.round - 1)=A:=⟨_,rfl⟩
  rw [hA] at hfl ⊢
  conv=>whnf
  refine loop_go ttOk zOk foOk (σ:=Nat) (fun j=>([(5,.d (.sl 6 (certsD A))),(20,.d (.slo 1 (nums c.pars))),(21,.d (.int .i64 c.pars.length)),(22,.d (.int .i64 j)),(4,.arr 0)],[.row 3 1 (nums ((c.pars.take j).filter fun x => !A.any fun y=>y.digest == x)) false])) (fun j=>j≤c.pars.length) (fun j=>c.pars.length - j) [5,20,21,22,4] ?_ ?_
  ·conv=>whnf
   exact ⟨0,by rw [hpl];rfl,rfl,Nat.zero_le _⟩
  ·intro j hj
   have hfn:(nums ((c.pars.take j).filter fun x => !A.any fun y=>y.digest == x)).length≤c.pars.length:=by rw [nums_length];exact Nat.le_trans (List.length_filter_le ..) (List.length_take_le' ..)
   conv=>whnf
   refine rdw ?_;repeat' ((with_reducible apply tw)<;>intro _)
   ·rename_i hjl
    refine Exists.elim (⟨_,List.getElem?_eq_getElem (by omega)⟩:∃ x,c.pars[j]? = some x) fun x hx => ?_
    refine ⟨by omega,[.int .i64 x],nums_at hx,?_⟩
    conv=>whnf
    refine (has_ok A hfl x).mono ?_
    rintro _ _ ⟨rfl,rfl⟩
    have hsn:∀ b,(A.any fun y=>y.digest == x)=b→(c.pars.take (j+1)).filter (fun x => !A.any fun y=>y.digest == x)=(c.pars.take j).filter (fun x => !A.any fun y=>y.digest == x)++(if b then [] else [x]):=by
     intro b hb
     rw [List.take_add_one,hx,List.filter_append]
     cases b<;>simp [List.filter_cons,hb]
    obtain ⟨b,hb⟩:∃ b,(A.any fun y=>y.digest == x)=b:=⟨_,rfl⟩
    rw [hb]
    replace hsn:=hsn b hb
    cases b with
    | true =>
      conv=>whnf
      refine rdw ?_;repeat' ((with_reducible apply tw)<;>intro _)
      exact ⟨j+1,rfl,by rw [hsn];simp,by omega,by omega⟩
    | false =>
      conv=>whnf
      refine rdw ?_;repeat' ((with_reducible apply tw)<;>intro _)
      refine ⟨by simp;omega,?_⟩
      conv=>whnf
      refine rdw ?_;repeat' ((with_reducible apply tw)<;>intro _)
      refine ⟨j+1,rfl,?_,by omega,by omega⟩
      rw [hsn,← nums_apps]
      rfl
   ·rename_i hjl
    obtain rfl:j=c.pars.length:=by omega
    rw [List.take_length]
    exact ⟨rfl,rfl⟩
set_option maxHeartbeats 1000000 in
theorem put_dagO_row (d:Dag) (hd:d.fit) (hl:d.certs.length≤4294967296) (hlow:0≤d.low∧d.low≤1099511627776) (c:Cert) (hc:c.tiny) (hr:isF c.round) (hr1:1≤c.round) (ha:isF c.author) :
  ACalls Tryz.prog 158 [d.av,c.avo] [] (fun av L=>(putE d c≠0∧av = .tup [d.av,.d (.int .i64 (putE d c))]∧L=[])∨(putE d c=0∧av = .tup [.agg [.d (.int .i64 d.nodes),.d (.int .i64 d.low),.arr 0],.d (.int .i64 0)]∧L=[.row 47 6 (certsD (insC d c).certs) false])):=by
 have hcl:=certsD_length d.certs
 have hlk:=lackO_ok d hd c hc.pars hr hr1 hlow
 have hfew:=hd.few
 have hps:=pos_le d.certs c.round c.author
 (refine acalls_go ttOk zOk foOk Tryz.func158 rfl Tryz.ntmps158 rfl true rfl ?_);(conv=>whnf)
 ((with_reducible refine draw_pl ttOk zOk foOk mixedOk pl158x1 ?_ ?_);(focus kernel_rfl);(conv=>whnf))
 refine rdw ?_;repeat' ((with_reducible apply tw)<;>intro _)
 refine (dagPlaceO_ok c).mono ?_
 rintro _ _ ⟨rfl,rfl⟩
 conv=>whnf
 refine rdw ?_;repeat' ((with_reducible apply tw)<;>intro _)
 refine (find_ok d.certs c.round c.author hd.few hd.sorted hd.fit hr ha).mono ?_
 rintro _ _ ⟨rfl,rfl⟩
 cases hat:atC d.certs c.round c.author with
 | none =>
   conv=>whnf
   refine rdw ?_;repeat' ((with_reducible apply tw)<;>intro _)
   ·rename_i h
    have e:putE d c=6:=by rw [putE,if_pos h]
    rw [e]
    exact .inl ⟨by decide,rfl,rfl⟩
   ·rename_i h
    ((with_reducible refine draw_pl ttOk zOk foOk mixedOk pl158x4 ?_ ?_);(focus kernel_rfl);(conv=>whnf))
    refine rdw ?_;repeat' ((with_reducible apply tw)<;>intro _)
    refine (has_ok d.certs hd.few c.digest).mono ?_
    rintro _ _ ⟨rfl,rfl⟩
    cases hany:d.certs.any (fun y=>y.digest == c.digest) with
    | true =>
      have e:putE d c=5:=by rw [putE,if_neg h,hat];simp [hany]
      conv=>whnf
      refine rdw ?_;repeat' ((with_reducible apply tw)<;>intro _)
      rw [e]
      exact .inl ⟨by decide,rfl,rfl⟩
    | false =>
      conv=>whnf
      refine rdw ?_;repeat' ((with_reducible apply tw)<;>intro _)
      refine hlk.mono ?_
      rintro _ _ ⟨rfl,rfl⟩
      obtain ⟨lk,hlk2⟩:∃ lk,lackI d c=lk:=⟨_,rfl⟩
      rw [hlk2]
      cases lk with
      | cons x r =>
        have e:putE d c=7:=by rw [putE,if_neg h,hat];simp [hany,hlk2]
        conv=>whnf
        refine rdw ?_;repeat' ((with_reducible apply tw)<;>intro _)
        ·rw [e]
         exact .inl ⟨by decide,rfl,rfl⟩
        ·rename_i hx
         exact absurd (by show ((0:Int)<((nums (x :: r)).length:Int));rw [nums_length];simp) hx
      | nil =>
        have e:putE d c=0:=by rw [putE,if_neg h,hat];simp [hany,hlk2]
        conv=>whnf
        refine rdw ?_;repeat' ((with_reducible apply tw)<;>intro _)
        ((with_reducible refine draw_pl ttOk zOk foOk mixedOk pl158x10 ?_ ?_);(focus kernel_rfl);(conv=>whnf))
        refine rdw ?_;repeat' ((with_reducible apply tw)<;>intro _)
        refine (cloneC_ok d.certs (by omega)).mono ?_
        rintro _ _ ⟨rfl,rfl⟩
        conv=>whnf
        refine rdw ?_;repeat' ((with_reducible apply tw)<;>intro _)
        refine (ownCertO_ok c hc).mono ?_
        rintro _ _ ⟨rfl,rfl⟩
        conv=>whnf
        refine rdw ?_;repeat' ((with_reducible apply tw)<;>intro _)
        (refine Or.inr ?_;(conv=>whnf))
        refine (insertC_ok d.certs c _ hps hl).mono ?_
        rintro _ _ ⟨rfl,rfl⟩
        conv=>whnf
        refine rdw ?_;repeat' ((with_reducible apply tw)<;>intro _)
        exact .inr ⟨e,rfl,rfl⟩
 | some y =>
   have hpy:d.certs[pos d.certs c.round c.author]? = some y:=by
    rw [atC_pos hd.sorted] at hat
    exact (Option.filter_eq_some_iff.1 hat).1
   have hlt:=(List.getElem?_eq_some_iff.1 hpy).1
   conv=>whnf
   refine rdw ?_;repeat' ((with_reducible apply tw)<;>intro _)
   ·rename_i h
    have e:putE d c=6:=by rw [putE,if_pos h]
    rw [e]
    exact .inl ⟨by decide,rfl,rfl⟩
   ·rename_i h
    ((with_reducible refine draw_pl ttOk zOk foOk mixedOk pl158x4 ?_ ?_);(focus kernel_rfl);(conv=>whnf))
    refine rdw ?_;repeat' ((with_reducible apply tw)<;>intro _)
    ((with_reducible apply rd_intro);(focus (intro K hK;(conv=>whnf);exact ⟨by omega,y.cs,certsD_at hpy,hK⟩));(conv=>whnf))
    refine rdw ?_;repeat' ((with_reducible apply tw)<;>intro _)
    ·rename_i h2
     have e:putE d c=4:=by rw [putE,if_neg h,hat];simp [h2]
     rw [e]
     exact .inl ⟨by decide,rfl,rfl⟩
    ·rename_i h2
     have e:putE d c=5:=by rw [putE,if_neg h,hat];simp [h2]
     rw [e]
     exact .inl ⟨by decide,rfl,rfl⟩
theorem put_dagO (d:Dag) (hd:d.fit) (hl:d.certs.length≤4294967296) (hlow:0≤d.low∧d.low≤1099511627776) (c:Cert) (hc:c.tiny) (hr:isF c.round) (hr1:1≤c.round) (ha:isF c.author) :
  ACalls Tryz.prog 158 [d.av,c.avo] [] (fun av L=>av = .tup [(putD d c).av,.d (.int .i64 (putE d c))]∧L=[]):=by
 refine acalls_data (put_dagO_row d hd hl hlow c hc hr hr1 ha) ?_
 rintro _ _ (⟨h,rfl,rfl⟩|⟨h,rfl,rfl⟩)
 ·rw [putD,if_neg h]
  conv=>whnf
  exact ⟨rfl,rfl⟩
 ·rw [putD,if_pos h,h]
  conv=>whnf
  exact ⟨rfl,rfl⟩
set_option maxHeartbeats 4000000 in
theorem stepInO_ok (p:Prim) (out:List Msg) (ho:out.length≤1000000) (c:Cert) (hok:okCert p.dag.nodes c) (hct:c.tiny) (hf:Fine p.dag p.late) (hroom:p.dag.certs.length+p.late.length<60000) (hs:risingC p.late) (src:Int) :
  ACalls Tryz.prog 168 [.ptr 0 0,c.avo,.d (.int .i64 src)] (p.st out) (fun av L=>av = .tup []∧∃ j,L=(inP p c).sj j (out++inO p c src)):=by
 have hrd:=hok.head.round
 have hau:=hok.head.author
 have hnn:=of_decide_eq_true hf.valid.nodes
 have hr:=hf.room
 have hput:=put_dagO p.dag hf.valid.fit (by omega) hf.valid.low c hct ⟨by omega,by omega⟩ hrd.1 ⟨by omega,by omega⟩
 have hcl:=certsD_length p.late
 have hfew:few p.late:=by unfold few;omega
 have hpl:=hok.head.pars.1
 have hlk:(lackI p.dag c).length≤1000000:=by
  unfold lackI
  split
  ·exact Nat.zero_le _
  ·exact Nat.le_trans (List.length_filter_le ..) (by omega)
 have hlack:=lackO_ok p.dag hf.valid.fit c hct.pars ⟨by omega,by omega⟩ hrd.1 hf.valid.low
 refine acalls_seals2 ?_
 (refine acalls_go ttOk zOk foOk Tryz.func168 rfl Tryz.ntmps168 rfl true rfl ?_);(conv=>whnf)
 refine rdw ?_;repeat' ((with_reducible apply tw)<;>intro _)
 ((with_reducible refine draw_pl ttOk zOk foOk mixedOk pl168x1 ?_ ?_);(focus kernel_rfl);(conv=>whnf))
 repeat' (first|(first|((with_reducible first|apply rd_intro|apply gd_and);(focus ((conv=>whnf)<;>first|rfl|(intro K hK;(conv=>whnf);first|exact hK|exact z_wrap (by omega) hK)));conv=>whnf)|((with_reducible apply z_wrap);(focus omega);conv=>whnf)|((with_reducible first|apply mt_dec|apply mt_eq|apply mt_ne|apply mt_not|apply mt_any)<;>(intro _;conv=>whnf)))|((with_reducible apply rd_intro);(focus (intro K hK;(conv=>whnf);refine (hput).mono ?_;rintro _ _ ⟨rfl,rfl⟩;(conv=>whnf);exact hK));(conv=>whnf))|((with_reducible apply gd_and);(focus ((conv=>whnf);intro K hK;(conv=>whnf);refine (hput).mono ?_;rintro _ _ ⟨rfl,rfl⟩;(conv=>whnf);exact hK));(conv=>whnf)))
 ·rename_i h0
  have hfp:Fine (putD p.dag c) p.late:=⟨putD_valid hf.valid hok (by omega),by have:=putD_len p.dag c;omega,fun x hx=>by rw [putD_nodes];exact hf.late x hx⟩
  have hag:=again_ok (p.withDL (putD p.dag c,p.late)) out hfp
  refine hag.mono ?_
  rintro _ _ ⟨rfl,rfl⟩
  conv=>whnf
  refine rdw ?_;repeat' ((with_reducible apply tw)<;>intro _)
  refine ⟨2,[],_,_,_,Nat.le_refl _,rfl,rfl,rfl,rfl,false,?_⟩
  rw [inP,if_pos h0,inO,if_neg (fun h=>by have:=h.1;omega),List.append_nil]
  rfl
 ·rename_i h0 h7
  refine (lateAt_ok p false out (by unfold few;omega) hs c.digest).mono ?_
  rintro _ _ ⟨rfl,rfl⟩
  conv=>whnf
  refine rdw ?_;repeat' ((with_reducible apply tw)<;>intro _)
  ·rename_i hb hlt
   have hi:=lateI_le p.late c.digest
   have hlp:lateP p.late c=p.late.take (lateI p.late c.digest)++c :: p.late.drop (lateI p.late c.digest):=by
    rw [lateP,if_pos ⟨by revert hb;cases isLate p.late c.digest<;>simp,by have h2:=hlt;rw [hcl] at h2;omega⟩]
   ((with_reducible refine draw_pl ttOk zOk foOk mixedOk pl168x9 ?_ ?_);(focus kernel_rfl);(conv=>whnf))
   refine rdw ?_;repeat' ((with_reducible apply tw)<;>intro _)
   refine (cloneC_ok p.late (by omega)).mono ?_
   rintro _ _ ⟨rfl,rfl⟩
   conv=>whnf
   refine rdw ?_;repeat' ((with_reducible apply tw)<;>intro _)
   refine (ownCertO_ok c hct).mono ?_
   rintro _ _ ⟨rfl,rfl⟩
   conv=>whnf
   refine rdw ?_;repeat' ((with_reducible apply tw)<;>intro _)
   (refine Or.inr ?_;(conv=>whnf))
   refine (insertC_ok p.late c (lateI p.late c.digest) hi (by omega)).mono ?_
   rintro _ _ ⟨rfl,rfl⟩
   rw [← hlp]
   have hris2:risingC (lateP p.late c):=lateP_rising hs c
   have hfew2:few (lateP p.late c):=by unfold few;have:=lateP_len p.late c;omega
   conv=>whnf
   refine rdw ?_;repeat' ((with_reducible apply tw)<;>intro _)
   ·rename_i hsrc
    refine adraw_sealC [(0,15)] rfl ?_
    ((with_reducible refine draw_pl ttOk zOk foOk mixedOk pl168x11 ?_ ?_);(focus kernel_rfl);(conv=>whnf))
    refine rdw ?_;repeat' ((with_reducible apply tw)<;>intro _)
    refine hlack.mono ?_
    rintro _ _ ⟨rfl,rfl⟩
    conv=>whnf
    refine rdw ?_;repeat' ((with_reducible apply tw)<;>intro _)
    refine (fresh_ok { p with late:=lateP p.late c } out hfew2 hris2 (lackI p.dag c) hlk).mono ?_
    rintro _ _ ⟨rfl,rfl⟩
    conv=>whnf
    refine rdw ?_;repeat' ((with_reducible apply tw)<;>intro _)
    refine (want_ok { p with late:=lateP p.late c } out (by omega) src 8 (freshI (lateP p.late c) (lackI p.dag c)) (by unfold freshI;exact Nat.le_trans (List.length_filter_le ..) hlk)).mono ?_
    rintro _ _ ⟨rfl,j,rfl⟩
    cases j
    ·conv=>whnf
     refine rdw ?_;repeat' ((with_reducible apply tw)<;>intro _)
     refine ⟨2,[],_,_,_,Nat.le_refl _,rfl,rfl,rfl,rfl,false,?_⟩
     rw [inP,if_neg h0,if_pos h7,inO,if_pos ⟨h7,hsrc⟩]
     rfl
    ·conv=>whnf
     refine rdw ?_;repeat' ((with_reducible apply tw)<;>intro _)
     refine ⟨3,[],_,_,_,by show 2≤3;omega,rfl,rfl,rfl,rfl,true,?_⟩
     rw [inP,if_neg h0,if_pos h7,inO,if_pos ⟨h7,hsrc⟩]
     rfl
   ·rename_i hsrc
    refine ⟨2,[(0,15)],_,_,_,Nat.le_refl _,rfl,rfl,rfl,rfl,false,?_⟩
    rw [inP,if_neg h0,if_pos h7,inO,if_neg (fun h=>hsrc h.2),List.append_nil]
    rfl
  ·rename_i hb hlt hsrc
   have hlp:lateP p.late c=p.late:=by rw [lateP,if_neg (fun h=>hlt (by have:=h.2;rw [hcl];omega))]
   ((with_reducible refine draw_pl ttOk zOk foOk mixedOk pl168x11 ?_ ?_);(focus kernel_rfl);(conv=>whnf))
   refine rdw ?_;repeat' ((with_reducible apply tw)<;>intro _)
   refine hlack.mono ?_
   rintro _ _ ⟨rfl,rfl⟩
   conv=>whnf
   refine rdw ?_;repeat' ((with_reducible apply tw)<;>intro _)
   refine (fresh_ok p out hfew hs (lackI p.dag c) hlk).mono ?_
   rintro _ _ ⟨rfl,rfl⟩
   conv=>whnf
   refine rdw ?_;repeat' ((with_reducible apply tw)<;>intro _)
   refine (want_ok p out (by omega) src 8 (freshI (p).late (lackI p.dag c)) (by unfold freshI;exact Nat.le_trans (List.length_filter_le ..) hlk)).mono ?_
   rintro _ _ ⟨rfl,j,rfl⟩
   cases j
   ·conv=>whnf
    refine rdw ?_;repeat' ((with_reducible apply tw)<;>intro _)
    refine ⟨2,[],_,_,_,Nat.le_refl _,rfl,rfl,rfl,rfl,false,?_⟩
    rw [inP,if_neg h0,if_pos h7,inO,if_pos ⟨h7,hsrc⟩,hlp]
    rfl
   ·conv=>whnf
    refine rdw ?_;repeat' ((with_reducible apply tw)<;>intro _)
    refine ⟨3,[],_,_,_,by show 2≤3;omega,rfl,rfl,rfl,rfl,true,?_⟩
    rw [inP,if_neg h0,if_pos h7,inO,if_pos ⟨h7,hsrc⟩,hlp]
    rfl
  ·rename_i hb hlt hsrc
   have hlp:lateP p.late c=p.late:=by rw [lateP,if_neg (fun h=>hlt (by have:=h.2;rw [hcl];omega))]
   refine ⟨2,[],_,_,_,Nat.le_refl _,rfl,rfl,rfl,rfl,false,?_⟩
   rw [inP,if_neg h0,if_pos h7,inO,if_neg (fun h=>hsrc h.2),hlp,List.append_nil]
   rfl
  ·rename_i hb hsrc
   have hlp:lateP p.late c=p.late:=by rw [lateP,if_neg (fun h=>by rw [h.1] at hb;exact absurd hb (by decide))]
   ((with_reducible refine draw_pl ttOk zOk foOk mixedOk pl168x11 ?_ ?_);(focus kernel_rfl);(conv=>whnf))
   refine rdw ?_;repeat' ((with_reducible apply tw)<;>intro _)
   refine hlack.mono ?_
   rintro _ _ ⟨rfl,rfl⟩
   conv=>whnf
   refine rdw ?_;repeat' ((with_reducible apply tw)<;>intro _)
   refine (fresh_ok p out hfew hs (lackI p.dag c) hlk).mono ?_
   rintro _ _ ⟨rfl,rfl⟩
   conv=>whnf
   refine rdw ?_;repeat' ((with_reducible apply tw)<;>intro _)
   refine (want_ok p out (by omega) src 8 (freshI (p).late (lackI p.dag c)) (by unfold freshI;exact Nat.le_trans (List.length_filter_le ..) hlk)).mono ?_
   rintro _ _ ⟨rfl,j,rfl⟩
   cases j
   ·conv=>whnf
    refine rdw ?_;repeat' ((with_reducible apply tw)<;>intro _)
    refine ⟨2,[],_,_,_,Nat.le_refl _,rfl,rfl,rfl,rfl,false,?_⟩
    rw [inP,if_neg h0,if_pos h7,inO,if_pos ⟨h7,hsrc⟩,hlp]
    rfl
   ·conv=>whnf
    refine rdw ?_;repeat' ((with_reducible apply tw)<;>intro _)
    refine ⟨3,[],_,_,_,by show 2≤3;omega,rfl,rfl,rfl,rfl,true,?_⟩
    rw [inP,if_neg h0,if_pos h7,inO,if_pos ⟨h7,hsrc⟩,hlp]
    rfl
  ·rename_i hb hsrc
   have hlp:lateP p.late c=p.late:=by rw [lateP,if_neg (fun h=>by rw [h.1] at hb;exact absurd hb (by decide))]
   refine ⟨2,[],_,_,_,Nat.le_refl _,rfl,rfl,rfl,rfl,false,?_⟩
   rw [inP,if_neg h0,if_pos h7,inO,if_neg (fun h=>hsrc h.2),hlp,List.append_nil]
   rfl
 ·rename_i h0 h7
  refine ⟨2,[],_,_,_,Nat.le_refl _,rfl,rfl,rfl,rfl,false,?_⟩
  rw [inP,if_neg h0,if_neg h7,inO,if_neg (fun h=>h7 h.1),List.append_nil]
  rfl
theorem gotCertO_ok (p:Prim) (m:Msg) (hk:m.kind=6) (held:List Int) (hok:okCert p.dag.nodes m.cert) (hct:m.cert.tiny) (hf:Fine p.dag p.late) (hroom:p.dag.certs.length+p.late.length<60000) (hs:risingC p.late) :
  ACalls Tryz.prog 117 [p.av,m.avo,.d (.slo 1 (nums held))] [] (fun av L=>av = .tup [(inP p m.cert).av,.d (.sl 18 (msgsD (inO p m.cert m.src)))]∧L=[]):=by
 have hin:=stepInO_ok p [] (by simp) m.cert hok hct hf hroom hs m.src
 (refine acalls_go ttOk zOk foOk Tryz.func117 rfl Tryz.ntmps117 rfl false rfl ?_);(conv=>whnf)
 rw [hk]
 refine rdw ?_;repeat' ((with_reducible apply tw)<;>intro _)
 ·rename_i h
  exact absurd (show (6:Int)=4 from h) (by decide)
 ·refine hin.mono ?_
  rintro _ _ ⟨rfl,j,rfl⟩
  rw [List.nil_append]
  cases j
  all_goals
   conv=>whnf
   refine rdw ?_;repeat' ((with_reducible apply tw)<;>intro _)
   ((with_reducible refine draw_pl ttOk zOk foOk mixedOk pl117x10 ?_ ?_);(focus kernel_rfl);(conv=>whnf))
   refine rdw ?_;repeat' ((with_reducible apply tw)<;>intro _)
   exact ⟨rfl,rfl⟩
theorem gotO6_ok (p:Prim) (h:May p) (hr:p.dag.certs.length+p.late.length<60000) (m:Msg) (hm:okMsg p.nodes m) (k6:m.kind=6) (held:List Int) :
  ACalls Tryz.prog 117 [p.av,m.avo,.d (.slo 1 (nums held))] [] (fun av L=>av = .tup [(gotP p m held).av,.d (.sl 18 (msgsD (gotO p m held)))]∧L=[]):=by
 have k4:¬m.kind=4:=by omega
 have k5:¬m.kind=5:=by omega
 rw [gotP,if_neg k4,if_neg k5,if_pos k6,gotO,if_neg k4,if_neg k5,if_pos k6]
 exact gotCertO_ok p m k6 held (by rw [h.same];exact hm.ok.cert k6) (certTiny_of h.isn (hm.ok.cert k6)) (h.fine (Nat.le_of_lt hr)) hr h.late.ris
set_option maxHeartbeats 4000000 in
open Classical in
theorem takeO6_ok (p:Prim) (hok:p.ok) (hr:p.dag.certs.length+p.late.length<60000) (m:Msg) (hf:m.fine) (hk:m.kind=6) (held:List Int) (hl:few held) :
  ACalls Tryz.prog 58 [p.avo,m.avo,.d (.slo 1 (nums held))] [] (fun av L=>((takeC p m held∧kindC m∧av=doneAV (gotP p m held) (gotO p m held))∨(takeC p m held∧¬kindC m∧av=errAV 10)∨(¬takeC p m held∧av=errAV 1))∧L=[]):=by
 have h1:=primMayO_ok p hok
 have h2:ACalls Tryz.prog 114 [m.avo,.d (.int .i64 p.nodes)] [] (fun av L=>av = .d (.bool (decide (okMsg p.nodes m)))∧L=[]):=acalls_lend (flat_bool _) ⟨_,_,rfl,lend_mo m,_,_,rfl,.inl (l1_int _),rfl⟩ (msgMay_full m hf p.nodes)
 have h3:ACalls Tryz.prog 115 [.d (.slo 1 (nums held))] [] (fun av L=>av = .d (.bool (decide (riseB held 1 65536)))∧L=[]):=acalls_lend (flat_bool _) ⟨_,_,rfl,.inl (l1_up (up_nums held)),rfl⟩ (digests_ok held hl)
 have h4:=takes_ok m.kind
 (refine acalls_go ttOk zOk foOk Tryz.func58 rfl Tryz.ntmps58 rfl false rfl ?_);(conv=>whnf)
 refine rdw ?_;repeat' ((with_reducible apply tw)<;>intro _)
 refine h1.mono ?_
 rintro _ _ ⟨rfl,rfl⟩
 by_cases k1:May p
 ·rw [decide_eq_true k1]
  conv=>whnf
  refine rdw ?_;repeat' ((with_reducible apply tw)<;>intro _)
  refine h2.mono ?_
  rintro _ _ ⟨rfl,rfl⟩
  by_cases k2:okMsg p.nodes m
  ·rw [decide_eq_true k2]
   conv=>whnf
   refine rdw ?_;repeat' ((with_reducible apply tw)<;>intro _)
   ·rename_i k3
    exact ⟨.inr (.inr ⟨fun h=>k3 h.dst,rfl⟩),rfl⟩
   ·rename_i k3
    refine h3.mono ?_
    rintro _ _ ⟨rfl,rfl⟩
    by_cases k4:riseB held 1 65536
    ·rw [decide_eq_true k4]
     have hC:takeC p m held:=⟨k1,k2,k3,k4⟩
     conv=>whnf
     refine rdw ?_;repeat' ((with_reducible apply tw)<;>intro _)
     refine h4.mono ?_
     rintro _ _ ⟨rfl,rfl⟩
     by_cases k5:m.kind∈[(4:Int),5,6,8]
     ·rw [decide_eq_true k5]
      have hown:=primOwnO_ok p (k1.tiny hok.sigs)
      have hgot:=gotO6_ok p k1 hr m k2 hk held
      conv=>whnf
      refine rdw ?_;repeat' ((with_reducible apply tw)<;>intro _)
      ((with_reducible refine draw_pl ttOk zOk foOk mixedOk pl58x5 ?_ ?_);(focus kernel_rfl);(conv=>whnf))
      refine rdw ?_;repeat' ((with_reducible apply tw)<;>intro _)
      (refine (hown).mono ?_;rintro _ _ ⟨rfl,rfl⟩;(conv=>whnf))
      refine rdw ?_;repeat' ((with_reducible apply tw)<;>intro _)
      (refine (hgot).mono ?_;rintro _ _ ⟨rfl,rfl⟩;(conv=>whnf))
      refine rdw ?_;repeat' ((with_reducible apply tw)<;>intro _)
      exact ⟨.inl ⟨hC,k5,rfl⟩,rfl⟩
     ·rw [decide_eq_false k5]
      conv=>whnf
      refine rdw ?_;repeat' ((with_reducible apply tw)<;>intro _)
      exact ⟨.inr (.inl ⟨hC,k5,rfl⟩),rfl⟩
    ·rw [decide_eq_false k4]
     conv=>whnf
     refine rdw ?_;repeat' ((with_reducible apply tw)<;>intro _)
     exact ⟨.inr (.inr ⟨fun h=>k4 h.held,rfl⟩),rfl⟩
  ·rw [decide_eq_false k2]
   conv=>whnf
   refine rdw ?_;repeat' ((with_reducible apply tw)<;>intro _)
   exact ⟨.inr (.inr ⟨fun h=>k2 h.msg,rfl⟩),rfl⟩
 ·rw [decide_eq_false k1]
  conv=>whnf
  refine rdw ?_;repeat' ((with_reducible apply tw)<;>intro _)
  exact ⟨.inr (.inr ⟨fun h=>k1 h.may,rfl⟩),rfl⟩
theorem cmO_inO {p:Prim} {c:Cert} {src:Int} (h1:0<src) (h2:src≠p.id):cmO p c src=inO p c src:=by
 unfold cmO inO
 by_cases h:putE p.dag c=7
 ·rw [if_pos ⟨h,h2⟩,if_pos ⟨h,h1⟩]
 ·rw [if_neg (fun k=>h k.1),if_neg (fun k=>h k.1)]
set_option maxHeartbeats 8000000 in
open Classical in
theorem take20c_ok (p:Prim) (k1:May p) (hok:p.ok) (ht:p.tiny) (hr:p.dag.certs.length+p.late.length<60000) (m:Msg) (hf:m.fine) (hk:m.kind=6) (held:List Int) (hl:few held) :
  ACalls Tryz.prog 56 [p.av,m.av,.d (.sl 1 (nums held))] [] (fun av L=>(takeC p m held∧goodT (gotP p m held) (gotO p m held) av L)∨(¬takeC p m held∧badT p 1 av L)):=by
 have hcp:=copyPrim_ok p ht
 have h1:=pageX6 hf hk (n:=p.nodes)
 have h2:=rDigests_ok held hl
 have h3:=rRising_ok held hl
 (refine acalls_go ttOk zOk foOk Tryz.func56 rfl Tryz.ntmps56 rfl true rfl ?_);(conv=>whnf)
 refine rdz ?_;repeat' ((with_reducible apply tw)<;>intro _)
 (refine (hcp).mono ?_;rintro _ _ ⟨rfl,rfl⟩;(conv=>whnf))
 refine rdz ?_;repeat' ((with_reducible apply tw)<;>intro _)
 refine h1.mono ?_
 rintro _ _ ⟨rfl,rfl⟩
 by_cases k2:okMsg p.nodes m
 rotate_left
 ·rw [decide_eq_false k2]
  conv=>whnf
  refine rdz ?_;repeat' ((with_reducible apply tw)<;>intro _)
  exact .inr ⟨fun h=>k2 h.msg,rfl,rfl⟩
 rw [decide_eq_true k2]
 conv=>whnf
 refine rdz ?_;repeat' ((with_reducible apply tw)<;>intro _)
 ·rename_i k3
  exact .inr ⟨fun h=>k3 h.dst,rfl,rfl⟩
 rename_i k3
 replace k3:m.dst=p.id:=k3
 refine h2.mono ?_
 rintro _ _ ⟨rfl,rfl⟩
 by_cases k4:∀ x∈held,1≤x∧x≤65536
 rotate_left
 ·rw [decide_eq_false k4]
  conv=>whnf
  refine rdz ?_;repeat' ((with_reducible apply tw)<;>intro _)
  exact .inr ⟨fun h=>k4 h.held.2,rfl,rfl⟩
 rw [decide_eq_true k4]
 conv=>whnf
 refine rdz ?_;repeat' ((with_reducible apply tw)<;>intro _)
 refine h3.mono ?_
 rintro _ _ ⟨rfl,rfl⟩
 by_cases k5:risingI held
 rotate_left
 ·rw [decide_eq_false k5]
  conv=>whnf
  refine rdz ?_;repeat' ((with_reducible apply tw)<;>intro _)
  exact .inr ⟨fun h=>k5 h.held.1,rfl,rfl⟩
 rw [decide_eq_true k5]
 have hC:takeC p m held:=⟨k1,k2,k3,⟨k5,k4⟩⟩
 conv=>whnf
 refine rdz ?_;repeat' ((with_reducible apply tw)<;>intro _)
 all_goals first|exact absurd hk (show ¬m.kind=6 by omega)|exact absurd (show m.kind=4 by assumption) (by omega)|exact absurd (show m.kind=5 by assumption) (by omega)|skip
 have e1:gotP p m held=inP p m.cert:=by rw [gotP,if_neg (by omega),if_neg (by omega),if_pos hk]
 have e2:gotO p m held=cmO p m.cert m.src:=by rw [gotO,if_neg (by omega),if_neg (by omega),if_pos hk,cmO_inO (by have:=k2.src;omega) (by rw [← k3];exact k2.ne)]
 have hc:=k2.ok.cert hk
 have hco:=comes20_ok p [] (Nat.zero_le _) m.cert (by rw [k1.same];exact hc) (certTiny_of k1.isn hc) ⟨k1.dag,by omega,fun c hc=>⟨by rw [k1.same];exact k1.late.certs c hc,ht.late.2 c hc⟩⟩ hr ht.late.2 k1.late.ris m.src
 rw [e1,e2]
 rw [List.nil_append] at hco
 refine hco.mono ?_
 rintro _ _ ⟨rfl,j,rfl⟩
 cases j
 all_goals
  conv=>whnf
  refine rdz ?_;repeat' ((with_reducible apply tw)<;>intro _)
  first
   | exact .inl ⟨hC,rfl,false,rfl⟩
   | exact .inl ⟨hC,rfl,true,rfl⟩
theorem wantO_nice6 (p:Prim) (to kind:Int) {l:List Int} (hl:l.length≤1000000):∀ x∈wantO p to kind l,x.nice:=by
 intro x hx
 obtain ⟨d,hd,rfl⟩:=List.mem_map.1 hx
 have h16:=chunks_tiny hl d hd
 exact ⟨⟨Nat.zero_le _,fit_few z_fit,fit_few z_fit,by show d.length≤_;omega⟩,rfl,⟨Nat.zero_le _,z_fit,z_fit,by show d.length≤_;omega⟩⟩
theorem inL_len {p:Prim} {n:Int} {c:Cert} (hn:isN n=true) (h:okHead n c):(freshI (lateP p.late c) (lackI p.dag c)).length≤100000:=by
 have:=h.pars.1
 have hnn:=of_decide_eq_true hn
 have h1:(lackI p.dag c).length≤c.pars.length:=by
  unfold lackI
  split
  ·exact Nat.zero_le _
  ·exact List.length_filter_le ..
 have h2:(freshI (lateP p.late c) (lackI p.dag c)).length≤(lackI p.dag c).length:=by unfold freshI;exact List.length_filter_le ..
 omega
theorem inO_nice {p:Prim} {n:Int} {c:Cert} (hn:isN n=true) (h:okHead n c) (src:Int):∀ x∈inO p c src,x.nice:=by
 unfold inO
 split
 ·exact wantO_nice6 p src 8 (by have:=inL_len (p:=p) hn h;omega)
 ·intro x hx;cases hx
theorem inO_len {p:Prim} {n:Int} {c:Cert} (hn:isN n=true) (h:okHead n c) (src:Int):(inO p c src).length≤100000:=by
 unfold inO
 split
 ·have:=inL_len (p:=p) hn h
  rw [wantO,List.length_map,chunksI_length]
  unfold chn
  omega
 ·exact Nat.zero_le _
theorem takeF6 (p:Prim) (hok:p.ok) (ht:p.tiny) (hg:p.gh) (hr:p.dag.certs.length+p.late.length<60000) (m:Msg) (hm:m.small) (hk:m.kind=6) (held:List Int) (hl:few held):TakeF p m held (takeC p m held) (gotP p m held) (gotO p m held) where
 page:=fun k1=>take20c_ok p k1 hok ht hr m hm.fine hk held hl
 prog:=takeI_of (takeO6_ok p hok hr m hm.fine hk held hl) (takeX_of (by unfold kindC;rw [hk];simp)) (fun hC x hx=>by
  rw [gotO,if_neg (by omega),if_neg (by omega),if_pos hk] at hx
  exact inO_nice hC.may.isn (hC.msg.ok.cert hk).head m.src x hx)
 may:=fun h=>h.may
 qok:=fun hC=>by
  have hgo:=goes_got hC.may hr hC.msg held
  exact ⟨may_ok hgo.may (hgo.gh hg),may_fit hgo.may⟩
 nice:=fun hC x hx=>by
  rw [gotO,if_neg (by omega),if_neg (by omega),if_pos hk] at hx
  exact inO_nice hC.may.isn (hC.msg.ok.cert hk).head m.src x hx
 len:=fun hC=>by
  rw [gotO,if_neg (by omega),if_neg (by omega),if_pos hk]
  exact inO_len hC.may.isn (hC.msg.ok.cert hk).head m.src
theorem primaryComes_ok (s:Script) (hs:s.okk):ACalls Tryz.prog 9 [s.av] [] (fun av L=>av = .d (.bool true)∧L=[]):=by
 have h:=takes20_ok s hs 6 fun h1 h2 h3 h4 m l hm hk hl=>⟨_,_,_,takeF6 s.p h1 h2 h3 h4 m hm hk l hl⟩
 (refine acalls_go ttOk zOk foOk Tryz.func9 rfl Tryz.ntmps9 rfl false rfl ?_);(conv=>whnf)
 refine rdz ?_;repeat' ((with_reducible apply tw)<;>intro _)
 (refine (h).mono ?_;rintro _ _ ⟨rfl,rfl⟩;(conv=>whnf))
 refine rdz ?_;repeat' ((with_reducible apply tw)<;>intro _)
 exact ⟨rfl,rfl⟩
end Go.Proofs.YtolkmjfkkkiboaaGreat
/- PrimaryComes: for every argument the law returns true, and its argument reads behind the call as it read before. No condition of ours. -/
namespace Go.Proofs.YtolkmjfkkkiboaaGreat
open Go.Ab Go.RowKit Go.ChangeShapes Go.WideShapes Go.ChangeAt
theorem own:ownKnob Tryz.prog.godebug=none:=by kernel_rfl
theorem laidOut:laidOutB Tryz.prog=true:=by kernel_rfl
set_option maxRecDepth 100000 in
theorem primaryComes_lifted (os:Os) (started:os.Started) (H:Type) (enc:TypeId×Value→H) :
  ReturnsInHanded {} Tryz.checked os 9 .any (Rows.primaryComesSpec.pre6 enc Tryz.prog Tryz.f9 Rows.primaryComesRow.domain false) (Rows.primaryComesSpec.post enc Tryz.prog Tryz.f9 false true false false):=by
 refine returnsInHanded_of_change_sized (C:=Tryz.checked) own started (by kernel_rfl) Tryz.func9
  (ChangeSpec.witness6 (enc:=enc) (C:=Tryz.checked) false ⟨#[],#[.agg #[.int .i64 0,.int .i64 0,.int .i64 0,.int .i64 0,.int .i64 0,.int .i64 0,.int .i64 0,.slice none 0 0,.slice none 0 0,.int .i64 0,.slice none 0 0,.slice none 0 0,.int .i64 0,.int .i64 0,.slice none 0 0,.slice none 0 0,.slice none 0 0]],[]⟩ 8 (by kernel_rfl) (by kernel_rfl) (by kernel_rfl) (by kernel_rfl)) ?_
 intro W base args ds gs before hval hW _ hsz _
 exact law_contract ttOk (f:=Tryz.f9) (tb:=4) (t:=33) rfl rfl Tryz.underlying4 rfl (fun _ _=>rfl) laidOut (by kernel_rfl) (of_decide_eq_true (by kernel_rfl)) 8 (by kernel_rfl) argS
  (fun W base v ds h1 h2=>argS_ok Tryz.underlying33 h1 h2)
  (fun ds hd=>by
    obtain ⟨p,hp,hok⟩:=askR_of hd
    rw [hp]
    exact primaryComes_ok p hok) hval hW hsz
theorem jf1:Tryz.prog.inPlace 9=Rows.primaryComesRow.inPlace:=by kernel_rfl
theorem jf2:Tryz.prog.unfollowed 9=Rows.primaryComesRow.unfollowed:=by kernel_rfl
theorem jf3:Tryz.prog.recurses 9=Rows.primaryComesRow.recurses:=by kernel_rfl
theorem jf4:Tryz.prog.varsNamed 9=Rows.primaryComesRow.named:=by kernel_rfl
theorem jf5:mapsRowed Tryz.prog=true:=by kernel_rfl
theorem jf:joinedFacts Tryz.prog 9 Tryz.f9 Rows.primaryComesSpec Rows.primaryComesRow=true:=by
 unfold joinedFacts
 rw [jf1,jf2,jf3,jf4,jf5,laidOut]
 kernel_rfl
theorem primaryComes_holds:Rows.PrimaryComesSaid :=
 OpenClaim.holds_of_wide 9 Tryz.f9 rfl rfl rfl rfl rfl rfl rfl ⟨rfl,rfl,rfl,rfl,rfl⟩ rfl rfl rfl rfl rfl (by kernel_rfl) Tryz.func9 jf
  (of_decide_eq_true (by kernel_rfl)) (by unfold Func.isWrapper;first|(rw [if_pos (by decide +kernel)];kernel_rfl)|(rw [if_neg (by decide +kernel)];exact ⟨rfl,rfl⟩))
  (fun os started H enc _=>primaryComes_lifted os started H enc)
#print axioms primaryComes_holds
end Go.Proofs.YtolkmjfkkkiboaaGreat
