/- AuditDags: for every argument the law returns true, and its argument reads behind the call as it read before. No condition of ours. -/
import Derived.Test.YtodimgkpjnpbiaaGreatAuditDagsCodF
import Derived.Test.YtodimgkpjnpbiaaGreatRows
set_option linter.unusedVariables false
set_option linter.unusedSimpArgs false
namespace Go.Proofs.YtodimgkpjnpbiaaGreat
open Go.Ab Go.RowKit Go.MapKept
attribute [local irreducible] ACalls AW ADraw Into fltB fnear
set_option maxRecDepth 100000
theorem eqHeader_same (c:Cert) (h:fewL c):ACalls Tryz.prog 41 [c.hav,c.hav] [] (fun av L=>av = .d (.bool true)∧L=[]):=by
 have h1:=eqNumbers_ok c.bats c.bats h.bats
 have h2:=eqNumbers_ok c.pars c.pars h.pars
 rw [decide_eq_true rfl] at h1 h2
 (refine acalls_go ttOk zOk foOk Tryz.func41 rfl Tryz.ntmps41 rfl false rfl ?_);(conv=>whnf)
 refine rdw ?_;repeat' ((with_reducible apply tw)<;>intro _)
 ·refine h1.mono ?_
  rintro _ _ ⟨rfl,rfl⟩
  conv=>whnf
  refine rdw ?_;repeat' ((with_reducible apply tw)<;>intro _)
  refine h2.mono ?_
  rintro _ _ ⟨rfl,rfl⟩
  conv=>whnf
  exact ⟨rfl,rfl⟩
 all_goals (rename_i hx;exact absurd rfl hx)
theorem eqCert_same (c:Cert) (h:fewL c):ACalls Tryz.prog 21 [c.av,c.av] [] (fun av L=>av = .d (.bool true)∧L=[]):=by
 have h1:=eqHeader_same c h
 have h2:=eqNumbers_ok c.sigs c.sigs h.sigs
 rw [decide_eq_true rfl] at h2
 (refine acalls_go ttOk zOk foOk Tryz.func21 rfl Tryz.ntmps21 rfl false rfl ?_);(conv=>whnf)
 refine h1.mono ?_
 rintro _ _ ⟨rfl,rfl⟩
 conv=>whnf
 refine rdw ?_;repeat' ((with_reducible apply tw)<;>intro _)
 ·refine h2.mono ?_
  rintro _ _ ⟨rfl,rfl⟩
  conv=>whnf
  exact ⟨rfl,rfl⟩
 all_goals (rename_i hx;exact absurd rfl hx)
theorem eqCerts_same (l:List Cert) (hl:few l) (h:∀ c∈l,fewL c):ACalls Tryz.prog 11 [.d (.sl 6 (certsD l)),.d (.sl 6 (certsD l))] [] (fun av L=>av = .d (.bool true)∧L=[]):=by
 have hcl:=certsD_length l
 unfold few at hl
 (refine acalls_go ttOk zOk foOk Tryz.func11 rfl Tryz.ntmps11 rfl false rfl ?_);(conv=>whnf)
 refine rdw ?_;repeat' ((with_reducible apply tw)<;>intro _)
 ·rename_i hx;exact absurd rfl hx
 ·refine loop_go ttOk zOk foOk (σ:=Nat) (fun k=>([(0,.d (.sl 6 (certsD l))),(1,.d (.sl 6 (certsD l))),(5,.d (.int .i64 k))],[])) (fun k=>k≤l.length) (fun k=>l.length - k) [0,1,5] ?_ ?_
  ·conv=>whnf
   exact ⟨0,rfl,rfl,by omega⟩
  ·intro k hk
   conv=>whnf
   rw [hcl]
   refine rdw ?_;repeat' ((with_reducible apply tw)<;>intro _)
   ·rename_i hkl
    refine Exists.elim (⟨_,List.getElem?_eq_getElem (by omega)⟩:∃ c,l[k]? = some c) fun c hc => ?_
    have h1:=eqCert_same c (h c (List.mem_of_getElem? hc))
    ((with_reducible refine draw_pl ttOk zOk foOk mixedOk pl11x6 ?_ ?_);(focus kernel_rfl);(conv=>whnf))
    refine rdw ?_;repeat' ((with_reducible apply tw)<;>intro _)
    ((with_reducible apply rd_intro);(focus (intro K hK;(conv=>whnf);exact ⟨by omega,c.cs,certsD_at hc,hK⟩));(conv=>whnf))
    refine rdw ?_;repeat' ((with_reducible apply tw)<;>intro _)
    ((with_reducible apply rd_intro);(focus (intro K hK;(conv=>whnf);exact ⟨by omega,c.cs,certsD_at hc,hK⟩));(conv=>whnf))
    refine rdw ?_;repeat' ((with_reducible apply tw)<;>intro _)
    refine h1.mono ?_
    rintro _ _ ⟨rfl,rfl⟩
    conv=>whnf
    refine rdw ?_;repeat' ((with_reducible apply tw)<;>intro _)
    exact ⟨k+1,rfl,rfl,by omega,by omega⟩
   ·exact ⟨rfl,rfl⟩
theorem eqDag_same (d:Dag) (hl:few d.certs) (h:∀ c∈d.certs,fewL c):ACalls Tryz.prog 10 [d.av,d.av] [] (fun av L=>av = .d (.bool true)∧L=[]):=by
 have h1:=eqCerts_same d.certs hl h
 (refine acalls_go ttOk zOk foOk Tryz.func10 rfl Tryz.ntmps10 rfl false rfl ?_);(conv=>whnf)
 refine rdw ?_;repeat' ((with_reducible apply tw)<;>intro _)
 ·refine h1.mono ?_
  rintro _ _ ⟨rfl,rfl⟩
  conv=>whnf
  exact ⟨rfl,rfl⟩
 all_goals (rename_i hx;exact absurd rfl hx)
def bdSo (s:Dag×List Cert):AF×List AB :=
 ([(4,.ptr 0 0),(5,.ptr 1 0),(6,.arr 2)],[.cells [.d (.int .i64 0),.d (.int .i64 0),.d .nils],.cells [.d (.int .i64 s.1.nodes),.d (.int .i64 s.1.low),.d (cDn s.1.certs)],.row 47 6 (certsDo s.2) false])
def bdIo (d:Dag) (left:List Cert) (i:Nat):AF×List AB :=
 ([(4,.ptr 0 0),(5,.ptr 1 0),(6,.arr 2),(15,.arr 2),(16,.d (.int .i64 left.length)),(17,.d (.int .i64 i))],[.cells [.d (.int .i64 0),.d (.int .i64 0),.d .nils],.cells [.d (.int .i64 d.nodes),.d (.int .i64 d.low),.d (cDn d.certs)],.row 47 6 (certsDo left) false])
theorem cert_delO (l:List Cert) (i:Nat):(certsDo l).take i++(certsDo l).drop (i+1)=certsDo (l.take i++l.drop (i+1)):=by simp [certsDo]
theorem put_dnO (d:Dag) (hd:d.fit) (hl:d.certs.length≤4294967296) (hlow:0≤d.low∧d.low≤1099511627776) (c:Cert) (hc:c.tiny) (hr:isF c.round) (hr1:1≤c.round) (ha:isF c.author) :
  ACalls Tryz.prog 39 [.agg [.d (.int .i64 d.nodes),.d (.int .i64 d.low),.d (cDn d.certs)],c.avo] [] (fun av L=>av = .tup [(putD d c).av,.d (.int .i64 (putE d c))]∧L=[]) :=
 acalls_args (cDn_args d.certs) (put_dagO d hd hl hlow c hc hr hr1 ha)
set_option maxHeartbeats 1000000 in
theorem buildO_row (n:Int) (hn:isN n=true) (l:List Cert) (hl:l.length≤60000) (hok:∀ c∈l,okCert n c∧c.tiny) (fin:Dag) (hfin:fin=buildF l.length ⟨n,0,[]⟩ l) :
  ACalls Tryz.prog 20 [.d (.int .i64 n),.d (.slo 6 (certsDo l))] [] (bdPost fin):=by
 have hcl:=certsDo_length l
 have hnn:=of_decide_eq_true hn
 (refine acalls_go ttOk zOk foOk Tryz.func20 rfl Tryz.ntmps20 rfl false rfl ?_);(conv=>whnf)
 refine scope_go ttOk zOk foOk (σ:=Dag×List Cert) bdSo (fun b s=>b=0∧bdInv n fin s) (fun _ s=>s.2.length) ?_ ?_
 ·rintro lb rest hlb ⟨d,left⟩ ⟨rfl,hinv⟩
  have e:=Option.some.inj (show some _=some rest from hlb)
  subst e
  clear hlb
  have hll:=certsDo_length left
  have hlen:d.certs.length+left.length≤60000:=hinv.len
  conv=>whnf
  refine loop_go ttOk zOk foOk (σ:=Nat) (bdIo d left) (fun i=>i≤left.length∧∀ (j:Nat) c,j<i→left[j]? = some c→putE d c≠0) (fun i=>left.length - i) [4,5,6,15,16,17] ?_ ?_
  ·conv=>whnf
   exact ⟨0,by rw [hll];rfl,rfl,Nat.zero_le _,fun j c h=>absurd h (by omega)⟩
  ·rintro i ⟨hi,hno⟩
   conv=>whnf
   refine rdz ?_;repeat' ((with_reducible apply tw)<;>intro _)
   ·rename_i hil
    replace hil:(i:Int)<left.length:=hil
    refine Exists.elim (⟨_,List.getElem?_eq_getElem (by omega)⟩:∃ c,left[i]? = some c) fun c hc => ?_
    have hcm:=hinv.ok c (List.mem_of_getElem? hc)
    have hcr:=hcm.1.head.round
    have hca:=hcm.1.head.author
    have hf1:isF c.round:=⟨by omega,by omega⟩
    have hf2:isF c.author:=⟨by omega,by omega⟩
    have hput:=put_dnO d hinv.val.well.fit (by omega) hinv.val.low c hcm.2 hf1 hcr.1 hf2
    refine ⟨by omega,by omega,?_⟩
    conv=>whnf
    refine ⟨c.cso,certsDo_at hc,?_⟩
    conv=>whnf
    refine hput.mono ?_
    rintro _ _ ⟨rfl,rfl⟩
    by_cases hp:putE d c=0
    ·rw [hp,putD,if_pos hp]
     have hnx:=hinv.next hc hp hno
     have hcd:=cDn_ins d c
     obtain ⟨x,hx⟩:∃ x,insC d c=x:=⟨_,rfl⟩
     rw [hx] at hnx hcd ⊢
     conv=>whnf
     refine rdz ?_;repeat' ((with_reducible apply tw)<;>intro _)
     (refine Or.inr ?_;(conv=>whnf))
     refine (deleteCert_ok (certsDo left) i (by omega)).mono ?_
     rintro _ _ ⟨rfl,rfl⟩
     rw [cert_delO]
     conv=>whnf
     refine into_of [4,5,6] ?_
     conv=>whnf
     refine ⟨(x,left.take i++left.drop (i+1)),rfl,?_,⟨rfl,hnx.1⟩,hnx.2⟩
     rw [bdSo,hcd]
    ·obtain ⟨pe,hpe⟩:∃ pe,putE d c=pe:=⟨_,rfl⟩
     rw [hpe] at hp ⊢
     rw [putD,hpe,if_neg hp]
     conv=>whnf
     refine rdz ?_;repeat' ((with_reducible apply tw)<;>intro _)
     ·rename_i h0
      exact absurd h0 hp
     ·refine ⟨i+1,rfl,rfl,⟨by omega,fun j y hj hy => ?_⟩,by omega⟩
      rcases Nat.lt_or_ge j i with h4|h4
      ·exact hno j y h4 hy
      ·obtain rfl:j=i:=by omega
       rw [hc] at hy;cases hy;rw [hpe];exact hp
   ·rename_i hil
    replace hil:¬(i:Int)<left.length:=hil
    obtain rfl:=hinv.stop fun j c hj hc=>hno j c (by have:j<left.length:=hj;omega) hc
    exact ⟨rfl,rfl⟩
 ·intro pass
  conv=>whnf
  refine rdz ?_;repeat' ((with_reducible apply tw)<;>intro _)
  refine (cloneCO_ok l (by omega)).mono ?_
  rintro _ _ ⟨rfl,rfl⟩
  conv=>whnf
  refine aw_at (σ:=Unit) (fun _=>bdSo (⟨n,0,[]⟩,l)) (fun _=>True) [4,5,6] ?_ ?_
  ·conv=>whnf
   exact ⟨(),rfl,rfl,trivial⟩
  ·intro _ _
   exact pass 0 _ rfl (⟨n,0,[]⟩,l) ⟨rfl,⟨⟨hn,⟨Int.le_refl _,show (0:Int)≤1099511627776 by decide⟩,by simp,by simp,by simp,List.Pairwise.nil,by simp,by simp⟩,rfl,hok,by simpa using hl,hfin.symm⟩⟩
theorem buildO_ok (n:Int) (hn:isN n=true) (l:List Cert) (hl:l.length≤60000) (hok:∀ c∈l,okCert n c∧c.tiny) :
  ACalls Tryz.prog 20 [.d (.int .i64 n),.d (.slo 6 (certsDo l))] [] (fun av L=>av=(buildD n l).av∧L=[]):=by
 refine acalls_post3 (buildO_row n hn l hl hok (buildD n l) rfl) ?_
 rintro _ _ ⟨rfl,rfl⟩
 exact ⟨_,⟨rfl,rfl⟩,cDn_post _⟩
theorem auditDagO_ok (n:Int) (l:List Cert) (hl:l.length≤60000) (hf:∀ c∈l,fewL c∧c.tiny):ACalls Tryz.prog 8 [.d (.int .i64 n),.d (.slo 6 (certsDo l))] [] (fun av L=>av=adagAV n l∧L=[]):=by
 have hmay:ACalls Tryz.prog 18 [.d (.int .i64 n),.d (.slo 6 (certsDo l))] [] (fun av L=>av = .d (.bool (isN n&&l.all fun c=>okC n c))∧L=[]):=acalls_lend (flat_bool _) ⟨_,_,rfl,.inl (l1_int _),_,_,rfl,.inl (l1_up (up_certs l)),rfl⟩ (auditMay_ok n l (by unfold few;omega) (fun c hc=>(hf c hc).1))
 rw [show (isN n&&l.all fun c=>okC n c)=okAll n l from rfl] at hmay
 (refine acalls_go ttOk zOk foOk Tryz.func8 rfl Tryz.ntmps8 rfl false rfl ?_);(conv=>whnf)
 refine hmay.mono ?_
 rintro _ _ ⟨rfl,rfl⟩
 rw [adagAV]
 cases hb:okAll n l with
 | false =>
   conv=>whnf
   refine rdz ?_;repeat' ((with_reducible apply tw)<;>intro _)
   exact ⟨rfl,rfl⟩
 | true =>
   obtain ⟨h1,h2⟩:=okAll_iff.1 hb
   have hval:=(buildD_valid h1 hl h2).1
   have hto:=dagOwn_ok (buildD n l) hval.tiny.1 hval.tiny.2
   conv=>whnf
   refine rdz ?_;repeat' ((with_reducible apply tw)<;>intro _)
   refine (buildO_ok n h1 l hl fun c hc=>⟨h2 c hc,(hf c hc).2⟩).mono ?_
   rintro _ _ ⟨rfl,rfl⟩
   obtain ⟨d,hd⟩:∃ d,buildD n l=d:=⟨_,rfl⟩
   rw [hd] at hto ⊢
   conv=>whnf
   refine hto.mono ?_
   rintro _ _ ⟨rfl,rfl⟩
   conv=>whnf
   refine rdz ?_;repeat' ((with_reducible apply tw)<;>intro _)
   exact ⟨rfl,rfl⟩
theorem ne_nums (l:List Int):NoE (nums l):=NoE_map (f:=fun x=>[DV.int .i64 x]) (fun _=>⟨trivial,trivial⟩) l
theorem no_nums (l:List Int):NoO (.sl 1 (nums l)):=by simp only [NoO];exact ne_nums l
theorem nc_cert (c:Cert):NoC c.cs:=⟨trivial,trivial,no_nums _,no_nums _,trivial,no_nums _,trivial⟩
theorem ne_certs (l:List Cert):NoE (certsD l):=NoE_map nc_cert l
theorem isl_int {i:Nat} (n:Int):Isl i (.d (.int .i64 n)) (.d (.int .i64 n)) := .flat (flat_int _ _)
theorem wk_r {L:List AB} (a:AV):Wk1 L a a := .inl rfl
theorem wk_n {lo n m:Nat} (h:0<m):Wk1 [.isle lo n true] (.d .nils) (.isl 0 (.sl m [])) := .inr ⟨0,lo,n,m,rfl,⟨_,rfl,rfl⟩,h,rfl⟩
theorem l1_isk {i lo n:Nat} {ok:IsK} {L:List AB} (h:L[i]? = some (.isle lo n ok)) (x:DV) (hr:ok.reads x=true):lend1 L (.isl i x) (.d x) := .inr (.inr (.inr (.inr (.inr ⟨i,x,x,lo,n,ok,rfl,h,hr,rfl,.refl _⟩))))
theorem l1_isl {i lo n:Nat} {L:List AB} (h:L[i]? = some (.isle lo n true)) (x:DV):lend1 L (.isl i x) (.d x):=l1_isk h x rfl
theorem l1_d {L:List AB} (x:DV):lend1 L (.d x) (.d x) := .inl ⟨_,rfl,rfl⟩
def Dag.ai (d:Dag) (i:Nat):AV := .agg [.d (.int .i64 d.nodes),.d (.int .i64 d.low),.isl i (.sl 6 (certsD d.certs))]
def zD:Dag:=⟨0,0,[]⟩
theorem dagI_ok (n:Int) (l:List Cert) (hl:l.length≤60000) (hf:∀ c∈l,fewL c∧c.tiny):ACalls Tryz.prog 8 [.d (.int .i64 n),.d (.sl 6 (certsD l))] [] (fun av L=>((okAll n l=true∧av = .tup [(buildD n l).ai 0,.d (.int .i64 0)])∨(okAll n l=false∧av = .tup [zD.ai 0,.d (.int .i64 1)]))∧∃ lo m,L=[.isle lo m true]):=by
 refine acalls_wk (acalls_isle (X:=fun av=>av=adagAV n l) (post:=fun av=>(okAll n l=true∧av = .tup [(buildD n l).ai 0,.d (.int .i64 0)])∨(okAll n l=false∧av = .tup [.agg [.d (.int .i64 0),.d (.int .i64 0),.d .nils],.d (.int .i64 1)])) (.cons (.inl (lo_int _)) (.cons (.inl (lo_dn (dn_certs l))) .nil)) (auditDagO_ok n l hl hf) ?_) ?_
 ·rintro _ rfl
  rw [adagAV]
  cases hb:okAll n l with
  | true =>
    rw [if_pos rfl]
    exact ⟨_,.inr ⟨_,_,rfl,rfl,.cons (.inr ⟨_,_,rfl,rfl,.cons (isl_int _) (.cons (isl_int _) (.cons (.sl (ne_certs _)) .nil))⟩) (.cons (.inl (isl_int _)) .nil)⟩,.inl ⟨rfl,rfl⟩⟩
  | false =>
    rw [if_neg (by decide)]
    exact ⟨_,.inr ⟨_,_,rfl,rfl,.cons (.inr ⟨_,_,rfl,rfl,.cons (isl_int _) (.cons (isl_int _) (.cons (.flat flat_nils) .nil))⟩) (.cons (.inl (isl_int _)) .nil)⟩,.inr ⟨rfl,rfl⟩⟩
 ·rintro _ _ ⟨⟨k,rfl⟩|⟨k,rfl⟩,lo,m,rfl⟩
  ·exact ⟨_,.inl (.inl (wk_r _)),.inl ⟨k,rfl⟩,lo,m,rfl⟩
  ·exact ⟨_,.inr ⟨_,_,rfl,rfl,.cons (.inr ⟨_,_,rfl,rfl,.cons (wk_r _) (.cons (wk_r _) (.cons (wk_n (by decide)) .nil))⟩) (.cons (.inl (wk_r _)) .nil)⟩,.inr ⟨k,rfl⟩,lo,m,rfl⟩
theorem lend_dai {i lo n:Nat} {L:List AB} (h:L[i]? = some (.isle lo n true)) (d:Dag):lend2 L (d.ai i) d.av := .inr ⟨_,_,rfl,rfl,lendS_c (l1_int _) (lendS_c (l1_int _) (lendS_c (l1_isl h _) lendS_n))⟩
theorem lend_dav {L:List AB} (d:Dag):lend2 L d.av d.av := .inr ⟨_,_,rfl,rfl,lendS_c (l1_int _) (lendS_c (l1_int _) (lendS_c (l1_d _) lendS_n))⟩
theorem eqDI_ok (d:Dag) (hl:few d.certs) (h:∀ c∈d.certs,fewL c) (lo n:Nat):ACalls Tryz.prog 10 [d.ai 0,d.av] [.isle lo n true] (fun av L=>av = .d (.bool true)∧L=[.isle lo n true]) :=
 acalls_lend (flat_bool _) ⟨_,_,rfl,lend_dai rfl d,_,_,rfl,lend_dav d,rfl⟩ (eqDag_same d hl h)
theorem fsI (l:List Int) (h:l.length≤4294967296) (k:Nat):FitS (k+1) 1 (.sl 1 (nums l)) := .inr ⟨_,rfl,by rw [nums_length];exact h,fun cs hcs=>by
 obtain ⟨x,_,rfl⟩:=List.mem_map.1 hcs
 exact ⟨x,[],rfl,rfl⟩⟩
structure Cert.fitS (c:Cert):Prop where
 bats:c.bats.length≤4294967296
 pars:c.pars.length≤4294967296
 sigs:c.sigs.length≤4294967296
theorem fsC (l:List Cert) (h:l.length≤4294967296) (hc:∀ c∈l,c.fitS) (k:Nat):FitS (k+2) 6 (.sl 6 (certsD l)) := .inr ⟨_,rfl,by rw [certsD_length];exact h,fun cs hcs=>by
 obtain ⟨x,hx,rfl⟩:=List.mem_map.1 hcs
 have hf:=hc x hx
 exact ⟨x.author,_,rfl,x.round,_,rfl,_,_,rfl,fsI x.bats hf.bats k,_,_,rfl,fsI x.pars hf.pars k,x.digest,_,rfl,_,_,rfl,fsI x.sigs hf.sigs k,rfl⟩⟩
theorem spoilC_ok (l:List Cert) (h:l.length≤4294967296) (hl:∀ c∈l,c.fitS) (lo n:Nat) (ok:IsK):ACalls Tryz.prog 12 [.isl 0 (.sl 6 (certsD l))] [.isle lo n ok] (fun av L=>av = .tup []∧L=[.isle lo n false]):=by
 refine acalls_spoil fun c E w vs hbl hv => ?_
 simp only [VRt] at hv
 obtain ⟨u,us',hvs,hu,rfl⟩:=hv
 have hvs':vs = #[u]:=by rw [← Array.toArray_toList (xs:=vs),hvs]
 rw [hvs']
 exact certs_sp lo n 1 w u (isl_SL (fsC l h hl 1) hu) hbl
set_option maxHeartbeats 4000000 in
theorem auditDags_ok (p:AskA) (hp:p.ok):ACalls Tryz.prog 3 [p.av] [] (fun av L=>av = .d (.bool true)∧L=[]):=by
 (refine acalls_go ttOk zOk foOk Tryz.func3 rfl Tryz.ntmps3 rfl false rfl ?_);(conv=>whnf)
 refine (heavy25_ok p hp).mono ?_
 rintro _ _ ⟨⟨b,rfl,hb⟩,rfl⟩
 cases b with
 | true =>
   conv=>whnf
   exact ⟨rfl,rfl⟩
 | false =>
   have hl:=hb rfl
   have hlen:=hl.len
   have hf:=hl.all
   have hfit:∀ c∈p.l,c.fitS:=fun c hc=>⟨by have:=(hl.light c hc).1;omega,by have:=(hl.light c hc).2.1;omega,by have:=(hl.light c hc).2.2;omega⟩
   have hform:=form25_ok p hl
   have hcp:=copyCerts_ok p.l (by unfold tiny;omega) (fun c hc=>(hf c hc).2)
   have heq:=eqCerts_same p.l (by unfold few;omega) (fun c hc=>(hf c hc).1)
   have hdag:=dagI_ok p.n p.l (by omega) hf
   conv=>whnf
   refine hform.mono ?_
   rintro _ _ ⟨rfl,rfl⟩
   cases hok:okAll p.n p.l with
   | false =>
     rw [ordE,if_neg (by rw [hok];decide)]
     have hei:=eqDI_ok zD (Nat.zero_le _) (fun c hc=>by cases hc)
     have hsp:=spoilC_ok [] (Nat.zero_le _) (fun c hc=>by cases hc)
     conv=>whnf
     refine rdz ?_;repeat' ((with_reducible apply tw)<;>intro _)
     (refine (hcp).mono ?_;rintro _ _ ⟨rfl,rfl⟩;(conv=>whnf))
     refine rdz ?_;repeat' ((with_reducible apply tw)<;>intro _)
     refine hdag.mono ?_
     rintro _ _ ⟨⟨k,_⟩|⟨_,rfl⟩,lo,m,rfl⟩
     ·rw [hok] at k;cases k
     conv=>whnf
     refine rdz ?_;repeat' ((with_reducible apply tw)<;>intro _)
     (refine (num25_ok 1).mono ?_;rintro _ _ ⟨rfl,rfl⟩;(conv=>whnf))
     refine rdz ?_;repeat' ((with_reducible apply tw)<;>intro _)
     refine (acalls_nw (avs':=[zD.ai 0,zD.av]) (hei lo m) (.cons (.refl _) (.cons (.agg (.cons (.refl _) (.cons (.refl _) (.cons (.nils _ (by decide)) .nil)))) .nil))).mono ?_
     rintro _ _ ⟨rfl,rfl⟩
     conv=>whnf
     refine rdz ?_;repeat' ((with_reducible apply tw)<;>intro _)
     (refine (heq).mono ?_;rintro _ _ ⟨rfl,rfl⟩;(conv=>whnf))
     refine rdz ?_;repeat' ((with_reducible apply tw)<;>intro _)
     (refine (hsp lo m true).mono ?_;rintro _ _ ⟨rfl,rfl⟩;(conv=>whnf))
     refine rdz ?_;repeat' ((with_reducible apply tw)<;>intro _)
     (refine (heq).mono ?_;rintro _ _ ⟨rfl,rfl⟩;(conv=>whnf))
     refine rdz ?_;repeat' ((with_reducible apply tw)<;>intro _)
     (refine (wakes25_ok).mono ?_;rintro _ _ ⟨rfl,rfl⟩;(conv=>whnf))
     refine rdz ?_;repeat' ((with_reducible apply tw)<;>intro _)
     exact ⟨rfl,rfl⟩
   | true =>
     rw [ordE,if_pos hok]
     obtain ⟨q1,q2⟩:=okAll_iff.1 hok
     obtain ⟨v1,v2,v3,v4,v5⟩:=buildD_valid q1 (show p.l.length≤60000 by omega) q2
     have hrd:=rDag_ok p.n q1 p.l (by omega) fun c hc=>⟨q2 c hc,(hf c hc).2,(hf c hc).1⟩
     have hei:=eqDI_ok (buildD p.n p.l) (by unfold few;omega) (fun c hc=>(hf c (v5 c hc)).1)
     have hsp:=spoilC_ok (buildD p.n p.l).certs (by omega) (fun c hc=>hfit c (v5 c hc))
     conv=>whnf
     refine rdz ?_;repeat' ((with_reducible apply tw)<;>intro _)
     (refine (hrd).mono ?_;rintro _ _ ⟨rfl,rfl⟩;(conv=>whnf))
     refine rdz ?_;repeat' ((with_reducible apply tw)<;>intro _)
     (refine (hcp).mono ?_;rintro _ _ ⟨rfl,rfl⟩;(conv=>whnf))
     refine rdz ?_;repeat' ((with_reducible apply tw)<;>intro _)
     refine hdag.mono ?_
     rintro _ _ ⟨⟨_,rfl⟩|⟨k,_⟩,lo,m,rfl⟩
     rotate_left
     ·rw [hok] at k;cases k
     conv=>whnf
     refine rdz ?_;repeat' ((with_reducible apply tw)<;>intro _)
     (refine (num25_ok 0).mono ?_;rintro _ _ ⟨rfl,rfl⟩;(conv=>whnf))
     refine rdz ?_;repeat' ((with_reducible apply tw)<;>intro _)
     (refine (hei lo m).mono ?_;rintro _ _ ⟨rfl,rfl⟩;(conv=>whnf))
     refine rdz ?_;repeat' ((with_reducible apply tw)<;>intro _)
     (refine (heq).mono ?_;rintro _ _ ⟨rfl,rfl⟩;(conv=>whnf))
     refine rdz ?_;repeat' ((with_reducible apply tw)<;>intro _)
     (refine (hsp lo m true).mono ?_;rintro _ _ ⟨rfl,rfl⟩;(conv=>whnf))
     refine rdz ?_;repeat' ((with_reducible apply tw)<;>intro _)
     (refine (heq).mono ?_;rintro _ _ ⟨rfl,rfl⟩;(conv=>whnf))
     refine rdz ?_;repeat' ((with_reducible apply tw)<;>intro _)
     (refine (wakes25_ok).mono ?_;rintro _ _ ⟨rfl,rfl⟩;(conv=>whnf))
     refine rdz ?_;repeat' ((with_reducible apply tw)<;>intro _)
     exact ⟨rfl,rfl⟩
end Go.Proofs.YtodimgkpjnpbiaaGreat
/- AuditDags: for every argument the law returns true, and its argument reads behind the call as it read before. No condition of ours. -/
namespace Go.Proofs.YtodimgkpjnpbiaaGreat
open Go.Ab Go.RowKit Go.ChangeShapes Go.WideShapes Go.ChangeAt
theorem own:ownKnob Tryz.prog.godebug=none:=by kernel_rfl
theorem laidOut:laidOutB Tryz.prog=true:=by kernel_rfl
set_option maxRecDepth 100000 in
theorem auditDags_lifted (os:Os) (started:os.Started) (H:Type) (enc:TypeId×Value→H) :
  ReturnsInHanded {} Tryz.checked os 3 .any (Rows.auditDagsSpec.pre6 enc Tryz.prog Tryz.f3 Rows.auditDagsRow.domain false) (Rows.auditDagsSpec.post enc Tryz.prog Tryz.f3 false true false false):=by
 refine returnsInHanded_of_change_sized (C:=Tryz.checked) own started (by kernel_rfl) Tryz.func3
  (ChangeSpec.witness6 (enc:=enc) (C:=Tryz.checked) false ⟨#[],#[.agg #[.int .i64 0,.slice none 0 0,.slice none 0 0]],[]⟩ 8 (by kernel_rfl) (by kernel_rfl) (by kernel_rfl) (by kernel_rfl)) ?_
 intro W base args ds gs before hval hW _ hsz _
 exact law_contract ttOk (f:=Tryz.f3) (tb:=4) (t:=25) rfl rfl Tryz.underlying4 rfl (fun _ _=>rfl) laidOut (by kernel_rfl) (of_decide_eq_true (by kernel_rfl)) 6 (by kernel_rfl) argS
  (fun W base v ds h1 h2=>argS_ok Tryz.underlying25 h1 h2)
  (fun ds hd=>by
    obtain ⟨p,hp,hok⟩:=askA_of hd
    rw [hp]
    exact auditDags_ok p hok) hval hW hsz
theorem auditDags_holds:Rows.AuditDagsSaid :=
 OpenClaim.holds_of_wide 3 Tryz.f3 rfl rfl rfl rfl rfl rfl rfl ⟨rfl,rfl,rfl,rfl,rfl⟩ rfl rfl rfl rfl rfl (by kernel_rfl) Tryz.func3 (by kernel_rfl)
  (of_decide_eq_true (by kernel_rfl)) (by unfold Func.isWrapper;first|(rw [if_pos (by decide +kernel)];kernel_rfl)|(rw [if_neg (by decide +kernel)];exact ⟨rfl,rfl⟩))
  (fun os started H enc _=>auditDags_lifted os started H enc)
#print axioms auditDags_holds
end Go.Proofs.YtodimgkpjnpbiaaGreat
