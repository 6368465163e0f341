/- AuditDags: contracts. -/
import Derived.Test.YtodimgkpjnpbiaaGreatAuditDagsCodC
set_option linter.unusedVariables false
set_option linter.unusedSimpArgs false
namespace Go.Proofs.YtodimgkpjnpbiaaGreat
open Go.Ab Go.RowKit Go.MapKept
attribute [local irreducible] ACalls AW ADraw Into fltB fnear
set_option maxRecDepth 100000
def lackI (d:Dag) (c:Cert):List Int:=if c.round≤d.low+1 then [] else c.pars.filter fun x => !(ofR d.certs (c.round - 1)).any fun y=>y.digest == x
theorem lack_ok (d:Dag) (hd:d.fit) (c:Cert) (hc:tiny c.pars) (hr:isF c.round) (hr1:1≤c.round) (hlow:0≤d.low∧d.low≤1099511627776):ACalls Tryz.prog 62 [d.av,c.hav] [] (fun av L=>av = .d (.sl 1 (nums (lackI d c)))∧L=[]):=by
 have hpl:=nums_length c.pars
 have hfl:few (ofR d.certs (c.round - 1)):=by
  have:=hd.few
  unfold few at this ⊢
  exact Nat.le_trans (List.length_filter_le ..) this
 unfold tiny at hc
 unfold isF at hr
 (refine acalls_go ttOk zOk foOk Tryz.func62 rfl Tryz.ntmps62 rfl false rfl ?_);(conv=>whnf)
 refine rdw ?_;repeat' ((with_reducible apply tw)<;>intro _)
 ·rename_i h
  rw [lackI,if_pos h]
  exact ⟨rfl,rfl⟩
 ·rename_i h
  rw [lackI,if_neg h]
  refine (dagOf_ok d hd (c.round - 1) (by unfold isF;omega)).mono ?_
  rintro _ _ ⟨rfl,rfl⟩
  obtain ⟨A,hA⟩:∃ A,ofR d.certs (c.round - 1)=A:=⟨_,rfl⟩
  rw [hA] at hfl ⊢
  conv=>whnf
  refine loop_go ttOk zOk foOk (σ:=Nat) (fun j=>([(5,.d (.sl 6 (certsD A))),(20,.d (.sl 1 (nums c.pars))),(21,.d (.int .i64 c.pars.length)),(22,.d (.int .i64 j)),(4,.arr 0)],[.row 3 1 (nums ((c.pars.take j).filter fun x => !A.any fun y=>y.digest == x)) false])) (fun j=>j≤c.pars.length) (fun j=>c.pars.length - j) [5,20,21,22,4] ?_ ?_
  ·conv=>whnf
   exact ⟨0,by rw [hpl];rfl,rfl,Nat.zero_le _⟩
  ·intro j hj
   have hfn:(nums ((c.pars.take j).filter fun x => !A.any fun y=>y.digest == x)).length≤c.pars.length:=by rw [nums_length];exact Nat.le_trans (List.length_filter_le ..) (List.length_take_le' ..)
   conv=>whnf
   refine rdw ?_;repeat' ((with_reducible apply tw)<;>intro _)
   ·rename_i hjl
    refine Exists.elim (⟨_,List.getElem?_eq_getElem (by omega)⟩:∃ x,c.pars[j]? = some x) fun x hx => ?_
    refine ⟨by omega,[.int .i64 x],nums_at hx,?_⟩
    conv=>whnf
    refine (has_ok A hfl x).mono ?_
    rintro _ _ ⟨rfl,rfl⟩
    have hsn:∀ b,(A.any fun y=>y.digest == x)=b→(c.pars.take (j+1)).filter (fun x => !A.any fun y=>y.digest == x)=(c.pars.take j).filter (fun x => !A.any fun y=>y.digest == x)++(if b then [] else [x]):=by
     intro b hb
     rw [List.take_add_one,hx,List.filter_append]
     cases b<;>simp [List.filter_cons,hb]
    obtain ⟨b,hb⟩:∃ b,(A.any fun y=>y.digest == x)=b:=⟨_,rfl⟩
    rw [hb]
    replace hsn:=hsn b hb
    cases b with
    | true =>
      conv=>whnf
      refine rdw ?_;repeat' ((with_reducible apply tw)<;>intro _)
      exact ⟨j+1,rfl,by rw [hsn];simp,by omega,by omega⟩
    | false =>
      conv=>whnf
      refine rdw ?_;repeat' ((with_reducible apply tw)<;>intro _)
      refine ⟨by simp;omega,?_⟩
      conv=>whnf
      refine rdw ?_;repeat' ((with_reducible apply tw)<;>intro _)
      refine ⟨j+1,rfl,?_,by omega,by omega⟩
      rw [hsn,← nums_apps]
      rfl
   ·rename_i hjl
    obtain rfl:j=c.pars.length:=by omega
    rw [List.take_length]
    exact ⟨rfl,rfl⟩
def putE (d:Dag) (c:Cert):Int :=
 if c.round≤d.low then 6 else match atC d.certs c.round c.author with
  | some y=>if y.digest=c.digest then 4 else 5
  | none=>if d.certs.any (fun y=>y.digest == c.digest) then 5 else if lackI d c=[] then 0 else 7
def insC (d:Dag) (c:Cert):Dag:=⟨d.nodes,d.low,d.certs.take (pos d.certs c.round c.author)++c :: d.certs.drop (pos d.certs c.round c.author)⟩
theorem insC_cs (l:List Cert) (c:Cert) (i:Nat):(certsD l).take i++c.cs :: (certsD l).drop i=certsD (l.take i++c :: l.drop i):=by simp [certsD]
theorem insertC_ok (l:List Cert) (c:Cert) (i:Nat) (hi:i≤l.length) (hl:l.length≤4294967296):ACalls Tryz.prog 63 [.arr 0,.d (.int .i64 i),.arr 1] [.row 47 6 (certsD l) false,.row 47 6 [c.cs] false] (fun av L=>av = .arr 2∧L=[.dead,.row 47 6 [c.cs] false,.row 47 6 (certsD (l.take i++c :: l.drop i)) false]):=by
 have hcl:=certsD_length l
 rcases Nat.lt_or_eq_of_le hi with h|h
 ·have:=insertCert_in (certsD l) c.cs i (by omega) (by omega)
  rw [insC_cs] at this
  exact this
 ·subst h
  have:=insertCert_end (certsD l) (fun cs hcs=>by obtain ⟨c,_,rfl⟩:=List.mem_map.1 hcs;rfl) c.cs rfl (by omega)
  rw [hcl] at this
  rw [List.take_length,List.drop_length]
  simpa [certsD] using this
set_option maxHeartbeats 1000000 in
theorem put_dag_row (d:Dag) (hd:d.fit) (hl:d.certs.length≤4294967296) (hlow:0≤d.low∧d.low≤1099511627776) (c:Cert) (hc:c.tiny) (hr:isF c.round) (hr1:1≤c.round) (ha:isF c.author) :
  ACalls Tryz.prog 39 [d.av,c.av] [] (fun av L=>(putE d c≠0∧av = .tup [d.av,.d (.int .i64 (putE d c))]∧L=[])∨(putE d c=0∧av = .tup [.agg [.d (.int .i64 d.nodes),.d (.int .i64 d.low),.arr 0],.d (.int .i64 0)]∧L=[.row 47 6 (certsD (insC d c).certs) false])):=by
 have hcl:=certsD_length d.certs
 have hlk:=lack_ok d hd c hc.pars hr hr1 hlow
 have hfew:=hd.few
 have hps:=pos_le d.certs c.round c.author
 (refine acalls_go ttOk zOk foOk Tryz.func39 rfl Tryz.ntmps39 rfl true rfl ?_);(conv=>whnf)
 ((with_reducible refine draw_pl ttOk zOk foOk mixedOk pl39x1 ?_ ?_);(focus kernel_rfl);(conv=>whnf))
 refine rdw ?_;repeat' ((with_reducible apply tw)<;>intro _)
 refine (dagPlace_ok c).mono ?_
 rintro _ _ ⟨rfl,rfl⟩
 conv=>whnf
 refine rdw ?_;repeat' ((with_reducible apply tw)<;>intro _)
 refine (find_ok d.certs c.round c.author hd.few hd.sorted hd.fit hr ha).mono ?_
 rintro _ _ ⟨rfl,rfl⟩
 cases hat:atC d.certs c.round c.author with
 | none =>
   conv=>whnf
   refine rdw ?_;repeat' ((with_reducible apply tw)<;>intro _)
   ·rename_i h
    have e:putE d c=6:=by rw [putE,if_pos h]
    rw [e]
    exact .inl ⟨by decide,rfl,rfl⟩
   ·rename_i h
    ((with_reducible refine draw_pl ttOk zOk foOk mixedOk pl39x4 ?_ ?_);(focus kernel_rfl);(conv=>whnf))
    refine rdw ?_;repeat' ((with_reducible apply tw)<;>intro _)
    refine (has_ok d.certs hd.few c.digest).mono ?_
    rintro _ _ ⟨rfl,rfl⟩
    cases hany:d.certs.any (fun y=>y.digest == c.digest) with
    | true =>
      have e:putE d c=5:=by rw [putE,if_neg h,hat];simp [hany]
      conv=>whnf
      refine rdw ?_;repeat' ((with_reducible apply tw)<;>intro _)
      rw [e]
      exact .inl ⟨by decide,rfl,rfl⟩
    | false =>
      conv=>whnf
      refine rdw ?_;repeat' ((with_reducible apply tw)<;>intro _)
      refine hlk.mono ?_
      rintro _ _ ⟨rfl,rfl⟩
      obtain ⟨lk,hlk2⟩:∃ lk,lackI d c=lk:=⟨_,rfl⟩
      rw [hlk2]
      cases lk with
      | cons x r =>
        have e:putE d c=7:=by rw [putE,if_neg h,hat];simp [hany,hlk2]
        conv=>whnf
        refine rdw ?_;repeat' ((with_reducible apply tw)<;>intro _)
        ·rw [e]
         exact .inl ⟨by decide,rfl,rfl⟩
        ·rename_i hx
         exact absurd (by show ((0:Int)<((nums (x :: r)).length:Int));rw [nums_length];simp) hx
      | nil =>
        have e:putE d c=0:=by rw [putE,if_neg h,hat];simp [hany,hlk2]
        conv=>whnf
        refine rdw ?_;repeat' ((with_reducible apply tw)<;>intro _)
        ((with_reducible refine draw_pl ttOk zOk foOk mixedOk pl39x10 ?_ ?_);(focus kernel_rfl);(conv=>whnf))
        refine rdw ?_;repeat' ((with_reducible apply tw)<;>intro _)
        refine (cloneC_ok d.certs (by omega)).mono ?_
        rintro _ _ ⟨rfl,rfl⟩
        conv=>whnf
        refine rdw ?_;repeat' ((with_reducible apply tw)<;>intro _)
        refine (ownCert_ok c hc).mono ?_
        rintro _ _ ⟨rfl,rfl⟩
        conv=>whnf
        refine rdw ?_;repeat' ((with_reducible apply tw)<;>intro _)
        (refine Or.inr ?_;(conv=>whnf))
        refine (insertC_ok d.certs c _ hps hl).mono ?_
        rintro _ _ ⟨rfl,rfl⟩
        conv=>whnf
        refine rdw ?_;repeat' ((with_reducible apply tw)<;>intro _)
        exact .inr ⟨e,rfl,rfl⟩
 | some y =>
   have hpy:d.certs[pos d.certs c.round c.author]? = some y:=by
    rw [atC_pos hd.sorted] at hat
    exact (Option.filter_eq_some_iff.1 hat).1
   have hlt:=(List.getElem?_eq_some_iff.1 hpy).1
   conv=>whnf
   refine rdw ?_;repeat' ((with_reducible apply tw)<;>intro _)
   ·rename_i h
    have e:putE d c=6:=by rw [putE,if_pos h]
    rw [e]
    exact .inl ⟨by decide,rfl,rfl⟩
   ·rename_i h
    ((with_reducible refine draw_pl ttOk zOk foOk mixedOk pl39x4 ?_ ?_);(focus kernel_rfl);(conv=>whnf))
    refine rdw ?_;repeat' ((with_reducible apply tw)<;>intro _)
    ((with_reducible apply rd_intro);(focus (intro K hK;(conv=>whnf);exact ⟨by omega,y.cs,certsD_at hpy,hK⟩));(conv=>whnf))
    refine rdw ?_;repeat' ((with_reducible apply tw)<;>intro _)
    ·rename_i h2
     have e:putE d c=4:=by rw [putE,if_neg h,hat];simp [h2]
     rw [e]
     exact .inl ⟨by decide,rfl,rfl⟩
    ·rename_i h2
     have e:putE d c=5:=by rw [putE,if_neg h,hat];simp [h2]
     rw [e]
     exact .inl ⟨by decide,rfl,rfl⟩
def putD (d:Dag) (c:Cert):Dag:=if putE d c=0 then insC d c else d
theorem put_dag (d:Dag) (hd:d.fit) (hl:d.certs.length≤4294967296) (hlow:0≤d.low∧d.low≤1099511627776) (c:Cert) (hc:c.tiny) (hr:isF c.round) (hr1:1≤c.round) (ha:isF c.author) :
  ACalls Tryz.prog 39 [d.av,c.av] [] (fun av L=>av = .tup [(putD d c).av,.d (.int .i64 (putE d c))]∧L=[]):=by
 refine acalls_data (put_dag_row d hd hl hlow c hc hr hr1 ha) ?_
 rintro _ _ (⟨h,rfl,rfl⟩|⟨h,rfl,rfl⟩)
 ·rw [putD,if_neg h]
  conv=>whnf
  exact ⟨rfl,rfl⟩
 ·rw [putD,if_pos h,h]
  conv=>whnf
  exact ⟨rfl,rfl⟩
theorem any_no {l:List Cert} {x:Int} (h:(l.any fun y=>y.digest == x)=false):∀ y∈l,y.digest≠x:=by
 intro y hy e
 rw [List.any_eq_false] at h
 exact h y hy (by simp [e])
theorem putE_ok {d:Dag} {c:Cert} (h:putE d c=0):d.low<c.round∧atC d.certs c.round c.author=none∧(∀ y∈d.certs,y.digest≠c.digest)∧lackI d c=[]:=by
 unfold putE at h
 split at h
 ·cases h
 ·rename_i h1
  split at h
  ·split at h<;>cases h
  ·rename_i h2
   split at h
   ·cases h
   ·rename_i h3
    split at h
    ·rename_i h4
     exact ⟨by omega,h2,any_no (by simpa using h3),h4⟩
    ·cases h
theorem atC_no {l:List Cert} {r a:Int} (h:atC l r a=none):∀ y∈l,¬(y.round=r∧y.author=a):=by
 intro y hy e
 unfold atC at h
 rw [List.find?_eq_none] at h
 exact h y hy (by simpa using e)
theorem before_total {y:Cert} {r a:Int} (h:¬(y.round=r∧y.author=a)):y.before r a=false→(r<y.round∨r=y.round∧a<y.author):=by
 intro h1
 have:¬(y.round<r∨y.round=r∧y.author<a):=fun h2=>by rw [before_iff.2 h2] at h1;cases h1
 omega
theorem take_before {l:List Cert} (hs:sortedC l) {r a:Int}:∀ y∈l.take (pos l r a),y.before r a=true:=by
 intro y hy
 obtain ⟨m,hm⟩:=List.getElem?_of_mem hy
 rw [List.getElem?_take] at hm
 split at hm
 ·rename_i h;exact (pos_iff hs hm).2 h
 ·cases hm
theorem drop_after {l:List Cert} (hs:sortedC l) {r a:Int}:∀ y∈l.drop (pos l r a),y.before r a=false:=by
 intro y hy
 obtain ⟨m,hm⟩:=List.getElem?_of_mem hy
 rw [List.getElem?_drop] at hm
 cases hb:y.before r a with
 | false=>rfl
 | true=>have:=(pos_iff hs hm).1 hb;omega
theorem mem_insC {d:Dag} {c y:Cert}:y∈(insC d c).certs↔y=c∨y∈d.certs:=by
 have e:=List.take_append_drop (pos d.certs c.round c.author) d.certs
 constructor
 ·intro h
  rcases List.mem_append.1 h with h|h
  ·exact .inr (List.mem_of_mem_take h)
  ·rcases List.mem_cons.1 h with h|h
   ·exact .inl h
   ·exact .inr (List.mem_of_mem_drop h)
 ·rintro (h|h)
  ·subst h;exact List.mem_append_right _ (List.mem_cons_self ..)
  ·rw [← e] at h
   rcases List.mem_append.1 h with h|h
   ·exact List.mem_append_left _ h
   ·exact List.mem_append_right _ (List.mem_cons_of_mem _ h)
theorem insC_len (d:Dag) (c:Cert):(insC d c).certs.length=d.certs.length+1:=by
 have:=pos_le d.certs c.round c.author
 simp [insC];omega
theorem insC_perm (d:Dag) (c:Cert):(insC d c).certs.Perm (c :: d.certs):=by
 have e:=List.take_append_drop (pos d.certs c.round c.author) d.certs
 exact List.perm_middle.trans (by rw [e])
theorem insC_sorted {d:Dag} (hs:sortedC d.certs) {c:Cert} (hat:atC d.certs c.round c.author=none):sortedC (insC d c).certs:=by
 have e:=List.take_append_drop (pos d.certs c.round c.author) d.certs
 have hs':=hs
 rw [← e] at hs'
 obtain ⟨h1,h2,h3⟩:=List.pairwise_append.1 hs'
 refine List.pairwise_append.2 ⟨h1,List.pairwise_cons.2 ⟨fun y hy => ?_,h2⟩,fun x hx y hy => ?_⟩
 ·have:=before_total (atC_no hat y (List.mem_of_mem_drop hy)) (drop_after hs y hy)
  exact before_iff.2 (by omega)
 ·rcases List.mem_cons.1 hy with rfl|hy
  ·exact take_before hs x hx
  ·exact h3 x hx y hy
theorem insC_valid {d:Dag} (h:Valid d) {c:Cert} (hc:okCert d.nodes c) (hp:putE d c=0) (hl:d.certs.length<65536):Valid (insC d c):=by
 obtain ⟨h1,h2,h3,h4⟩:=putE_ok hp
 have hlen:=insC_len d c
 refine ⟨h.nodes,h.low,by omega,fun y hy => ?_,fun y hy => ?_,insC_sorted h.sorted h2,?_,fun y hy hr x hx => ?_⟩
 ·rcases mem_insC.1 hy with rfl|hy
  ·exact hc
  ·exact h.certs y hy
 ·rcases mem_insC.1 hy with rfl|hy
  ·exact h1
  ·exact h.above y hy
 ·have hp:=(insC_perm d c).map (·.digest)
  rw [hp.nodup_iff,List.map_cons,List.nodup_cons]
  refine ⟨fun hm => ?_,h.dig⟩
  obtain ⟨y,hy,e⟩:=List.mem_map.1 hm
  exact h3 y hy e
 ·have hup:∀ z∈d.certs,z∈(insC d c).certs:=fun z hz=>mem_insC.2 (.inr hz)
  rcases mem_insC.1 hy with rfl|hy
  ·have hr':¬y.round≤d.low+1:=by have:y.round>d.low+1:=hr;omega
   rw [lackI,if_neg hr',List.filter_eq_nil_iff] at h4
   have:=h4 x hx
   simp only [Bool.not_eq_true',Bool.not_eq_false,List.any_eq_true,beq_iff_eq] at this
   obtain ⟨z,hz,e⟩:=this
   obtain ⟨hz1,hz2⟩:=List.mem_filter.1 hz
   exact ⟨z,hup z hz1,e,of_decide_eq_true hz2⟩
  ·obtain ⟨z,hz,e⟩:=h.here y hy hr x hx
   exact ⟨z,hup z hz,e⟩
def buildF:Nat→Dag→List Cert→Dag
 | 0,d,_=>d
 | n+1,d,l=>match l.findIdx? (fun c=>decide (putE d c=0)) with
   | some i=>(match l[i]? with|some c=>buildF n (insC d c) (l.take i++l.drop (i+1))|none=>d)
   | none=>d
theorem build_stop {d:Dag} {l:List Cert} (h:∀ c∈l,putE d c≠0):∀ n,buildF n d l=d
 | 0=>rfl
 | n+1=>by
   have:l.findIdx? (fun c=>decide (putE d c=0))=none:=by
    rw [List.findIdx?_eq_none_iff]
    intro c hc
    simpa using h c hc
   rw [buildF,this]
theorem build_next {d:Dag} {l:List Cert} {i:Nat} {c:Cert} (hc:l[i]? = some c) (hp:putE d c=0) (h:∀ (j:Nat) c,j<i→l[j]? = some c→putE d c≠0) (n:Nat):buildF (n+1) d l=buildF n (insC d c) (l.take i++l.drop (i+1)):=by
 have:l.findIdx? (fun c=>decide (putE d c=0))=some i:=findIdx_at hc (by simpa using hp) (fun j c hj hc=>by simpa using h j c hj hc)
 rw [buildF,this]
 simp only [hc]
def cDn:List Cert→DV
 | [] => .nils
 | c :: l => .sl 6 (certsD (c :: l))
def bdSt (s:Dag×List Cert):AF×List AB :=
 ([(4,.ptr 0 0),(5,.ptr 1 0),(6,.arr 2)],[.cells [.d (.int .i64 0),.d (.int .i64 0),.d .nils],.cells [.d (.int .i64 s.1.nodes),.d (.int .i64 s.1.low),.d (cDn s.1.certs)],.row 47 6 (certsD s.2) false])
def bdIn (d:Dag) (left:List Cert) (i:Nat):AF×List AB :=
 ([(4,.ptr 0 0),(5,.ptr 1 0),(6,.arr 2),(15,.arr 2),(16,.d (.int .i64 left.length)),(17,.d (.int .i64 i))],[.cells [.d (.int .i64 0),.d (.int .i64 0),.d .nils],.cells [.d (.int .i64 d.nodes),.d (.int .i64 d.low),.d (cDn d.certs)],.row 47 6 (certsD left) false])
structure bdInv (n:Int) (fin:Dag) (s:Dag×List Cert):Prop where
 val:Valid s.1
 nodes:s.1.nodes=n
 ok:∀ c∈s.2,okCert n c∧c.tiny
 len:s.1.certs.length+s.2.length≤60000
 fin:buildF s.2.length s.1 s.2=fin
def bdPost (fin:Dag) (av:AV) (L:List AB):Prop:=av = .agg [.d (.int .i64 fin.nodes),.d (.int .i64 fin.low),.d (cDn fin.certs)]∧L=[]
theorem cDn_ins (d:Dag) (c:Cert):cDn (insC d c).certs = .sl 6 (certsD (insC d c).certs):=by
 obtain ⟨l,e⟩:∃ l,(insC d c).certs=l:=⟨_,rfl⟩
 rw [e]
 cases l with
 | nil=>have:=insC_len d c;rw [e] at this;cases this
 | cons y r=>rfl
theorem cert_del (l:List Cert) (i:Nat):(certsD l).take i++(certsD l).drop (i+1)=certsD (l.take i++l.drop (i+1)):=by simp [certsD]
theorem cDn_args {a b:AV} {r:List AV} (l:List Cert):∀ (R:RC) (vs:List Value),VRt R (.agg [a,b,.d (cDn l)] :: r) vs→VRt R (.agg [a,b,.d (.sl 6 (certsD l))] :: r) vs:=by
 cases l with
 | nil=>exact nil_third (by decide)
 | cons c l=>exact fun R vs h=>h
theorem put_dn (d:Dag) (hd:d.fit) (hl:d.certs.length≤4294967296) (hlow:0≤d.low∧d.low≤1099511627776) (c:Cert) (hc:c.tiny) (hr:isF c.round) (hr1:1≤c.round) (ha:isF c.author) :
  ACalls Tryz.prog 39 [.agg [.d (.int .i64 d.nodes),.d (.int .i64 d.low),.d (cDn d.certs)],c.av] [] (fun av L=>av = .tup [(putD d c).av,.d (.int .i64 (putE d c))]∧L=[]) :=
 acalls_args (cDn_args d.certs) (put_dag d hd hl hlow c hc hr hr1 ha)
theorem bdInv.stop {n:Int} {fin:Dag} {s:Dag×List Cert} (h:bdInv n fin s) (hno:∀ (j:Nat) c,j<s.2.length→s.2[j]? = some c→putE s.1 c≠0):fin=s.1:=by
 rw [← h.fin]
 exact build_stop (fun c hc=>by
  obtain ⟨j,hj⟩:=List.getElem?_of_mem hc
  exact hno j c (List.getElem?_eq_some_iff.1 hj).1 hj) _
theorem bdInv.next {n:Int} {fin:Dag} {s:Dag×List Cert} (h:bdInv n fin s) {i:Nat} {c:Cert} (hc:s.2[i]? = some c) (hp:putE s.1 c=0) (hno:∀ (j:Nat) c,j<i→s.2[j]? = some c→putE s.1 c≠0):bdInv n fin (insC s.1 c,s.2.take i++s.2.drop (i+1))∧(s.2.take i++s.2.drop (i+1)).length<s.2.length:=by
 have hi:=(List.getElem?_eq_some_iff.1 hc).1
 have hlen:(s.2.take i++s.2.drop (i+1)).length=s.2.length - 1:=by simp;omega
 have hl:=h.len
 refine ⟨⟨insC_valid h.val (by rw [h.nodes];exact (h.ok c (List.mem_of_getElem? hc)).1) hp (by omega),h.nodes,fun y hy => ?_,?_,?_⟩,by omega⟩
 ·rcases List.mem_append.1 hy with hy|hy
  ·exact h.ok y (List.mem_of_mem_take hy)
  ·exact h.ok y (List.mem_of_mem_drop hy)
 ·show (insC s.1 c).certs.length+(s.2.take i++s.2.drop (i+1)).length≤60000
  rw [insC_len,hlen];omega
 ·show buildF (s.2.take i++s.2.drop (i+1)).length _ _=_
  rw [hlen,← h.fin]
  obtain ⟨m,hm⟩:∃ m,s.2.length=m+1:=⟨s.2.length - 1,by omega⟩
  rw [hm,build_next hc hp hno]
  rfl
set_option maxHeartbeats 1000000 in
theorem build_row (n:Int) (hn:isN n=true) (l:List Cert) (hl:l.length≤60000) (hok:∀ c∈l,okCert n c∧c.tiny) (fin:Dag) (hfin:fin=buildF l.length ⟨n,0,[]⟩ l) :
  ACalls Tryz.prog 20 [.d (.int .i64 n),.d (.sl 6 (certsD l))] [] (bdPost fin):=by
 have hcl:=certsD_length l
 have hnn:=of_decide_eq_true hn
 (refine acalls_go ttOk zOk foOk Tryz.func20 rfl Tryz.ntmps20 rfl false rfl ?_);(conv=>whnf)
 refine scope_go ttOk zOk foOk (σ:=Dag×List Cert) bdSt (fun b s=>b=0∧bdInv n fin s) (fun _ s=>s.2.length) ?_ ?_
 ·rintro lb rest hlb ⟨d,left⟩ ⟨rfl,hinv⟩
  have e:=Option.some.inj (show some _=some rest from hlb)
  subst e
  clear hlb
  have hll:=certsD_length left
  have hlen:d.certs.length+left.length≤60000:=hinv.len
  conv=>whnf
  refine loop_go ttOk zOk foOk (σ:=Nat) (bdIn d left) (fun i=>i≤left.length∧∀ (j:Nat) c,j<i→left[j]? = some c→putE d c≠0) (fun i=>left.length - i) [4,5,6,15,16,17] ?_ ?_
  ·conv=>whnf
   exact ⟨0,by rw [hll];rfl,rfl,Nat.zero_le _,fun j c h=>absurd h (by omega)⟩
  ·rintro i ⟨hi,hno⟩
   conv=>whnf
   refine rdz ?_;repeat' ((with_reducible apply tw)<;>intro _)
   ·rename_i hil
    replace hil:(i:Int)<left.length:=hil
    refine Exists.elim (⟨_,List.getElem?_eq_getElem (by omega)⟩:∃ c,left[i]? = some c) fun c hc => ?_
    have hcm:=hinv.ok c (List.mem_of_getElem? hc)
    have hcr:=hcm.1.head.round
    have hca:=hcm.1.head.author
    have hf1:isF c.round:=⟨by omega,by omega⟩
    have hf2:isF c.author:=⟨by omega,by omega⟩
    have hput:=put_dn d hinv.val.well.fit (by omega) hinv.val.low c hcm.2 hf1 hcr.1 hf2
    refine ⟨by omega,by omega,?_⟩
    conv=>whnf
    refine ⟨c.cs,certsD_at hc,?_⟩
    conv=>whnf
    refine hput.mono ?_
    rintro _ _ ⟨rfl,rfl⟩
    by_cases hp:putE d c=0
    ·rw [hp,putD,if_pos hp]
     have hnx:=hinv.next hc hp hno
     have hcd:=cDn_ins d c
     obtain ⟨x,hx⟩:∃ x,insC d c=x:=⟨_,rfl⟩
     rw [hx] at hnx hcd ⊢
     conv=>whnf
     refine rdz ?_;repeat' ((with_reducible apply tw)<;>intro _)
     (refine Or.inr ?_;(conv=>whnf))
     refine (deleteCert_ok (certsD left) i (by omega)).mono ?_
     rintro _ _ ⟨rfl,rfl⟩
     rw [cert_del]
     conv=>whnf
     refine into_of [4,5,6] ?_
     conv=>whnf
     refine ⟨(x,left.take i++left.drop (i+1)),rfl,?_,⟨rfl,hnx.1⟩,hnx.2⟩
     rw [bdSt,hcd]
    ·obtain ⟨pe,hpe⟩:∃ pe,putE d c=pe:=⟨_,rfl⟩
     rw [hpe] at hp ⊢
     rw [putD,hpe,if_neg hp]
     conv=>whnf
     refine rdz ?_;repeat' ((with_reducible apply tw)<;>intro _)
     ·rename_i h0
      exact absurd h0 hp
     ·refine ⟨i+1,rfl,rfl,⟨by omega,fun j y hj hy => ?_⟩,by omega⟩
      rcases Nat.lt_or_ge j i with h4|h4
      ·exact hno j y h4 hy
      ·obtain rfl:j=i:=by omega
       rw [hc] at hy;cases hy;rw [hpe];exact hp
   ·rename_i hil
    replace hil:¬(i:Int)<left.length:=hil
    obtain rfl:=hinv.stop fun j c hj hc=>hno j c (by have:j<left.length:=hj;omega) hc
    exact ⟨rfl,rfl⟩
 ·intro pass
  conv=>whnf
  refine rdz ?_;repeat' ((with_reducible apply tw)<;>intro _)
  refine (cloneC_ok l (by omega)).mono ?_
  rintro _ _ ⟨rfl,rfl⟩
  conv=>whnf
  refine aw_at (σ:=Unit) (fun _=>bdSt (⟨n,0,[]⟩,l)) (fun _=>True) [4,5,6] ?_ ?_
  ·conv=>whnf
   exact ⟨(),rfl,rfl,trivial⟩
  ·intro _ _
   exact pass 0 _ rfl (⟨n,0,[]⟩,l) ⟨rfl,⟨⟨hn,⟨Int.le_refl _,show (0:Int)≤1099511627776 by decide⟩,by simp,by simp,by simp,List.Pairwise.nil,by simp,by simp⟩,rfl,hok,by simpa using hl,hfin.symm⟩⟩
theorem buildF_fin {n:Int}:∀ (m:Nat) (d:Dag) (l:List Cert),Valid d→d.nodes=n→(∀ c∈l,okCert n c)→d.certs.length+l.length≤60000→Valid (buildF m d l)∧(buildF m d l).nodes=n∧(buildF m d l).low=d.low∧(buildF m d l).certs.length≤d.certs.length+l.length∧∀ c∈(buildF m d l).certs,c∈d.certs∨c∈l
 | 0,d,l,h1,h2,h3,h4=>⟨h1,h2,rfl,Nat.le_add_right ..,fun c hc => .inl hc⟩
 | m+1,d,l,h1,h2,h3,h4=>by
   unfold buildF
   split
   ·rename_i i hi
    split
    ·rename_i c hc
     have hlt:=(List.getElem?_eq_some_iff.1 hc).1
     have hp:putE d c=0:=by
      obtain ⟨h5,h6,_⟩:=List.findIdx?_eq_some_iff_getElem.1 hi
      rw [List.getElem?_eq_getElem h5] at hc
      cases hc
      simpa using h6
     have hlen:=insC_len d c
     have hll:(l.take i++l.drop (i+1)).length=l.length - 1:=by simp;omega
     have hm:=List.mem_of_getElem? hc
     obtain ⟨k1,k2,k3,k4,k5⟩:=buildF_fin m (insC d c) (l.take i++l.drop (i+1)) (insC_valid h1 (by rw [h2];exact h3 c hm) hp (by omega)) h2 (fun y hy=>by
      rcases List.mem_append.1 hy with hy|hy
      ·exact h3 y (List.mem_of_mem_take hy)
      ·exact h3 y (List.mem_of_mem_drop hy)) (by omega)
     refine ⟨k1,k2,k3,by omega,fun y hy => ?_⟩
     rcases k5 y hy with hy|hy
     ·rcases mem_insC.1 hy with rfl|hy
      ·exact .inr hm
      ·exact .inl hy
     ·rcases List.mem_append.1 hy with hy|hy
      ·exact .inr (List.mem_of_mem_take hy)
      ·exact .inr (List.mem_of_mem_drop hy)
    ·exact ⟨h1,h2,rfl,Nat.le_add_right ..,fun c hc => .inl hc⟩
   ·exact ⟨h1,h2,rfl,Nat.le_add_right ..,fun c hc => .inl hc⟩
def buildD (n:Int) (l:List Cert):Dag:=buildF l.length ⟨n,0,[]⟩ l
theorem zero_valid {n:Int} (hn:isN n=true):Valid ⟨n,0,[]⟩ :=
 ⟨hn,⟨Int.le_refl _,show (0:Int)≤1099511627776 by decide⟩,by simp,by simp,by simp,List.Pairwise.nil,by simp,by simp⟩
theorem buildD_valid {n:Int} (hn:isN n=true) {l:List Cert} (hl:l.length≤60000) (hok:∀ c∈l,okCert n c):Valid (buildD n l)∧(buildD n l).nodes=n∧(buildD n l).low=0∧(buildD n l).certs.length≤l.length∧∀ c∈(buildD n l).certs,c∈l:=by
 obtain ⟨k1,k2,k3,k4,k5⟩:=buildF_fin (n:=n) l.length ⟨n,0,[]⟩ l (zero_valid hn) rfl hok (by simpa using hl)
 exact ⟨k1,k2,k3,by simpa [buildD] using k4,fun c hc=>(k5 c hc).resolve_left (by simp)⟩
def Wk.goF (d:Dag):Nat→Wk→Wk
 | 0,w=>w
 | n+1,w=>if nextC d w.c.round>0 then Wk.goF d n (w.putL d (backI d w.c.round (nextC d w.c.round))) else w
theorem goF_end {d:Dag} {w:Wk} (h:¬nextC d w.c.round>0):∀ n,Wk.goF d n w=w
 | 0=>rfl
 | n+1=>by rw [Wk.goF,if_neg h]
def zCur:AB := .cells [.d (.int .i64 0),.d .nils,.d (.int .i64 0)]
def goSt (d:Dag) (done0:List Int):Bool×Wk→AF×List AB
 | (true,w)=>([(2,.ptr 1 0),(4,.ptr 2 0),(6,.ptr 3 0),(7,.d (.int .i64 (nextC d w.c.round)))],[.row 3 1 (nums w.c.done) false,.cells d.cells,zCur,.cells (w.cells d 0 4),.row 3 1 (nums w.outs) false])
 | (false,w)=>([(2,.ptr 1 0),(4,.ptr 2 0),(6,.ptr 3 0),(7,.d (.int .i64 (nextC d w.c.round)))],[.row 3 1 (nums done0) true,.cells d.cells,zCur,.cells (w.cells d 4 5),.row 3 1 (nums w.c.done) false,.row 3 1 (nums w.outs) false])
def goIn (d:Dag) (done0:List Int) (l:List Int):Bool×Wk×Nat→AF×List AB
 | (true,w,j)=>([(2,.ptr 1 0),(4,.ptr 2 0),(6,.ptr 3 0),(37,.arr 4),(38,.d (.int .i64 l.length)),(39,.d (.int .i64 j))],[.row 3 1 (nums w.c.done) false,.cells d.cells,zCur,.cells (w.cells d 0 5),.row 3 1 (nums l) false,.row 3 1 (nums w.outs) false])
 | (false,w,j)=>([(2,.ptr 1 0),(4,.ptr 2 0),(6,.ptr 3 0),(37,.arr 4),(38,.d (.int .i64 l.length)),(39,.d (.int .i64 j))],[.row 3 1 (nums done0) true,.cells d.cells,zCur,.cells (w.cells d 5 6),.row 3 1 (nums l) false,.row 3 1 (nums w.c.done) false,.row 3 1 (nums w.outs) false])
theorem nextR_spec (d:Dag):∀ r:Int,nextR d r=0∨(r≤nextR d r∧nextR d r<topR d.certs∧settled d (nextR d r)=true∧nextR d r % 2=r % 2):=by
 intro r
 induction r using nextR.induct (d:=d) with
 | case1 r h=>exact .inl (next_top h)
 | case2 r h h2=>rw [next_here h h2];exact .inr ⟨by omega,by omega,h2,rfl⟩
 | case3 r h h2 ih =>
   rw [next_on h (by simpa using h2)]
   rcases ih with ih|⟨i1,i2,i3,i4⟩
   ·exact .inl ih
   ·exact .inr ⟨by omega,i2,i3,by omega⟩
theorem settled_anchor {d:Dag} (hn:0<d.nodes) {r:Int} (h:settled d r=true):anchorI d r≠0:=by
 intro h0
 unfold settled at h
 have hv:votes d r=0:=by
  unfold votes
  rw [h0]
  rw [List.filter_eq_nil_iff.2]
  ·rfl
  ·intro c _;simp
 rw [hv] at h
 simp at h
 omega
theorem nextC_spec {d:Dag} (hw:d.well) {after:Int} (ha:0≤after) (he:after % 2=0) (h:nextC d after>0):after<nextC d after∧nextC d after<topR d.certs∧settled d (nextC d after)=true∧nextC d after % 2=0∧anchorI d (nextC d after)≠0∧2≤nextC d after:=by
 have hl:=hw.low
 rcases nextR_spec d (max after (d.low - d.low % 2)+2) with h1|⟨h1,h2,h3,h4⟩
 ·unfold nextC at h;omega
 ·unfold nextC at h ⊢
  have h5:(d.low - d.low % 2) % 2=0:=by omega
  have h6:(max after (d.low - d.low % 2)+2) % 2=0:=by
   rcases Int.le_total after (d.low - d.low % 2) with h7|h7
   ·rw [Int.max_eq_right h7];omega
   ·rw [Int.max_eq_left h7];omega
  exact ⟨by omega,h2,h3,by omega,settled_anchor hw.nodes.1 h3,by omega⟩
structure goInv (d:Dag) (done0:List Int) (fin:Wk) (b:Bool) (w:Wk):Prop where
 okay:w.okay d
 round:0≤w.c.round∧w.c.round≤1099511627776∧w.c.round % 2=0
 first:b=true→w.c.done=done0
 fin:∃ n:Nat,topR d.certs - w.c.round≤n∧fin=Wk.goF d n w
structure goInI (d:Dag) (done0:List Int) (w0:Wk) (l:List Int) (b:Bool) (w:Wk) (j:Nat):Prop where
 okay:w.okay d
 le:j≤l.length
 first:b=true→w.c.done=done0
 is:w=w0.putL d (l.take j)
 next:∀ x∈l.drop j,w.c.round<roundOf d x
 last:∀ x,0<j→l[j - 1]? = some x→w.c.round=roundOf d x
structure Chain (d:Dag) (w0:Wk) (l:List Int):Prop where
 all:∀ x∈l,∃ q,w0.c.round<q∧q≤nextC d w0.c.round∧x=anchorI d q∧anchorI d q≠0
 up:l.Pairwise fun x y=>roundOf d x<roundOf d y
 last:l.getLast? = some (anchorI d (nextC d w0.c.round))
theorem Chain.at {d:Dag} (hw:d.well) {w0:Wk} {l:List Int} (h:Chain d w0 l) {j:Nat} (hj:j<l.length):∃ x i c,l[j]? = some x∧getC d.certs x=some i∧d.certs[i]? = some c∧roundOf d x=c.round:=by
 obtain ⟨q,q1,q2,hxq,q3⟩:=h.all l[j] (List.getElem_mem hj)
 obtain ⟨c2,hco,hcr,_⟩:=anchor_cert hw q3
 rw [← hxq] at hco
 obtain ⟨hcm,hcd,i,hg,hc2⟩:=certOf_some hco
 exact ⟨l[j],i,c2,List.getElem?_eq_getElem hj,hg,hc2,by rw [roundOf,hco];rfl⟩
theorem Chain.len {d:Dag} (hw:d.well) {w0:Wk} {l:List Int} (h:Chain d w0 l):l.length≤d.certs.length:=by
 have hn:l.Nodup:=h.up.imp fun {a b} hab e=>by rw [e] at hab;omega
 have:=sub_len (m:=d.certs.map (·.digest)) hn fun x hx=>by
  obtain ⟨q,_,_,rfl,q3⟩:=h.all x hx
  obtain ⟨c,hc,_⟩:=anchor_cert hw q3
  obtain ⟨h1,h2,_⟩:=certOf_some hc
  exact List.mem_map.2 ⟨c,h1,h2⟩
 simpa using this
theorem goInI.start {d:Dag} (hw:d.well) {done0:List Int} {w:Wk} {l:List Int} (h:Chain d w l) (hok:w.okay d) {b:Bool} (hb:b=true→w.c.done=done0):goInI d done0 w l b w 0:=by
 refine ⟨hok,Nat.zero_le _,hb,rfl,?_,fun x h=>absurd h (Nat.lt_irrefl 0)⟩
 intro x hx
 obtain ⟨q,q1,q2,rfl,q3⟩:=h.all x (by simpa using hx)
 rw [anchor_round hw q3];exact q1
theorem goInI.step {d:Dag} (hw:d.well) {done0:List Int} {w0:Wk} {l:List Int} (hch:Chain d w0 l) {b:Bool} {w:Wk} {j:Nat} (h:goInI d done0 w0 l b w j) (hj:j<l.length) {x:Int} {i:Nat} {c:Cert} (hx:l[j]? = some x) (hg:getC d.certs x=some i) (hc:d.certs[i]? = some c) (hr:roundOf d x=c.round):goInI d done0 w0 l false (w.put d i c) (j+1):=by
 have hlt:w.c.round<c.round:=by rw [← hr];exact h.next x (by rw [List.mem_iff_getElem?];exact ⟨0,by rw [List.getElem?_drop];simpa using hx⟩)
 refine ⟨h.okay.put hw hc hlt,by omega,(fun h=>by cases h),?_,?_,?_⟩
 ·rw [List.take_add_one,hx,Wk.putL,Option.toList_some,List.foldl_append,List.foldl_cons,List.foldl_nil]
  show _=Wk.putA d (w0.putL d (l.take j)) x
  rw [← h.is,putA_eq hg hc]
 ·intro y hy
  show c.round<_
  rw [← hr]
  have hp:(l.drop j).Pairwise (fun x y=>roundOf d x<roundOf d y):=hch.up.sublist (List.drop_sublist ..)
  rw [List.drop_eq_getElem_cons hj] at hp
  have:=(List.pairwise_cons.1 hp).1 y hy
  rw [List.getElem?_eq_getElem hj] at hx
  rw [← Option.some.inj hx]
  exact this
 ·intro y _ hy
  rw [Nat.add_sub_cancel,hx] at hy
  cases hy
  exact hr.symm
theorem goInI.done {d:Dag} (hw:d.well) {done0:List Int} {w0:Wk} {l:List Int} (hch:Chain d w0 l) (hpos:nextC d w0.c.round>0) (h0:0≤w0.c.round) (he:w0.c.round % 2=0) {fin:Wk} {b:Bool} {w:Wk} {j:Nat} (h:goInI d done0 w0 l b w j) (hj:¬(j:Int)<l.length) (hl:backI d w0.c.round (nextC d w0.c.round)=l)
  (hfin:∃ n:Nat,topR d.certs - w0.c.round≤n∧fin=Wk.goF d n w0):goInv d done0 fin b w∧(topR d.certs - w.c.round).toNat<(topR d.certs - w0.c.round).toNat:=by
 obtain ⟨s1,s2,s3,s4,s5,s6⟩:=nextC_spec hw h0 he hpos
 have hjl:j=l.length:=by have:=h.le;omega
 subst hjl
 have his:=h.is
 rw [List.take_length] at his
 have hlast:l[l.length - 1]? = some (anchorI d (nextC d w0.c.round)):=by rw [← List.getLast?_eq_getElem?];exact hch.last
 have hlen0:0<l.length:=by
  rcases Nat.eq_zero_or_pos l.length with h|h
  ·rw [List.length_eq_zero_iff.1 h] at hlast;cases hlast
  ·exact h
 have hround:w.c.round=nextC d w0.c.round:=by rw [h.last _ hlen0 hlast,anchor_round hw s5]
 have htop:=hw.top
 refine ⟨⟨h.okay,⟨by omega,by omega,by omega⟩,h.first,?_⟩,by omega⟩
 obtain ⟨n,h4,h5⟩:=hfin
 cases n with
 | zero=>exact absurd h4 (by omega)
 | succ m =>
   rw [Wk.goF,if_pos hpos,hl,← his] at h5
   exact ⟨m,by omega,h5⟩
theorem goInv.chain {d:Dag} (hw:d.well) {done0:List Int} {fin:Wk} {b:Bool} {w:Wk} (h:goInv d done0 fin b w) (hpos:nextC d w.c.round>0):Chain d w (backI d w.c.round (nextC d w.c.round)):=by
 obtain ⟨s1,s2,s3,s4,s5,s6⟩:=nextC_spec hw h.round.1 h.round.2.2 hpos
 obtain ⟨a1,a2,a3⟩:=backI_all hw s1 s5
 exact ⟨a1,a2,a3⟩
set_option maxHeartbeats 4000000 in
theorem go_ok (d:Dag) (hw:d.well) (c:Cursor) (hr:0≤c.round∧c.round≤1099511627776) (he:c.round % 2=0) (hok:(Wk.mk c []).okay d) (fin:Wk) (hfin:fin=Wk.goF d (topR d.certs).toNat ⟨c,[]⟩) :
  ACalls Tryz.prog 64 [d.av,.agg [.d (.int .i64 c.round),.arr 0,.d (.int .i64 c.count)]] [.row 3 1 (nums c.done) false] (fun av L=>(fin.c.done=c.done∧av = .tup [.agg [.d (.int .i64 fin.c.round),.arr 0,.d (.int .i64 fin.c.count)],.arr 1]∧L=[.row 3 1 (nums fin.c.done) false,.row 3 1 (nums fin.outs) false])∨(av = .tup [.agg [.d (.int .i64 fin.c.round),.arr 1,.d (.int .i64 fin.c.count)],.arr 2]∧L=[.row 3 1 (nums c.done) true,.row 3 1 (nums fin.c.done) false,.row 3 1 (nums fin.outs) false])):=by
 (refine acalls_go ttOk zOk foOk Tryz.func64 rfl Tryz.ntmps64 rfl true rfl ?_);(conv=>whnf)
 ((with_reducible refine draw_pl ttOk zOk foOk mixedOk pl64x2 ?_ ?_);(focus kernel_rfl);(conv=>whnf))
 refine rdw ?_;repeat' ((with_reducible apply tw)<;>intro _)
 refine (next_ok d hw c.round hr).mono ?_
 rintro _ _ ⟨rfl,rfl⟩
 conv=>whnf
 refine rdw ?_;repeat' ((with_reducible apply tw)<;>intro _)
 refine loop_go ttOk zOk foOk (σ:=Bool×Wk) (goSt d c.done) (fun s=>goInv d c.done fin s.1 s.2) (fun s=>(topR d.certs - s.2.c.round).toNat) [2,4,6,7] ?_ ?_
 ·conv=>whnf
  exact ⟨(true,⟨c,[]⟩),rfl,rfl,hok,⟨hr.1,hr.2,he⟩,fun _=>rfl,(topR d.certs).toNat,by show topR d.certs - c.round≤((topR d.certs).toNat:Int);omega,hfin⟩
 ·rintro ⟨b,w⟩ hin0
  have h0:goInv d c.done fin b w:=hin0
  clear hin0
  cases b with
  | true =>
    conv=>whnf
    refine rdw ?_;repeat' ((with_reducible apply tw)<;>intro _)
    ·rename_i hpos
     have hsp:=nextC_spec hw h0.round.1 h0.round.2.2 hpos
     have htop:=hw.top
     have hch:=h0.chain hw hpos
     ((with_reducible refine draw_pl ttOk zOk foOk mixedOk pl64x5 ?_ ?_);(focus kernel_rfl);(conv=>whnf))
     refine rdw ?_;repeat' ((with_reducible apply tw)<;>intro _)
     refine (back_ok d hw w.c.round (nextC d w.c.round) h0.round.1 hsp.1 hsp.2.2.2.1 ⟨hsp.2.2.2.2.2,by have:=hsp.2.1;omega⟩ hsp.2.2.2.2.1).mono ?_
     rintro _ _ ⟨rfl,rfl⟩
     obtain ⟨l,hl⟩:∃ l,backI d w.c.round (nextC d w.c.round)=l:=⟨_,rfl⟩
     rw [hl] at hch ⊢
     have hnl:=nums_length l
     conv=>whnf
     refine rdw ?_;repeat' ((with_reducible apply tw)<;>intro _)
     refine loop_go ttOk zOk foOk (σ:=Bool×Wk×Nat) (goIn d c.done l) (fun s=>goInI d c.done w l s.1 s.2.1 s.2.2) (fun s=>l.length - s.2.2) [2,4,6,37,38,39] ?_ ?_
     ·conv=>whnf
      exact ⟨(true,w,0),by rw [hnl];rfl,rfl,goInI.start hw hch h0.okay h0.first⟩
     ·rintro ⟨b2,w2,j⟩ hin1
      have hin:goInI d c.done w l b2 w2 j:=hin1
      clear hin1
      cases b2 with
      | true =>
        conv=>whnf
        refine rdw ?_;repeat' ((with_reducible apply tw)<;>intro _)
        ·rename_i hjl
         have hjn:j<l.length:=Int.ofNat_lt.1 hjl
         refine Exists.elim (hch.at hw hjn) fun x hx=>Exists.elim hx fun i hx=>Exists.elim hx fun c2 hx => ?_
         have hlen:=hch.len hw
         have hlen2:=hw.len
         have hst:=hin.step hw hch hjn hx.1 hx.2.1 hx.2.2.1 hx.2.2.2
         refine ⟨Int.natCast_nonneg _,by rw [Int.toNat_natCast,hnl];exact hjn,?_⟩
         conv=>whnf
         refine ⟨_,by rw [Int.toNat_natCast];exact nums_at hx.1,?_⟩
         conv=>whnf
         refine rdw ?_;repeat' ((with_reducible apply tw)<;>intro _)
         refine (put_ok d hw w2 x hx.2.1 hx.2.2.1 hin.okay.fine.rising hin.okay.fine.few (hin.okay.outs' hw) hin.okay.fine.count).mono ?_
         rintro _ _ ⟨rfl,rfl⟩
         conv=>whnf
         refine rdw ?_;repeat' ((with_reducible apply tw)<;>intro _)
         exact ⟨(false,w2.put d i c2,j+1),rfl,by rw [goIn,← hin.first rfl];rfl,hst,by show l.length - (j+1)<l.length - j;omega⟩
        ·rename_i hjl
         have hdn:=hin.done hw hch hpos h0.round.1 h0.round.2.2 (fin:=fin) hjl hl h0.fin
         have hr2:=hdn.1.round
         ((with_reducible refine draw_pl ttOk zOk foOk mixedOk pl64x4 ?_ ?_);(focus kernel_rfl);(conv=>whnf))
         refine rdw ?_;repeat' ((with_reducible apply tw)<;>intro _)
         refine (next_ok d hw w2.c.round ⟨hr2.1,hr2.2.1⟩).mono ?_
         rintro _ _ ⟨rfl,rfl⟩
         conv=>whnf
         refine rdw ?_;repeat' ((with_reducible apply tw)<;>intro _)
         exact ⟨(true,w2),rfl,rfl,hdn.1,hdn.2⟩
      | false =>
        conv=>whnf
        refine rdw ?_;repeat' ((with_reducible apply tw)<;>intro _)
        ·rename_i hjl
         have hjn:j<l.length:=Int.ofNat_lt.1 hjl
         refine Exists.elim (hch.at hw hjn) fun x hx=>Exists.elim hx fun i hx=>Exists.elim hx fun c2 hx => ?_
         have hlen:=hch.len hw
         have hlen2:=hw.len
         have hst:=hin.step hw hch hjn hx.1 hx.2.1 hx.2.2.1 hx.2.2.2
         refine ⟨Int.natCast_nonneg _,by rw [Int.toNat_natCast,hnl];exact hjn,?_⟩
         conv=>whnf
         refine ⟨_,by rw [Int.toNat_natCast];exact nums_at hx.1,?_⟩
         conv=>whnf
         refine rdw ?_;repeat' ((with_reducible apply tw)<;>intro _)
         refine (put_ok d hw w2 x hx.2.1 hx.2.2.1 hin.okay.fine.rising hin.okay.fine.few (hin.okay.outs' hw) hin.okay.fine.count).mono ?_
         rintro _ _ ⟨rfl,rfl⟩
         conv=>whnf
         refine rdw ?_;repeat' ((with_reducible apply tw)<;>intro _)
         exact ⟨(false,w2.put d i c2,j+1),rfl,rfl,hst,by show l.length - (j+1)<l.length - j;omega⟩
        ·rename_i hjl
         have hdn:=hin.done hw hch hpos h0.round.1 h0.round.2.2 (fin:=fin) hjl hl h0.fin
         have hr2:=hdn.1.round
         ((with_reducible refine draw_pl ttOk zOk foOk mixedOk pl64x4 ?_ ?_);(focus kernel_rfl);(conv=>whnf))
         refine rdw ?_;repeat' ((with_reducible apply tw)<;>intro _)
         refine (next_ok d hw w2.c.round ⟨hr2.1,hr2.2.1⟩).mono ?_
         rintro _ _ ⟨rfl,rfl⟩
         conv=>whnf
         refine rdw ?_;repeat' ((with_reducible apply tw)<;>intro _)
         exact ⟨(false,w2),rfl,rfl,hdn.1,hdn.2⟩
    ·rename_i hpos
     have hfe:fin=w:=Exists.elim h0.fin fun n hn=>hn.2.trans (goF_end hpos n)
     ((with_reducible refine draw_pl ttOk zOk foOk mixedOk pl64x10 ?_ ?_);(focus kernel_rfl);(conv=>whnf))
     refine rdw ?_;repeat' ((with_reducible apply tw)<;>intro _)
     exact .inl ⟨by rw [hfe];exact h0.first rfl,by rw [hfe],by rw [hfe]⟩
  | false =>
    conv=>whnf
    refine rdw ?_;repeat' ((with_reducible apply tw)<;>intro _)
    ·rename_i hpos
     have hsp:=nextC_spec hw h0.round.1 h0.round.2.2 hpos
     have htop:=hw.top
     have hch:=h0.chain hw hpos
     ((with_reducible refine draw_pl ttOk zOk foOk mixedOk pl64x5 ?_ ?_);(focus kernel_rfl);(conv=>whnf))
     refine rdw ?_;repeat' ((with_reducible apply tw)<;>intro _)
     refine (back_ok d hw w.c.round (nextC d w.c.round) h0.round.1 hsp.1 hsp.2.2.2.1 ⟨hsp.2.2.2.2.2,by have:=hsp.2.1;omega⟩ hsp.2.2.2.2.1).mono ?_
     rintro _ _ ⟨rfl,rfl⟩
     obtain ⟨l,hl⟩:∃ l,backI d w.c.round (nextC d w.c.round)=l:=⟨_,rfl⟩
     rw [hl] at hch ⊢
     have hnl:=nums_length l
     conv=>whnf
     refine rdw ?_;repeat' ((with_reducible apply tw)<;>intro _)
     refine loop_go ttOk zOk foOk (σ:=Bool×Wk×Nat) (goIn d c.done l) (fun s=>goInI d c.done w l s.1 s.2.1 s.2.2) (fun s=>l.length - s.2.2) [2,4,6,37,38,39] ?_ ?_
     ·conv=>whnf
      exact ⟨(false,w,0),by rw [hnl];rfl,rfl,goInI.start hw hch h0.okay h0.first⟩
     ·rintro ⟨b2,w2,j⟩ hin1
      have hin:goInI d c.done w l b2 w2 j:=hin1
      clear hin1
      cases b2 with
      | true =>
        conv=>whnf
        refine rdw ?_;repeat' ((with_reducible apply tw)<;>intro _)
        ·rename_i hjl
         have hjn:j<l.length:=Int.ofNat_lt.1 hjl
         refine Exists.elim (hch.at hw hjn) fun x hx=>Exists.elim hx fun i hx=>Exists.elim hx fun c2 hx => ?_
         have hlen:=hch.len hw
         have hlen2:=hw.len
         have hst:=hin.step hw hch hjn hx.1 hx.2.1 hx.2.2.1 hx.2.2.2
         refine ⟨Int.natCast_nonneg _,by rw [Int.toNat_natCast,hnl];exact hjn,?_⟩
         conv=>whnf
         refine ⟨_,by rw [Int.toNat_natCast];exact nums_at hx.1,?_⟩
         conv=>whnf
         refine rdw ?_;repeat' ((with_reducible apply tw)<;>intro _)
         refine (put_ok d hw w2 x hx.2.1 hx.2.2.1 hin.okay.fine.rising hin.okay.fine.few (hin.okay.outs' hw) hin.okay.fine.count).mono ?_
         rintro _ _ ⟨rfl,rfl⟩
         conv=>whnf
         refine rdw ?_;repeat' ((with_reducible apply tw)<;>intro _)
         exact ⟨(false,w2.put d i c2,j+1),rfl,by rw [goIn,← hin.first rfl];rfl,hst,by show l.length - (j+1)<l.length - j;omega⟩
        ·rename_i hjl
         have hdn:=hin.done hw hch hpos h0.round.1 h0.round.2.2 (fin:=fin) hjl hl h0.fin
         have hr2:=hdn.1.round
         ((with_reducible refine draw_pl ttOk zOk foOk mixedOk pl64x4 ?_ ?_);(focus kernel_rfl);(conv=>whnf))
         refine rdw ?_;repeat' ((with_reducible apply tw)<;>intro _)
         refine (next_ok d hw w2.c.round ⟨hr2.1,hr2.2.1⟩).mono ?_
         rintro _ _ ⟨rfl,rfl⟩
         conv=>whnf
         refine rdw ?_;repeat' ((with_reducible apply tw)<;>intro _)
         exact ⟨(true,w2),rfl,rfl,hdn.1,hdn.2⟩
      | false =>
        conv=>whnf
        refine rdw ?_;repeat' ((with_reducible apply tw)<;>intro _)
        ·rename_i hjl
         have hjn:j<l.length:=Int.ofNat_lt.1 hjl
         refine Exists.elim (hch.at hw hjn) fun x hx=>Exists.elim hx fun i hx=>Exists.elim hx fun c2 hx => ?_
         have hlen:=hch.len hw
         have hlen2:=hw.len
         have hst:=hin.step hw hch hjn hx.1 hx.2.1 hx.2.2.1 hx.2.2.2
         refine ⟨Int.natCast_nonneg _,by rw [Int.toNat_natCast,hnl];exact hjn,?_⟩
         conv=>whnf
         refine ⟨_,by rw [Int.toNat_natCast];exact nums_at hx.1,?_⟩
         conv=>whnf
         refine rdw ?_;repeat' ((with_reducible apply tw)<;>intro _)
         refine (put_ok d hw w2 x hx.2.1 hx.2.2.1 hin.okay.fine.rising hin.okay.fine.few (hin.okay.outs' hw) hin.okay.fine.count).mono ?_
         rintro _ _ ⟨rfl,rfl⟩
         conv=>whnf
         refine rdw ?_;repeat' ((with_reducible apply tw)<;>intro _)
         exact ⟨(false,w2.put d i c2,j+1),rfl,rfl,hst,by show l.length - (j+1)<l.length - j;omega⟩
        ·rename_i hjl
         have hdn:=hin.done hw hch hpos h0.round.1 h0.round.2.2 (fin:=fin) hjl hl h0.fin
         have hr2:=hdn.1.round
         ((with_reducible refine draw_pl ttOk zOk foOk mixedOk pl64x4 ?_ ?_);(focus kernel_rfl);(conv=>whnf))
         refine rdw ?_;repeat' ((with_reducible apply tw)<;>intro _)
         refine (next_ok d hw w2.c.round ⟨hr2.1,hr2.2.1⟩).mono ?_
         rintro _ _ ⟨rfl,rfl⟩
         conv=>whnf
         refine rdw ?_;repeat' ((with_reducible apply tw)<;>intro _)
         exact ⟨(false,w2),rfl,rfl,hdn.1,hdn.2⟩
    ·rename_i hpos
     have hfe:fin=w:=Exists.elim h0.fin fun n hn=>hn.2.trans (goF_end hpos n)
     ((with_reducible refine draw_pl ttOk zOk foOk mixedOk pl64x10 ?_ ?_);(focus kernel_rfl);(conv=>whnf))
     refine rdw ?_;repeat' ((with_reducible apply tw)<;>intro _)
     exact .inr ⟨by rw [hfe],by rw [hfe]⟩
structure curMay (c:Cursor):Prop where
 round:0≤c.round∧c.round≤1099511627776∧c.round % 2=0
 done:riseB c.done 1 65536
 count:0≤c.count∧c.count≤1099511627776
theorem rise_len2 {l:List Int} (h:riseB l 1 65536):l.length≤65536:=by
 have:=sub_len (m:=(List.range 65536).map fun n:Nat=>(n:Int)+1) (rising_nodup h.1) fun x hx=>by
  have:=h.2 x hx
  exact List.mem_map.2 ⟨(x - 1).toNat,by simp;omega,by omega⟩
 simpa using this
def finW (d:Dag) (c:Cursor):Wk:=Wk.goF d (topR d.certs).toNat ⟨c,[]⟩
theorem start_okay {d:Dag} {c:Cursor} (h:curMay c):(Wk.mk c []).okay d:=⟨⟨h.done.1,rise_len2 h.done,h.count⟩,Nat.zero_le _⟩
def zCurAV:AV := .agg [.d (.int .i64 0),.d .nils,.d (.int .i64 0)]
theorem cDn_post {a b:AV} (l:List Cert):∀ (R:RC) (v:Value),VR R (.agg [a,b,.d (cDn l)]) v→VR R (.agg [a,b,.d (.sl 6 (certsD l))]) v:=by
 intro R v h
 have:=cDn_args (a:=a) (b:=b) (r:=[]) l R [v] (by simp only [VRt];exact ⟨v,[],rfl,h,rfl⟩)
 simp only [VRt] at this
 obtain ⟨u,us,e,h1,h2⟩:=this
 cases e
 exact h1
theorem build_ok (n:Int) (hn:isN n=true) (l:List Cert) (hl:l.length≤60000) (hok:∀ c∈l,okCert n c∧c.tiny) :
  ACalls Tryz.prog 20 [.d (.int .i64 n),.d (.sl 6 (certsD l))] [] (fun av L=>av=(buildD n l).av∧L=[]):=by
 refine acalls_post3 (build_row n hn l hl hok (buildD n l) rfl) ?_
 rintro _ _ ⟨rfl,rfl⟩
 exact ⟨_,⟨rfl,rfl⟩,cDn_post _⟩
def cz:Cursor:=⟨0,[],0⟩
theorem cz_may:curMay cz:=by
 refine ⟨⟨by decide,by decide,by decide⟩,⟨List.Pairwise.nil,by simp [cz]⟩,by decide⟩
def outsD (d:Dag):List Int:=(finW d cz).outs
def Wk.cur (w:Wk):AV := .agg [.d (.int .i64 w.c.round),.d (.sl 1 (nums w.c.done)),.d (.int .i64 w.c.count)]
theorem goZ_ok (d:Dag) (hv:Valid d):ACalls Tryz.prog 64 [d.av,zCurAV] [] (fun av L=>av = .tup [(finW d cz).cur,.d (.sl 1 (nums (outsD d)))]∧L=[]):=by
 have h:=go_ok d hv.well cz (by decide) (by decide) (start_okay cz_may) (finW d cz) rfl
 have h1:=acalls_nil3 (x:=d.av) (by exact ⟨by decide,rfl⟩) h
 refine acalls_data h1 ?_
 rintro _ _ (⟨_,rfl,rfl⟩|⟨rfl,rfl⟩)
 ·conv=>whnf
  exact ⟨rfl,rfl⟩
 ·conv=>whnf
  exact ⟨rfl,rfl⟩
noncomputable def okAll (n:Int) (l:List Cert):Bool:=isN n&&l.all fun c=>okC n c
theorem okAll_iff {n:Int} {l:List Cert}:okAll n l=true↔isN n=true∧∀ c∈l,okCert n c:=by
 simp [okAll,okC]
noncomputable def ordE (n:Int) (l:List Cert):Int:=if okAll n l=true then 0 else 1
noncomputable def ordL (n:Int) (l:List Cert):List Int:=if okAll n l=true then outsD (buildD n l) else []
theorem order_audit (n:Int) (l:List Cert) (hl:l.length≤60000) (hf:∀ c∈l,fewL c∧c.tiny):ACalls Tryz.prog 45 [.d (.int .i64 n),.d (.sl 6 (certsD l))] [] (fun av L=>av = .tup [.d (.sl 1 (nums (ordL n l))),.d (.int .i64 (ordE n l))]∧L=[]):=by
 have hmay:=auditMay_ok n l (by unfold few;omega) (fun c hc=>(hf c hc).1)
 rw [show (isN n&&l.all fun c=>okC n c)=okAll n l from rfl] at hmay
 (refine acalls_go ttOk zOk foOk Tryz.func45 rfl Tryz.ntmps45 rfl false rfl ?_);(conv=>whnf)
 refine hmay.mono ?_
 rintro _ _ ⟨rfl,rfl⟩
 rw [ordE,ordL]
 cases hb:okAll n l with
 | false =>
   conv=>whnf
   refine rdw ?_;repeat' ((with_reducible apply tw)<;>intro _)
   exact ⟨rfl,rfl⟩
 | true =>
   obtain ⟨h1,h2⟩:=okAll_iff.1 hb
   have hval:=(buildD_valid h1 hl h2).1
   conv=>whnf
   refine rdw ?_;repeat' ((with_reducible apply tw)<;>intro _)
   refine (build_ok n h1 l hl fun c hc=>⟨h2 c hc,(hf c hc).2⟩).mono ?_
   rintro _ _ ⟨rfl,rfl⟩
   obtain ⟨d,hd⟩:∃ d,buildD n l=d:=⟨_,rfl⟩
   rw [hd] at hval ⊢
   conv=>whnf
   refine (goZ_ok d hval).mono ?_
   rintro _ _ ⟨rfl,rfl⟩
   rw [Wk.cur]
   obtain ⟨fw,hfw⟩:∃ fw,finW d cz=fw:=⟨_,rfl⟩
   rw [hfw]
   conv=>whnf
   refine rdw ?_;repeat' ((with_reducible apply tw)<;>intro _)
   exact ⟨rfl,rfl⟩
def begins (xs ys:List Int):Bool:=decide (xs.length≤ys.length∧xs=ys.take xs.length)
theorem equal_ok (xs ys:List Int) (hm:few xs):ACalls Tryz.prog 46 [.d (.sl 1 (nums xs)),.d (.sl 1 (nums ys))] [] (fun av L=>av = .d (.bool (decide (xs=ys)))∧L=[]):=by
 have hx:=nums_length xs
 have hy:=nums_length ys
 unfold few at hm
 (refine acalls_go ttOk zOk foOk Tryz.func46 rfl Tryz.ntmps46 rfl false rfl ?_);(conv=>whnf)
 rw [hx,hy]
 refine rdw ?_;repeat' ((with_reducible apply tw)<;>intro _)
 ·rename_i h
  rw [decide_eq_false (fun e=>h (by rw [e]))]
  exact ⟨rfl,rfl⟩
 ·rename_i h
  have hl:xs.length=ys.length:=by omega
  refine loop_go ttOk zOk foOk (σ:=Nat) (fun k=>([(0,.d (.sl 1 (nums xs))),(1,.d (.sl 1 (nums ys))),(12,.d (.int .i64 xs.length)),(13,.d (.int .i64 k))],[])) (fun k=>k≤xs.length∧xs.take k=ys.take k) (fun k=>xs.length - k) [0,1,12,13] ?_ ?_
  ·conv=>whnf
   exact ⟨0,by rw [hx];rfl,rfl,by simp⟩
  ·rintro k ⟨hk,he⟩
   conv=>whnf
   refine rdw ?_;repeat' ((with_reducible apply tw)<;>intro _)
   ·rename_i h
    refine Exists.elim (⟨_,List.getElem?_eq_getElem (by omega)⟩:∃ a,xs[k]? = some a) fun a ha => ?_
    refine Exists.elim (⟨_,List.getElem?_eq_getElem (by omega)⟩:∃ b,ys[k]? = some b) fun b hb => ?_
    ((with_reducible refine draw_pl ttOk zOk foOk mixedOk pl46x6 ?_ ?_);(focus kernel_rfl);(conv=>whnf))
    refine rdw ?_;repeat' ((with_reducible apply tw)<;>intro _)
    ((with_reducible apply rd_intro);(focus (intro K hK;(conv=>whnf);exact ⟨by omega,[.int .i64 a],nums_at ha,hK⟩));(conv=>whnf))
    refine rdw ?_;repeat' ((with_reducible apply tw)<;>intro _)
    ((with_reducible apply rd_intro);(focus (intro K hK;(conv=>whnf);exact ⟨by omega,[.int .i64 b],nums_at hb,hK⟩));(conv=>whnf))
    refine rdw ?_;repeat' ((with_reducible apply tw)<;>intro _)
    ·rename_i h
     rw [decide_eq_false (fun e=>by subst e;rw [ha] at hb;cases hb;exact h rfl)]
     exact ⟨rfl,rfl⟩
    ·rename_i h
     exact ⟨k+1,rfl,rfl,⟨by omega,(take_succ_eq ha hb he).2 (by omega)⟩,by omega⟩
   ·rename_i h
    obtain rfl:k=xs.length:=by omega
    rw [decide_eq_true (by rw [List.take_length,hl,List.take_length] at he;exact he)]
    exact ⟨rfl,rfl⟩
theorem begins_take {xs ys:List Int} (h:xs.length≤ys.length):(nums ys).take xs.length=nums (ys.take xs.length):=by simp [nums]
noncomputable def folB (n:Int) (l:List Cert) (xs:List Int):Bool:=okAll n l&&begins xs (ordL n l)
theorem follows_audit (n:Int) (l:List Cert) (hl:l.length≤60000) (hf:∀ c∈l,fewL c∧c.tiny) (xs:List Int) (hx:few xs):ACalls Tryz.prog 23 [.d (.int .i64 n),.d (.sl 6 (certsD l)),.d (.sl 1 (nums xs))] [] (fun av L=>av = .tup [.d (.bool (folB n l xs)),.d (.int .i64 (ordE n l))]∧L=[]):=by
 have hord:=order_audit n l hl hf
 have hxl:=nums_length xs
 unfold few at hx
 rw [folB]
 rw [ordE] at hord ⊢
 obtain ⟨ys,hys⟩:∃ ys,ordL n l=ys:=⟨_,rfl⟩
 rw [hys] at hord ⊢
 have hyl:=nums_length ys
 (refine acalls_go ttOk zOk foOk Tryz.func23 rfl Tryz.ntmps23 rfl false rfl ?_);(conv=>whnf)
 refine hord.mono ?_
 rintro _ _ ⟨rfl,rfl⟩
 cases hb:okAll n l with
 | false =>
   conv=>whnf
   refine rdw ?_;repeat' ((with_reducible apply tw)<;>intro _)
   exact ⟨rfl,rfl⟩
 | true =>
   conv=>whnf
   refine rdw ?_;repeat' ((with_reducible apply tw)<;>intro _)
   ·rename_i h
    rw [hxl,hyl] at h
    have hle:xs.length≤ys.length:=by omega
    refine ⟨by omega,by omega,by rw [hxl,hyl];omega,?_⟩
    conv=>whnf
    rw [show List.drop (Int.toNat 0) (List.take ((nums xs).length:Int).toNat (nums ys))=nums (ys.take xs.length) by
     rw [hxl,show (Int.toNat 0)=0 from rfl,List.drop_zero,Int.toNat_natCast,begins_take hle]]
    refine (equal_ok xs (ys.take xs.length) (by unfold few;omega)).mono ?_
    rintro _ _ ⟨rfl,rfl⟩
    conv=>whnf
    refine ⟨?_,rfl⟩
    rw [begins]
    by_cases h2:xs=ys.take xs.length
    ·rw [decide_eq_true h2,decide_eq_true ⟨hle,h2⟩];rfl
    ·rw [decide_eq_false h2,decide_eq_false (fun h3=>h2 h3.2)];rfl
   ·rename_i h
    rw [hxl,hyl] at h
    refine ⟨?_,rfl⟩
    rw [begins,decide_eq_false (fun h3=>h (by omega))]
    rfl
def atX (l:List Cert) (r a:Int):Option Nat:=l.findIdx? fun c=>decide (c.round=r∧c.author=a)
def atI (l:List Cert) (r a:Int):Int:=(atX l r a).elim (-1) fun i=>(i:Int)
theorem atX_no {l:List Cert} {r a:Int} (h:∀ c∈l,¬(c.round=r∧c.author=a)):atX l r a=none:=by
 unfold atX
 rw [List.findIdx?_eq_none_iff]
 intro c hc
 simpa using h c hc
theorem atX_here {l:List Cert} {r a:Int} {j:Nat} {c:Cert} (hc:l[j]? = some c) (hx:c.round=r∧c.author=a) (h:∀ c∈l.take j,¬(c.round=r∧c.author=a)):atX l r a=some j:=by
 unfold atX
 rw [List.findIdx?_eq_some_iff_getElem]
 obtain ⟨hj,rfl⟩:=List.getElem?_eq_some_iff.1 hc
 refine ⟨hj,by simpa using hx,fun i hi => ?_⟩
 have:=h l[i] (List.mem_take_iff_getElem.2 ⟨i,by omega,rfl⟩)
 simpa using this
theorem atC_of {l:List Cert} {r a:Int}:atC l r a=(atX l r a).bind fun i=>l[i]? := by
 unfold atC atX
 induction l with
 | nil=>rfl
 | cons c l ih =>
   rw [List.find?_cons,List.findIdx?_cons]
   cases hc:decide (c.round=r∧c.author=a) with
   | true=>rfl
   | false =>
     rw [if_neg Bool.false_ne_true,ih]
     cases List.findIdx? (fun c=>decide (c.round=r∧c.author=a)) l with
     | none=>rfl
     | some i=>rfl
theorem rAt_ok (d:Dag) (hd:few d.certs) (r a:Int):ACalls Tryz.prog 27 [d.av,.d (.int .i64 r),.d (.int .i64 a)] [] (fun av L=>av = .d (.int .i64 (atI d.certs r a))∧L=[]):=by
 have hcl:=certsD_length d.certs
 unfold few at hd
 (refine acalls_go ttOk zOk foOk Tryz.func27 rfl Tryz.ntmps27 rfl false rfl ?_);(conv=>whnf)
 refine loop_go ttOk zOk foOk (σ:=Nat) (fun j=>([(1,.d (.int .i64 r)),(2,.d (.int .i64 a)),(3,.ptr 0 0),(7,.d (.int .i64 j))],[.cells d.cells])) (fun j=>j≤d.certs.length∧∀ c∈d.certs.take j,¬(c.round=r∧c.author=a)) (fun j=>d.certs.length - j) [1,2,3,7] ?_ ?_
 ·conv=>whnf
  exact ⟨0,rfl,rfl,Nat.zero_le _,by simp⟩
 ·rintro j ⟨hj,hall⟩
  conv=>whnf
  rw [hcl]
  refine rdz ?_;repeat' ((with_reducible apply tw)<;>intro _)
  ·rename_i h
   refine Exists.elim (⟨_,List.getElem?_eq_getElem (by omega)⟩:∃ c,d.certs[j]? = some c) fun c hc => ?_
   have hon:¬(c.round=r∧c.author=a)→∀ y∈d.certs.take (j+1),¬(y.round=r∧y.author=a):=by
    intro hn y hy
    rw [List.take_add_one,hc] at hy
    rcases List.mem_append.1 hy with hy|hy
    ·exact hall y hy
    ·simp at hy;rw [hy];exact hn
   refine ⟨by omega,c.cs,certsD_at hc,?_⟩
   conv=>whnf
   refine rdz ?_;repeat' ((with_reducible apply tw)<;>intro _)
   ·rename_i h1
    refine ⟨by omega,c.cs,certsD_at hc,?_⟩
    conv=>whnf
    refine rdz ?_;repeat' ((with_reducible apply tw)<;>intro _)
    ·rename_i h2
     rw [atI,atX_here hc ⟨h1,h2⟩ hall]
     exact ⟨rfl,rfl⟩
    ·rename_i h2
     exact ⟨j+1,rfl,rfl,⟨by omega,hon fun h=>h2 h.2⟩,by omega⟩
   ·rename_i h1
    exact ⟨j+1,rfl,rfl,⟨by omega,hon fun h=>h1 h.1⟩,by omega⟩
  ·rename_i h
   rw [List.take_of_length_le (by omega)] at hall
   rw [atI,atX_no hall]
   exact ⟨rfl,rfl⟩
end Go.Proofs.YtodimgkpjnpbiaaGreat
namespace Go.Proofs.YtodimgkpjnpbiaaGreat
open Go.Ab Go.RowKit
end Go.Proofs.YtodimgkpjnpbiaaGreat
