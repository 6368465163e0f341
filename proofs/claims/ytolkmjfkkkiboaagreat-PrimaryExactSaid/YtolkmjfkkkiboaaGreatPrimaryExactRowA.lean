/- PrimaryExact: what an input reads as. -/
import Derived.Test.YtolkmjfkkkiboaaGreatPrimaryExactLyih
import Derived.SizedLaws
import Derived.ProofKit
set_option linter.all false
namespace Go.Ab
open Go.RowKit
def Oj (tt:TypeId->Option TI):List Field->Nat->Nat->Bool
 | [],o,n=>Nat.beq o n
 | f :: r,o,n=>match tt f.type with
   | some j=>Nat.beq f.offset o&&Oj tt r (o+j.size) n
   | none=>false
def P9 (tt:TypeId->Option TI):Nat->TypeId->Bool
 | 0,_=>false
 | n+1,t=>match tt t with
   | none=>false
   | some i=>match i.desc with
     | .bool=>true
     | .int _=>true
     | .string=>true
     | .slice e=>P9 tt n e&&match tt e with|some ei => !(Nat.beq ei.size 0)|none=>false
     | .struct fs=>Oj tt fs.toList 0 i.size&&fs.toList.all λf=>P9 tt n f.type
     | _=>false
def x8 (p:TypeId->List DV->Prop):List TypeId->List DV->Prop
 | [],ds=>ds=[]
 | t :: ts,ds=>∃ a b,ds=a++b/\p t a/\x8 p ts b
def tW (tt:TypeId->Option TI):Nat->TypeId->List DV->Prop
 | 0,_,_=>False
 | n+1,t,ds=>match tt t with
   | none=>False
   | some i=>match i.desc with
     | .bool=>∃ b,ds=[.bool b]
     | .int k=>∃ x,ds=[.int k x]/\(Lit.int k x).wf=true
     | .string=>∃ s,ds=[.str s]/\s.size<=140737488355328
     | .slice e=>match tt e with
       | some ei=>∃ xs,ds=[.sl ei.size xs]/\xs.length * ei.bytes<=140737488355328/\∀ x∈xs,tW tt n e x
       | none=>False
     | .struct fs=>x8 (tW tt n) (fs.toList.map (·.type)) ds
     | _=>False
theorem mapM_some {α β:Type} {f:α->Option β}:∀ {l:List α} {ys:List β},l.mapM f=some ys->ys.length=l.length/\∀ (i:Nat) (a:α),l[i]? = some a->∃ y,f a=some y/\ys[i]? = some y
 | [],ys,h=>by
   simp at h;subst h;exact ⟨rfl,λi a h=>by simp at h⟩
 | x :: r,ys,h=>by
   rw [List.mapM_cons] at h
   cases hx:f x with
   | none=>rw [hx] at h;cases h
   | some y =>
     rw [hx] at h
     cases hr:r.mapM f with
     | none=>rw [hr] at h;cases h
     | some zs =>
       rw [hr] at h;have:ys=y :: zs:=(Hl h).symm;subst this;obtain ⟨h1,h2⟩:=mapM_some hr;refine ⟨by simp [h1],λi a hi=>?_⟩
       cases i with
       | zero=>simp at hi;subst hi;exact ⟨y,hx,by simp⟩
       | succ i=>simp at hi;obtain ⟨z,k1,k2⟩:=h2 i a hi;exact ⟨z,k1,by simpa using k2⟩
theorem yY {α:Type} {p:Nat->α->Prop}:∀ {n:Nat},(∀ i,i<n->∃ x,p i x)->∃ xs:List α,xs.length=n/\∀ (i:Nat) (x:α),xs[i]? = some x->p i x
 | 0,_=>⟨[],rfl,λi x h=>by simp at h⟩
 | n+1,h=>by
   obtain ⟨xs,h1,h2⟩:=yY (n:=n) (λi hi=>h i oM);obtain ⟨x,hx⟩:=h n oM;refine ⟨xs++[x],by simp [h1],λi y hi=>?_⟩;rcases qZ i xs.length with hl|hl
   ·rw [CK hl] at hi;exact h2 i y hi
   ·rw [Ww hl] at hi;have:i=n:=by
     have:=(dW.1 hi).1;simp at this;omega
    subst this;rw [h1] at hi;simp at hi;subst hi;exact hx
theorem Uc {rd:Addr->Value->Prop} {m:Nat}:∀ {xs:List (List DV)} {a:Addr},(∀ (i:Nat) (x:List DV),xs[i]? = some x->x.length=m/\pF rd x ⟨a.block,a.off+i * m,none⟩)->a.spot=none->jC rd m xs a
 | [],a,_,_=>by simp [jC]
 | x :: r,a,h,ha=>by
   simp only [jC];obtain ⟨h1,h2⟩:=h 0 x (by simp);refine ⟨h1,by simpa [jF a ha] using h2,Uc (λi y hy=>?_) rfl⟩;obtain ⟨k1,k2⟩:=h (i+1) y (by simpa using hy);refine ⟨k1,?_⟩;have e:a.off+m+i * m=a.off+(i+1) * m:=by rw [qu];omega
   simpa [e] using k2
theorem yZ {H:Type} {P:Program} {e:TypeId}:∀ {l:List (DataW H)} {d:DataW H},d∈l->∀ x∈d.weights P e,x∈DataW.weightsAll P e l
 | y :: r,d,h,x,hx=>by
   simp only [DataW.weightsAll,gA];rcases jy.1 h with rfl|h
   ·exact .inl hx
   ·exact .inr (yZ h x hx)
section
variable {H:Type} {enc:TypeId×Value->H} {P:Program} {tt:TypeId->Option TI} {W:World} {sp:Nat->Bool} {held:Bool}
theorem uG (ht:cp P tt) {t:TypeId} {i:TI} (hi:tt t=some i):P.cellsOf t=i.size:=by
 obtain ⟨_,info,h1,_,h2,_⟩:=ht t i hi;simp [Program.cellsOf,h1,h2]
theorem LQ (ht:cp P tt) {t:TypeId} {i:TI} (hi:tt t=some i):P.bytesOf t=i.bytes:=by
 obtain ⟨_,info,h1,_,_,h2⟩:=ht t i hi;simp [Program.bytesOf,h1,h2]
theorem Aa {rd:Addr->Value->Prop} {x:DV} {u:Value} (h1:u.oneCell'=true) (h:VD rd x u):cR rd [x] [u]:=by simp only [cR,Cs];exact ⟨u,[],rfl,h1,h,rfl⟩
theorem Ud (ht:cp P tt) {p:TypeId->List DV->Prop} {g:TypeId->List Value->Option (DataW H×List MemPlace)} {cs:List Value} {N:Nat} (hN:cs.length=N)
  {q:TypeId->Prop} (ih:∀ t,q t->∀ c d ps,g t c=some (d,ps)->(∀ x∈d.weights P t,x<=reachBytes)->∃ ds,p t ds/\cR (rdW W) ds c) :
  ∀ {fs:List Field} {o:Nat} {xs:List (DataW H×List MemPlace)},(∀ f∈fs,q f.type)->Oj tt fs o N=true->xs.length=fs.length->(∀ (i:Nat) (f:Field),fs[i]? = some f->g f.type ((cs.drop f.offset).take (P.cellsOf f.type))=xs[i]?) ->
    (∀ x∈DataW.weightsEach P (fs.map (·.type)) (xs.map (·.1)),x<=reachBytes)->∃ ds,x8 p (fs.map (·.type)) ds/\cR (rdW W) ds (cs.drop o)
 | [],o,xs,hq,hp,hl,hm,hw=>by
   have:o=N:=ie hp;subst this;exact ⟨[],rfl,by rw [zdE oM];simp [cR,Cs]⟩
 | f :: r,o,[],hq,hp,hl,hm,hw=>by simp at hl
 | f :: r,o,y :: zs,hq,hp,hl,hm,hw=>by
   simp only [Oj] at hp;split at hp
   ·rename_i j hj;simp only [oB] at hp;have ho:f.offset=o:=ie hp.1;have hx:=hm 0 f (by simp);simp only [KF] at hx;simp only [Dv,DataW.weightsEach,gA] at hw;obtain ⟨d1,k1,k2⟩:=ih f.type (hq f (by simp)) _ y.1 y.2 hx (λx hx=>hw x (.inl hx));obtain ⟨d2,k3,k4⟩:=Ud ht hN ih (fs:=r) (xs:=zs) (λf hf=>hq f (by simp [hf])) hp.2 (by simpa using hl) (λi f' hf=>by have:=hm (i+1) f' (by simpa using hf);simpa using this) (λx hx=>hw x (.inr hx));refine ⟨d1++d2,⟨d1,d2,rfl,k1,k3⟩,?_⟩;rw [uG ht hj,ho] at k2;have:=cf k2 k4;have e:(cs.drop o).take j.size++cs.drop (o+j.size)=cs.drop o:=by rw [<-List.drop_drop,KG]
    rw [e] at this;exact this
   ·cases hp
theorem reads (ht:cp P tt):∀ (n:Nat) (t:TypeId),P9 tt n t=true->∀ (fuel:Nat) (cs:List Value) (d:DataW H) (ps:List MemPlace),DataW.trod enc P W 0 sp held fuel t cs=some (d,ps) ->
  (∀ x∈d.weights P t,x<=reachBytes)->∃ ds,tW tt n t ds/\cR (rdW W) ds cs
 | 0,t,h,_,_,_,_,_,_=>by cases h
 | n+1,t,h,fuel,cs,d,ps,hr,hw=>by
   simp only [P9] at h;simp only [tW]
   cases hi:tt t with
   | none=>rw [hi] at h;cases h
   | some i =>
     rw [hi] at h;simp only at h ⊢;have hu:=(ht t i hi).1
     cases hd:i.desc<;>rw [hd] at h hu<;>simp only at h ⊢<;>first|(cases h;done)|skip
     case bool =>
      obtain ⟨b,rfl,_⟩:=DataW.trod_bool hu hr;exact ⟨[.bool b],⟨b,rfl⟩,Aa rfl (by simp only [VD])⟩
     case int k =>
      obtain ⟨x,rfl,_,hwf⟩:=DataW.trod_int hu hr;exact ⟨[.int k x],⟨x,rfl,hwf⟩,Aa rfl (by simp only [VD])⟩
     case string =>
      obtain ⟨s,rfl,he,_⟩:=DataW.trod_string hu hr
      cases he
      have hs:s.size<=reachBytes:=by
       have:=hw s.data.toList.length (by simp [DataW.weights]);simpa using this
      refine ⟨[.str s],⟨s,rfl,fS hs (by unfold reachBytes;omega)⟩,Aa rfl (by simp only [VD])⟩
     case slice e =>
      simp only [oB] at h;obtain ⟨he,hs⟩:=h
      cases iw:tt e with
      | none=>rw [iw] at hs;cases hs
      | some ei =>
        rw [iw] at hs;simp only at hs ⊢;have hn:0<ei.size:=by
         rcases Hk ei.size with h|h
         ·rw [h] at hs;cases hs
         ·exact h
        rcases DataW.trod_slice hu hr with ⟨rfl,_⟩|⟨a,len,cap,elems,rest,m,rfl,rfl,hx,_,ZR,i_,P_,ij,_,_⟩
        ·refine ⟨[.sl ei.size []],⟨[],rfl,by simp,by simp⟩,?_⟩;simp only [cR,Cs,VD];exact ⟨_,[],rfl,rfl,⟨hn,none,0,rfl,by simp,by simp [maxLen],λ_=>rfl,(λ_ h=>by cases h)⟩,rfl⟩
        ·cases hx
         simp only [DataW.weights,hu,jy,gA] at hw;have ab8:len * ei.bytes<=140737488355328:=by
          have h1:=hw _ (.inl rfl);simp only [tg,P_,LQ ht iw] at h1;have h2:len * ei.bytes<=(len+rest.length) * ei.bytes:=lT _ oM;exact fS h2 (fS h1 (by unfold reachBytes;omega))
         have hce:=uG ht iw;rw [hce] at ij;have key:∀ i,i<len->∃ x:List DV,tW tt n e x/\x.length=ei.size/\(i=0->a.spot=none)/\pF (rdW W) x ⟨a.block,a.off+i * ei.size,none⟩:=by
          intro i xe;have h1:=ij i xe;obtain ⟨y,hy⟩:=eH elems i;rw [hy] at h1
          cases hc:W.cells? 0 (a.add (i * ei.size)) ei.size with
          | none=>rw [hc] at h1;cases h1
          | some csi =>
            rw [hc] at h1;simp only [WU] at h1;obtain ⟨ds,k1,k2⟩:=reads ht n e he m csi y.1 y.2 h1 (λx hx=>hw x (.inr (.inl (yZ (px.2 ⟨y,fU hy,rfl⟩) x hx))));unfold World.cells? at hc;rw [bp (br _)] at hc;obtain ⟨c1,c2⟩:=mapM_some hc;simp only [List.length_range] at c1;have c3:∀ j,j<ei.size->W.cell? ((a.add (i * ei.size)).add j)=csi[j]? := by
             intro j hj;obtain ⟨u,u1,u2⟩:=c2 j j (by rw [zdZ hj]);rw [u1,u2]
            have I0:(a.add (i * ei.size)).spot=none->∀ j,(a.add (i * ei.size)).add j=⟨a.block,a.off+i * ei.size+j,none⟩:=by
             intro hh j;rw [add_lit _ hh];congr 1
             ·unfold Addr.add;split<;>rfl
             ·unfold Addr.add;split
              ·rename_i h0;rw [h0];rfl
              ·rfl
            have Ue:(a.add (i * ei.size)).spot=none:=by
             have h0:=c3 0 hn;have h2:(a.add (i * ei.size)).add 0=a.add (i * ei.size):=by simp [Addr.add]
             rw [h2,ff oM] at h0;exact my h0
            refine ⟨ds,k1,by rw [<-ed k2,c1],?_,?_⟩
            ·intro Xx;subst Xx;simpa [Addr.add] using Ue
            ·refine K0 (λ_ _ h=>h) k2 rfl ?_;intro j u hj;have dM:j<ei.size:=by rw [<-c1];exact (dW.1 hj).1
             have:=c3 j dM;rw [I0 Ue j,hj] at this;exact .inl this
         obtain ⟨xs,x1,x2⟩:=yY key;refine ⟨[.sl ei.size xs],⟨xs,rfl,by rw [x1];exact ab8,λx hx=>?_⟩,Aa rfl ?_⟩
         ·obtain ⟨i,xe⟩:=R8.1 hx;exact (x2 i x xe).1
         ·simp only [VD];refine ⟨hn,some a,cap,by rw [x1],by rw [x1];exact ZR,i_,(λh=>by cases h),λa' ha=>?_⟩
          cases ha
          cases hxs:xs with
          | nil=>exact ⟨.inl rfl,λ_ => .inr ⟨_,rfl⟩,by simp [jC]⟩
          | cons y r =>
            have gK:a.spot=none:=(x2 0 y (by rw [hxs];rfl)).2.2.1 rfl;refine ⟨.inr gK,λ_ => .inr ⟨_,rfl⟩,?_⟩;rw [<-hxs];exact Uc (λi x hx=>⟨(x2 i x hx).2.1,(x2 i x hx).2.2.2⟩) gK
     case struct fs =>
      obtain ⟨xs,m,rfl,hx,hl,xw,ij⟩:=DataW.trod_struct hu hr
      cases hx
      simp only [oB,Fe] at h;rw [uG ht hi] at hl;simp only [DataW.weights,hu] at hw;have:=Ud (W:=W) (p:=tW tt n) (q:=λt=>P9 tt n t=true) ht hl (λt hq c d ps hg hw=>reads ht n t hq m c d ps hg hw) (fs:=fs.toList) (o:=0) (xs:=xs) h.2 h.1 (by simpa using xw) (λi f hf=>ij i f (by simpa using hf)) hw;simpa using this
end
end Go.Ab
namespace Go.Ab
open Go.RowKit Go.ChangeShapes Go.WideShapes Go.ChangeAt
theorem Uf (W:World):(aj M00 (λ_=>none) [] W).rd=rdW W:=by
 funext a u;simp only [aj,G_];refine propext ⟨λh=>h.elim (λh => .inl h.1) λ⟨n,h,_⟩ => .inr ⟨n,h⟩,λh=>h.elim (λh => .inl ⟨h,?_⟩) λ⟨n,h⟩ => .inr (Tk.any h)⟩;rintro (h|⟨i,ab,h,_⟩|⟨i,ab,h,_⟩)
 ·exact h
 ·simp at h
 ·simp at h
theorem ab9 {P:Program} {f:FuncId} {av:AV} {W:World} {v0:Value} (h:ay P f [av] [] (pQ (.d (.bool true)) [])) (hv:VR (aj M00 (λ_=>none) [] W) av v0) :
  Calls P f #[v0] W λe W'=>e = .returned (.bool true)/\Below W.heap.size W W':=by
 let c:Ctx:={ w0:=W,P0:=λb=>b<W.heap.size,M0:=M00,E0:=λ_=>none,L0:=[],n:=0 }
 have hc:c.wf:=⟨λb h=>h,λb o h=>h.elim,λs h=>by cases h⟩;have hs:aI c c.E0 [] c.w0:=by
  refine ⟨rfl,rfl,rfl,eQ _,λ_ _=>rfl,?_,?_,?_,.refl _,⟨?_,?_,?_,?_⟩⟩<;>intros<;>simp_all
 refine (h c #[v0] hc rfl hs (by simp only [cD];exact ⟨v0,[],rfl,hv,rfl⟩)).mono ?_;rintro e W' ⟨v,ny,L',E',rfl,⟨rfl,rfl⟩,bP,DK⟩;simp only [VR,VD] at DK;subst DK;exact ⟨rfl,⟨bP.os,bP.tape,bP.output,bP.size,λk hk=>bP.gS k hk⟩⟩
theorem LR {W W':World} (h:Below W.heap.size W W') (may:MemPlace->Prop):W.keptBut W' may:=by
 refine ⟨h.os,h.output,λi hi=>?_⟩;rw [h.block i hi]
 cases W.heap[i]? with
 | none=>trivial
 | some o=>cases o<;>simp
section
variable {P:Program} {tt:TypeId->Option TI}
def XQ (ds:List DV):AV := .agg (ds.map AV.d)
theorem XR {W:World} {base:Nat} {t:TypeId} {fs:Array Field} {v:Value} {ds:List DV} (hu:P.underlying t=some (.struct fs)) (hv:Value.okWide P W .any base t v) (hd:cR (rdW W) ds v.cells.toList) :
  VR (aj M00 (λ_=>none) [] W) (XQ ds) v:=by
 simp only [Value.okWide,hu] at hv;obtain ⟨cs,rfl,_⟩:=hv;simp only [XQ,VR];refine ⟨cs,rfl,tD.2 ?_⟩;rw [Uf];exact hd
theorem Gc (ht:cp P tt) {f:Func} {fi:FuncId} {s:ChangeSpec} {t tb:TypeId} (hpar:f.params = #[t]) (Tu:f.resultTypes = #[tb]) (hub:P.underlying tb=some .bool) (aab:s.vars=[])
  (KM:∀ (H:Type) (d:DataW H),s.fn H [d]={ results:=[.lit (.bool true)],args:=[d] }) (laid:laidOutB P=true) (ga:P.readableRec t=true) (qT:t<P.types.size)
  (n:Nat) (hty:P9 tt n t=true) (mk:List DV->AV) (hmk:∀ (W:World) (base:Nat) (v:Value) (ds:List DV),Value.okWide P W .any base t v->cR (rdW W) ds v.cells.toList->VR (aj M00 (λ_=>none) [] W) (mk ds) v)
  (vE:∀ ds,tW tt n t ds->ay P fi [mk ds] [] (pQ (.d (.bool true)) []))
  {H:Type} {enc:TypeId×Value->H} {W:World} {base:Nat} {args:Array Value} {ds gs:List (DataW H)} {before:List MemPlace}
  (Ip:∀ (j:Nat) t v,f.params[j]? = some t->args[j]? = some v->Value.okWide P W .any base t v)
  (hW:DataW.Whole enc P f.params.toList s.vars false W args.toList ds gs before) {vt:List TypeId} (da:(DataW.weightsEach P (f.params.toList++vt) (ds++gs)).all (· <= reachBytes)=true) :
  Calls P fi args W λe W'=>∃ v,e = .returned v/\s.post enc P f false true false false W args v W':=by
 have hW':=hW;obtain ⟨p,q,hA,hV,rfl,hfz,fh⟩:=hW;rw [hpar] at hA Ip da;rw [aab] at hV;obtain ⟨v0,d0,gp,rfl,h0⟩:=trodAll_one hA;obtain rfl:args = #[v0]:=by cases args;simp_all
 obtain ⟨rfl,rfl⟩:=trodVars_none hV;simp only [gR] at hW' da;have h0k:=h0;obtain ⟨fuel,hr⟩:=h0;have hwt:∀ x∈d0.weights P t,x<=reachBytes:=by
  intro x hx;rw [Fe] at da;have:=da x (by simp only [KX,tC,DataW.weightsEach,gA];exact .inl hx);simpa using this
 obtain ⟨dv,k1,k2⟩:=reads ht n t hty fuel _ d0 p hr hwt;have bB:∀ x∈p,x.block<W.heap.size:=λx hx=>by simpa using hW'.lt x hx
 refine (ab9 (vE dv k1) (hmk W base v0 dv (Ip 0 t v0 (by simp) (by simp)) k2)).mono ?_;rintro e W' ⟨rfl,hb⟩;refine ⟨_,rfl,[d0],[],p,[],p,[],by simpa using hW',?_,?_,?_,LR hb _,λh=>by cases h⟩
 ·rw [gR,KM,Tu];exact trodAll_mk1 (shut_bool hub true)
 ·rw [gR,KM,hpar];exact trodAll_mk1 (Below.trod laid ga qT h0k hb bB)
 ·rw [aab,gR,KM];rfl
end
theorem x9 {α:Type} {f:α->List DV} {ok:α->Prop}:∀ {xs:List (List DV)},(∀ x∈xs,∃ a,x=f a/\ok a)->∃ l:List α,xs=l.map f/\∀ a∈l,ok a
 | [],_=>⟨[],rfl,by simp⟩
 | x :: r,h=>by
   obtain ⟨a,h1,h2⟩:=h x (by simp);obtain ⟨l,h3,h4⟩:=x9 (xs:=r) λy hy=>h y (by simp [hy]);exact ⟨a :: l,by simp [h1,h3],λb hb=>by rcases jy.1 hb with rfl|hb;exact h2;exact h4 b hb⟩
end Go.Ab
