/- NodeFormsCard: what an input reads as. -/
import Derived.Test.YtgkhgapkfnkagaaGreatDoorProg
import Derived.Test.YtgkhgapkfnkagaaGreatDoorNodeFormsCardLye20
import Derived.SizedLaws
import Derived.ProofKit
set_option linter.unusedVariables false
set_option linter.unusedSimpArgs false
namespace Go.Ab
open Go.RowKit
def packB (tt:TypeId→Option TI):List Field→Nat→Nat→Bool
 | [],o,n=>Nat.beq o n
 | f :: r,o,n=>match tt f.type with
   | some j=>Nat.beq f.offset o&&packB tt r (o+j.size) n
   | none=>false
def tyOk (tt:TypeId→Option TI):Nat→TypeId→Bool
 | 0,_=>false
 | n+1,t=>match tt t with
   | none=>false
   | some i=>match i.desc with
     | .bool=>true
     | .int _=>true
     | .string=>true
     | .slice e=>tyOk tt n e&&match tt e with|some ei => !(Nat.beq ei.size 0)|none=>false
     | .struct fs=>packB tt fs.toList 0 i.size&&fs.toList.all fun f=>tyOk tt n f.type
     | _=>false
def DTyF (p:TypeId→List DV→Prop):List TypeId→List DV→Prop
 | [],ds=>ds=[]
 | t :: ts,ds=>∃ a b,ds=a++b∧p t a∧DTyF p ts b
def DTy (tt:TypeId→Option TI):Nat→TypeId→List DV→Prop
 | 0,_,_=>False
 | n+1,t,ds=>match tt t with
   | none=>False
   | some i=>match i.desc with
     | .bool=>∃ b,ds=[.bool b]
     | .int k=>∃ x,ds=[.int k x]∧(Lit.int k x).wf=true
     | .string=>∃ s,ds=[.str s]∧s.size≤140737488355328
     | .slice e=>match tt e with
       | some ei=>∃ xs,ds=[.sl ei.size xs]∧xs.length * ei.bytes≤140737488355328∧∀ x∈xs,DTy tt n e x
       | none=>False
     | .struct fs=>DTyF (DTy tt n) (fs.toList.map (·.type)) ds
     | _=>False
theorem mapM_some {α β:Type} {f:α→Option β}:∀ {l:List α} {ys:List β},l.mapM f=some ys→ys.length=l.length∧∀ (i:Nat) (a:α),l[i]? = some a→∃ y,f a=some y∧ys[i]? = some y
 | [],ys,h=>by
   simp at h
   subst h
   exact ⟨rfl,fun i a h=>by simp at h⟩
 | x :: r,ys,h=>by
   rw [List.mapM_cons] at h
   cases hx:f x with
   | none=>rw [hx] at h;cases h
   | some y =>
     rw [hx] at h
     cases hr:r.mapM f with
     | none=>rw [hr] at h;cases h
     | some zs =>
       rw [hr] at h
       have:ys=y :: zs:=(Option.some.inj h).symm
       subst this
       obtain ⟨h1,h2⟩:=mapM_some hr
       refine ⟨by simp [h1],fun i a hi => ?_⟩
       cases i with
       | zero=>simp at hi;subst hi;exact ⟨y,hx,by simp⟩
       | succ i=>simp at hi;obtain ⟨z,k1,k2⟩:=h2 i a hi;exact ⟨z,k1,by simpa using k2⟩
theorem choose_list {α:Type} {p:Nat→α→Prop}:∀ {n:Nat},(∀ i,i<n→∃ x,p i x)→∃ xs:List α,xs.length=n∧∀ (i:Nat) (x:α),xs[i]? = some x→p i x
 | 0,_=>⟨[],rfl,fun i x h=>by simp at h⟩
 | n+1,h=>by
   obtain ⟨xs,h1,h2⟩:=choose_list (n:=n) (fun i hi=>h i (by omega))
   obtain ⟨x,hx⟩:=h n (by omega)
   refine ⟨xs++[x],by simp [h1],fun i y hi => ?_⟩
   rcases Nat.lt_or_ge i xs.length with hl|hl
   ·rw [List.getElem?_append_left hl] at hi;exact h2 i y hi
   ·rw [List.getElem?_append_right hl] at hi
    have:i=n:=by
     have:=(List.getElem?_eq_some_iff.1 hi).1
     simp at this;omega
    subst this
    rw [h1] at hi;simp at hi;subst hi;exact hx
theorem VDE_mk {rd:Addr→Value→Prop} {m:Nat}:∀ {xs:List (List DV)} {a:Addr},(∀ (i:Nat) (x:List DV),xs[i]? = some x→x.length=m∧VDC rd x ⟨a.block,a.off+i * m,none⟩)→a.spot=none→VDE rd m xs a
 | [],a,_,_=>by simp [VDE]
 | x :: r,a,h,ha=>by
   simp only [VDE]
   obtain ⟨h1,h2⟩:=h 0 x (by simp)
   refine ⟨h1,by simpa [addr_eta a ha] using h2,VDE_mk (fun i y hy => ?_) rfl⟩
   obtain ⟨k1,k2⟩:=h (i+1) y (by simpa using hy)
   refine ⟨k1,?_⟩
   have e:a.off+m+i * m=a.off+(i+1) * m:=by rw [Nat.add_mul];omega
   simpa [e] using k2
theorem weights_mem {H:Type} {P:Program} {e:TypeId}:∀ {l:List (DataW H)} {d:DataW H},d∈l→∀ x∈d.weights P e,x∈DataW.weightsAll P e l
 | y :: r,d,h,x,hx=>by
   simp only [DataW.weightsAll,List.mem_append]
   rcases List.mem_cons.1 h with rfl|h
   ·exact .inl hx
   ·exact .inr (weights_mem h x hx)
section
variable {H:Type} {enc:TypeId×Value→H} {P:Program} {tt:TypeId→Option TI} {W:World} {sp:Nat→Bool} {held:Bool}
theorem cellsOf_tt (ht:TTok P tt) {t:TypeId} {i:TI} (hi:tt t=some i):P.cellsOf t=i.size:=by
 obtain ⟨_,info,h1,_,h2,_⟩:=ht t i hi
 simp [Program.cellsOf,h1,h2]
theorem bytesOf_tt (ht:TTok P tt) {t:TypeId} {i:TI} (hi:tt t=some i):P.bytesOf t=i.bytes:=by
 obtain ⟨_,info,h1,_,_,h2⟩:=ht t i hi
 simp [Program.bytesOf,h1,h2]
theorem VDs_one {rd:Addr→Value→Prop} {x:DV} {u:Value} (h1:u.oneCell'=true) (h:VD rd x u):VDs rd [x] [u]:=by simp only [VDs,Cs];exact ⟨u,[],rfl,h1,h,rfl⟩
theorem readsF (ht:TTok P tt) {p:TypeId→List DV→Prop} {g:TypeId→List Value→Option (DataW H×List MemPlace)} {cs:List Value} {N:Nat} (hN:cs.length=N)
  {q:TypeId→Prop} (ih:∀ t,q t→∀ c d ps,g t c=some (d,ps)→(∀ x∈d.weights P t,x≤reachBytes)→∃ ds,p t ds∧VDs (rdW W) ds c) :
  ∀ {fs:List Field} {o:Nat} {xs:List (DataW H×List MemPlace)},(∀ f∈fs,q f.type)→packB tt fs o N=true→xs.length=fs.length→(∀ (i:Nat) (f:Field),fs[i]? = some f→g f.type ((cs.drop f.offset).take (P.cellsOf f.type))=xs[i]?) →
    (∀ x∈DataW.weightsEach P (fs.map (·.type)) (xs.map (·.1)),x≤reachBytes)→∃ ds,DTyF p (fs.map (·.type)) ds∧VDs (rdW W) ds (cs.drop o)
 | [],o,xs,hq,hp,hl,hm,hw=>by
   have:o=N:=Nat.eq_of_beq_eq_true hp
   subst this
   exact ⟨[],rfl,by rw [List.drop_of_length_le (by omega)];simp [VDs,Cs]⟩
 | f :: r,o,[],hq,hp,hl,hm,hw=>by simp at hl
 | f :: r,o,y :: zs,hq,hp,hl,hm,hw=>by
   simp only [packB] at hp
   split at hp
   ·rename_i j hj
    simp only [Bool.and_eq_true] at hp
    have ho:f.offset=o:=Nat.eq_of_beq_eq_true hp.1
    have hx:=hm 0 f (by simp)
    simp only [List.getElem?_cons_zero] at hx
    simp only [List.map_cons,DataW.weightsEach,List.mem_append] at hw
    obtain ⟨d1,k1,k2⟩:=ih f.type (hq f (by simp)) _ y.1 y.2 hx (fun x hx=>hw x (.inl hx))
    obtain ⟨d2,k3,k4⟩:=readsF ht hN ih (fs:=r) (xs:=zs) (fun f hf=>hq f (by simp [hf])) hp.2 (by simpa using hl) (fun i f' hf=>by have:=hm (i+1) f' (by simpa using hf);simpa using this) (fun x hx=>hw x (.inr hx))
    refine ⟨d1++d2,⟨d1,d2,rfl,k1,k3⟩,?_⟩
    rw [cellsOf_tt ht hj,ho] at k2
    have:=Cs_append k2 k4
    have e:(cs.drop o).take j.size++cs.drop (o+j.size)=cs.drop o:=by rw [← List.drop_drop,List.take_append_drop]
    rw [e] at this
    exact this
   ·cases hp
theorem reads (ht:TTok P tt):∀ (n:Nat) (t:TypeId),tyOk tt n t=true→∀ (fuel:Nat) (cs:List Value) (d:DataW H) (ps:List MemPlace),DataW.trod enc P W 0 sp held fuel t cs=some (d,ps) →
  (∀ x∈d.weights P t,x≤reachBytes)→∃ ds,DTy tt n t ds∧VDs (rdW W) ds cs
 | 0,t,h,_,_,_,_,_,_=>by cases h
 | n+1,t,h,fuel,cs,d,ps,hr,hw=>by
   simp only [tyOk] at h
   simp only [DTy]
   cases hi:tt t with
   | none=>rw [hi] at h;cases h
   | some i =>
     rw [hi] at h
     simp only at h ⊢
     have hu:=(ht t i hi).1
     cases hd:i.desc<;>rw [hd] at h hu<;>simp only at h ⊢<;>first|(cases h;done)|skip
     case bool =>
      obtain ⟨b,rfl,_⟩:=DataW.trod_bool hu hr
      exact ⟨[.bool b],⟨b,rfl⟩,VDs_one rfl (by simp only [VD])⟩
     case int k =>
      obtain ⟨x,rfl,_,hwf⟩:=DataW.trod_int hu hr
      exact ⟨[.int k x],⟨x,rfl,hwf⟩,VDs_one rfl (by simp only [VD])⟩
     case string =>
      obtain ⟨s,rfl,he,_⟩:=DataW.trod_string hu hr
      cases he
      have hs:s.size≤reachBytes:=by
       have:=hw s.data.toList.length (by simp [DataW.weights])
       simpa using this
      refine ⟨[.str s],⟨s,rfl,Nat.le_trans hs (by unfold reachBytes;omega)⟩,VDs_one rfl (by simp only [VD])⟩
     case slice e =>
      simp only [Bool.and_eq_true] at h
      obtain ⟨he,hs⟩:=h
      cases hei:tt e with
      | none=>rw [hei] at hs;cases hs
      | some ei =>
        rw [hei] at hs
        simp only at hs ⊢
        have hn:0<ei.size:=by
         rcases Nat.eq_zero_or_pos ei.size with h|h
         ·rw [h] at hs;cases hs
         ·exact h
        rcases DataW.trod_slice hu hr with ⟨rfl,_⟩|⟨a,len,cap,elems,rest,m,rfl,rfl,hx,_,hlc,hcm,hel,hat,_,_⟩
        ·refine ⟨[.sl ei.size []],⟨[],rfl,by simp,by simp⟩,?_⟩
         simp only [VDs,Cs,VD]
         exact ⟨_,[],rfl,rfl,⟨hn,none,0,rfl,by simp,by simp [maxLen],fun _=>rfl,(fun _ h=>by cases h)⟩,rfl⟩
        ·cases hx
         simp only [DataW.weights,hu,List.mem_cons,List.mem_append] at hw
         have hbytes:len * ei.bytes≤140737488355328:=by
          have h1:=hw _ (.inl rfl)
          simp only [List.length_map,hel,bytesOf_tt ht hei] at h1
          have h2:len * ei.bytes≤(len+rest.length) * ei.bytes:=Nat.mul_le_mul_right _ (by omega)
          exact Nat.le_trans h2 (Nat.le_trans h1 (by unfold reachBytes;omega))
         have hce:=cellsOf_tt ht hei
         rw [hce] at hat
         have key:∀ i,i<len→∃ x:List DV,DTy tt n e x∧x.length=ei.size∧(i=0→a.spot=none)∧VDC (rdW W) x ⟨a.block,a.off+i * ei.size,none⟩:=by
          intro i hi'
          have h1:=hat i hi'
          obtain ⟨y,hy⟩:∃ y,elems[i]? = some y:=⟨_,List.getElem?_eq_getElem (by omega)⟩
          rw [hy] at h1
          cases hc:W.cells? 0 (a.add (i * ei.size)) ei.size with
          | none=>rw [hc] at h1;cases h1
          | some csi =>
            rw [hc] at h1
            simp only [Option.bind_some] at h1
            obtain ⟨ds,k1,k2⟩:=reads ht n e he m csi y.1 y.2 h1 (fun x hx=>hw x (.inr (.inl (weights_mem (List.mem_map.2 ⟨y,List.mem_of_getElem? hy,rfl⟩) x hx))))
            unfold World.cells? at hc
            rw [if_pos (Nat.zero_le _)] at hc
            obtain ⟨c1,c2⟩:=mapM_some hc
            simp only [List.length_range] at c1
            have c3:∀ j,j<ei.size→W.cell? ((a.add (i * ei.size)).add j)=csi[j]? := by
             intro j hj
             obtain ⟨u,u1,u2⟩:=c2 j j (by rw [List.getElem?_range hj])
             rw [u1,u2]
            have hadd:(a.add (i * ei.size)).spot=none→∀ j,(a.add (i * ei.size)).add j=⟨a.block,a.off+i * ei.size+j,none⟩:=by
             intro hh j
             rw [add_lit _ hh]
             congr 1
             ·unfold Addr.add;split<;>rfl
             ·unfold Addr.add;split
              ·rename_i h0;rw [h0];rfl
              ·rfl
            have hspot0:(a.add (i * ei.size)).spot=none:=by
             have h0:=c3 0 hn
             have h2:(a.add (i * ei.size)).add 0=a.add (i * ei.size):=by simp [Addr.add]
             rw [h2,List.getElem?_eq_getElem (by omega)] at h0
             exact spot_none h0
            refine ⟨ds,k1,by rw [← Cs_length k2,c1],?_,?_⟩
            ·intro hi0
             subst hi0
             simpa [Addr.add] using hspot0
            ·refine VDC_of (fun _ _ h=>h) k2 rfl ?_
             intro j u hj
             have hjl:j<ei.size:=by rw [← c1];exact (List.getElem?_eq_some_iff.1 hj).1
             have:=c3 j hjl
             rw [hadd hspot0 j,hj] at this
             exact .inl this
         obtain ⟨xs,x1,x2⟩:=choose_list key
         refine ⟨[.sl ei.size xs],⟨xs,rfl,by rw [x1];exact hbytes,fun x hx => ?_⟩,VDs_one rfl ?_⟩
         ·obtain ⟨i,hi'⟩:=List.mem_iff_getElem?.1 hx
          exact (x2 i x hi').1
         ·simp only [VD]
          refine ⟨hn,some a,cap,by rw [x1],by rw [x1];exact hlc,hcm,(fun h=>by cases h),fun a' ha => ?_⟩
          cases ha
          cases hxs:xs with
          | nil=>exact ⟨.inl rfl,fun _ => .inr ⟨_,rfl⟩,by simp [VDE]⟩
          | cons y r =>
            have hsp:a.spot=none:=(x2 0 y (by rw [hxs];rfl)).2.2.1 rfl
            refine ⟨.inr hsp,fun _ => .inr ⟨_,rfl⟩,?_⟩
            rw [← hxs]
            exact VDE_mk (fun i x hx=>⟨(x2 i x hx).2.1,(x2 i x hx).2.2.2⟩) hsp
     case struct fs =>
      obtain ⟨xs,m,rfl,hx,hl,hxl,hat⟩:=DataW.trod_struct hu hr
      cases hx
      simp only [Bool.and_eq_true,List.all_eq_true] at h
      rw [cellsOf_tt ht hi] at hl
      simp only [DataW.weights,hu] at hw
      have:=readsF (W:=W) (p:=DTy tt n) (q:=fun t=>tyOk tt n t=true) ht hl (fun t hq c d ps hg hw=>reads ht n t hq m c d ps hg hw) (fs:=fs.toList) (o:=0) (xs:=xs) h.2 h.1 (by simpa using hxl) (fun i f hf=>hat i f (by simpa using hf)) hw
      simpa using this
end
end Go.Ab
namespace Go.Ab
open Go.RowKit Go.ChangeShapes Go.WideShapes Go.ChangeAt
theorem rd_start (W:World):(rcOf M00 (fun _=>none) [] W).rd=rdW W:=by
 funext a u
 simp only [rcOf,Mut]
 refine propext ⟨fun h=>h.elim (fun h => .inl h.1) fun ⟨n,h,_⟩ => .inr ⟨n,h⟩,fun h=>h.elim (fun h => .inl ⟨h,?_⟩) fun ⟨n,h⟩ => .inr (Tk.any h)⟩
 rintro (h|⟨i,ab,h,_⟩|⟨i,ab,h,_⟩)
 ·exact h
 ·simp at h
 ·simp at h
theorem run_of {P:Program} {f:FuncId} {av:AV} {W:World} {v0:Value} (h:ACalls P f [av] [] (fun av L=>av = .d (.bool true)∧L=[])) (hv:VR (rcOf M00 (fun _=>none) [] W) av v0) :
  Calls P f #[v0] W fun e W'=>e = .returned (.bool true)∧Below W.heap.size W W':=by
 let c:Ctx:={ w0:=W,P0:=fun b=>b<W.heap.size,M0:=M00,E0:=fun _=>none,L0:=[],n:=0 }
 have hc:c.wf:=⟨fun b h=>h,fun b o h=>h.elim,fun s h=>by cases h⟩
 have hs:SimH c c.E0 [] c.w0:=by
  refine ⟨rfl,rfl,rfl,Nat.le_refl _,fun _ _=>rfl,?_,?_,?_,.refl _,⟨?_,?_,?_,?_⟩,.refl _,fun s h=>by cases h⟩<;>intros<;>simp_all
 refine (h c #[v0] hc rfl hs (by simp only [VRt];exact ⟨v0,[],rfl,hv,rfl⟩)).mono ?_
 rintro e W' ⟨v,av',L',E',rfl,⟨rfl,rfl⟩,hs',hv'⟩
 simp only [VR,VD] at hv'
 subst hv'
 exact ⟨rfl,⟨hs'.os,hs'.tape,hs'.output,hs'.size,fun k hk=>hs'.prot k hk⟩⟩
theorem kept_below {W W':World} (h:Below W.heap.size W W') (may:MemPlace→Prop):W.keptBut W' may:=by
 refine ⟨h.os,h.output,fun i hi => ?_⟩
 rw [h.block i hi]
 cases W.heap[i]? with
 | none=>trivial
 | some o=>cases o<;>simp
section
variable {P:Program} {tt:TypeId→Option TI}
def arg1 (ds:List DV):AV := .d (ds.headD .any)
theorem arg1_ok {W:World} {v:Value} {ds:List DV} (h1:v.oneCell'=true) (hd:VDs (rdW W) ds v.cells.toList):VR (rcOf M00 (fun _=>none) [] W) (arg1 ds) v:=by
 have e:v.cells = #[v]:=by cases v<;>first|rfl|(simp [Value.oneCell'] at h1)
 rw [e] at hd
 cases ds with
 | nil=>simp [VDs,Cs] at hd
 | cons x r =>
   simp only [VDs,Cs] at hd
   obtain ⟨u,us',he,_,h2,_⟩:=hd
   simp only [List.cons.injEq] at he
   obtain ⟨rfl,_⟩:=he
   simp only [arg1,List.headD_cons,VR]
   rw [rd_start];exact h2
theorem law_contract (ht:TTok P tt) {f:Func} {fi:FuncId} {s:ChangeSpec} {t tb:TypeId} (hpar:f.params = #[t]) (hres:f.resultTypes = #[tb]) (hub:P.underlying tb=some .bool) (hvars:s.vars=[])
  (hfn:∀ (H:Type) (d:DataW H),s.fn H [d]={ results:=[.lit (.bool true)],args:=[d] }) (laid:laidOutB P=true) (hrd:P.readableRec t=true) (hrow:t<P.types.size)
  (n:Nat) (hty:tyOk tt n t=true) (mk:List DV→AV) (hmk:∀ (W:World) (base:Nat) (v:Value) (ds:List DV),Value.okWide P W .any base t v→VDs (rdW W) ds v.cells.toList→VR (rcOf M00 (fun _=>none) [] W) (mk ds) v)
  (hcall:∀ ds,DTy tt n t ds→ACalls P fi [mk ds] [] (fun av L=>av = .d (.bool true)∧L=[]))
  {H:Type} {enc:TypeId×Value→H} {W:World} {base:Nat} {args:Array Value} {ds gs:List (DataW H)} {before:List MemPlace}
  (hval:∀ (j:Nat) t v,f.params[j]? = some t→args[j]? = some v→Value.okWide P W .any base t v)
  (hW:DataW.Whole enc P f.params.toList s.vars false W args.toList ds gs before) {vt:List TypeId} (hsz:(DataW.weightsEach P (f.params.toList++vt) (ds++gs)).all (· ≤ reachBytes)=true) :
  Calls P fi args W fun e W'=>∃ v,e = .returned v∧s.post enc P f false true false false W args v W':=by
 have hW':=hW
 obtain ⟨p,q,hA,hV,rfl,hfz,hnd⟩:=hW
 rw [hpar] at hA hval hsz
 rw [hvars] at hV
 obtain ⟨v0,d0,hargs,rfl,h0⟩:=trodAll_one hA
 obtain rfl:args = #[v0]:=by cases args;simp_all
 obtain ⟨rfl,rfl⟩:=trodVars_none hV
 simp only [List.append_nil] at hW' hsz
 have h0k:=h0
 obtain ⟨fuel,hr⟩:=h0
 have hwt:∀ x∈d0.weights P t,x≤reachBytes:=by
  intro x hx
  rw [List.all_eq_true] at hsz
  have:=hsz x (by simp only [List.cons_append,List.nil_append,DataW.weightsEach,List.mem_append];exact .inl hx)
  simpa using this
 obtain ⟨dv,k1,k2⟩:=reads ht n t hty fuel _ d0 p hr hwt
 have hlt:∀ x∈p,x.block<W.heap.size:=fun x hx=>by simpa using hW'.lt x hx
 refine (run_of (hcall dv k1) (hmk W base v0 dv (hval 0 t v0 (by simp) (by simp)) k2)).mono ?_
 rintro e W' ⟨rfl,hb⟩
 refine ⟨_,rfl,[d0],[],p,[],p,[],by simpa using hW',?_,?_,?_,kept_below hb _,fun h=>by cases h⟩
 ·rw [List.append_nil,hfn,hres]
  exact trodAll_mk1 (shut_bool hub true)
 ·rw [List.append_nil,hfn,hpar]
  exact trodAll_mk1 (Below.trod laid hrd hrow h0k hb hlt)
 ·rw [hvars,List.append_nil,hfn];rfl
end
theorem map_of {α:Type} {f:α→List DV} {ok:α→Prop}:∀ {xs:List (List DV)},(∀ x∈xs,∃ a,x=f a∧ok a)→∃ l:List α,xs=l.map f∧∀ a∈l,ok a
 | [],_=>⟨[],rfl,by simp⟩
 | x :: r,h=>by
   obtain ⟨a,h1,h2⟩:=h x (by simp)
   obtain ⟨l,h3,h4⟩:=map_of (xs:=r) fun y hy=>h y (by simp [hy])
   exact ⟨a :: l,by simp [h1,h3],fun b hb=>by rcases List.mem_cons.1 hb with rfl|hb;exact h2;exact h4 b hb⟩
end Go.Ab
set_option linter.unusedVariables false
set_option linter.unusedSimpArgs false
namespace Go.Proofs.YtgkhgapkfnkagaaGreatDoor
open Go.Ab Go.RowKit
def ttab:List (Nat×TI):=[
 (3,⟨(.int .i64),(.int .i64 0),1,8,false,false⟩),
 (4,⟨(.bool),(.bool false),1,1,false,false⟩),
 (36,⟨(.slice 3),(.slice none 0 0),1,24,false,false⟩),
 (40,⟨(.struct #[(Field.mk "Header" 38 0 false "" "" 0),(Field.mk "Digest" 3 4 false "" "" 64),(Field.mk "Signers" 36 5 false "" "" 72)]),(.agg #[.int .i64 0,.int .i64 0,.slice none 0 0,.slice none 0 0,.int .i64 0,.slice none 0 0]),6,96,false,false⟩),
 (47,⟨(.slice 40),(.slice none 0 0),1,24,false,false⟩),
 (5,⟨(.int .u8),(.int .u8 0),1,1,false,false⟩),
 (9,⟨(.string),(.string (ByteArray.mk #[])),1,16,false,false⟩),
 (2,⟨(.int .i64),(.int .i64 0),1,8,false,false⟩),
 (12,⟨(.int .u64),(.int .u64 0),1,8,false,false⟩),
 (21,⟨(.int .i32),(.int .i32 0),1,4,false,false⟩),
 (22,⟨(.slice 42),(.slice none 0 0),1,24,false,false⟩),
 (23,⟨(.pointer 59),(.pointer none),1,8,false,false⟩),
 (25,⟨(.pointer 88),(.pointer none),1,8,false,false⟩),
 (26,⟨(.int .i64),(.int .i64 0),1,8,false,false⟩),
 (29,⟨(.pointer 171),(.pointer none),1,8,false,false⟩),
 (33,⟨(.slice 52),(.slice none 0 0),1,24,false,false⟩),
 (34,⟨(.struct #[(Field.mk "Author" 3 0 false "" "" 0),(Field.mk "N" 3 1 false "" "" 8),(Field.mk "Txs" 33 2 false "" "" 16)]),(.agg #[.int .i64 0,.int .i64 0,.slice none 0 0]),3,40,false,false⟩),
 (35,⟨(.struct #[(Field.mk "Author" 3 0 false "" "" 0),(Field.mk "N" 3 1 false "" "" 8),(Field.mk "Txs" 33 2 false "" "" 16)]),(.agg #[.int .i64 0,.int .i64 0,.slice none 0 0]),3,40,false,false⟩),
 (37,⟨(.struct #[(Field.mk "Author" 3 0 false "" "" 0),(Field.mk "Round" 3 1 false "" "" 8),(Field.mk "Batches" 36 2 false "" "" 16),(Field.mk "Parents" 36 3 false "" "" 40)]),(.agg #[.int .i64 0,.int .i64 0,.slice none 0 0,.slice none 0 0]),4,64,false,false⟩),
 (38,⟨(.struct #[(Field.mk "Author" 3 0 false "" "" 0),(Field.mk "Round" 3 1 false "" "" 8),(Field.mk "Batches" 36 2 false "" "" 16),(Field.mk "Parents" 36 3 false "" "" 40)]),(.agg #[.int .i64 0,.int .i64 0,.slice none 0 0,.slice none 0 0]),4,64,false,false⟩),
 (39,⟨(.struct #[(Field.mk "Header" 38 0 false "" "" 0),(Field.mk "Digest" 3 4 false "" "" 64),(Field.mk "Signers" 36 5 false "" "" 72)]),(.agg #[.int .i64 0,.int .i64 0,.slice none 0 0,.slice none 0 0,.int .i64 0,.slice none 0 0]),6,96,false,false⟩),
 (41,⟨(.struct #[(Field.mk "Kind" 3 0 false "" "" 0),(Field.mk "From" 3 1 false "" "" 8),(Field.mk "To" 3 2 false "" "" 16),(Field.mk "Digest" 3 3 false "" "" 24),(Field.mk "Batch" 35 4 false "" "" 32),(Field.mk "Header" 38 7 false "" "" 72),(Field.mk "Cert" 40 11 false "" "" 136),(Field.mk "Digests" 36 17 false "" "" 232)]),(.agg #[.int .i64 0,.int .i64 0,.int .i64 0,.int .i64 0,.int .i64 0,.int .i64 0,.slice none 0 0,.int .i64 0,.int .i64 0,.slice none 0 0,.slice none 0 0,.int .i64 0,.int .i64 0,.slice none 0 0,.slice none 0 0,.int .i64 0,.slice none 0 0,.slice none 0 0]),18,256,false,false⟩),
 (42,⟨(.struct #[(Field.mk "Kind" 3 0 false "" "" 0),(Field.mk "From" 3 1 false "" "" 8),(Field.mk "To" 3 2 false "" "" 16),(Field.mk "Digest" 3 3 false "" "" 24),(Field.mk "Batch" 35 4 false "" "" 32),(Field.mk "Header" 38 7 false "" "" 72),(Field.mk "Cert" 40 11 false "" "" 136),(Field.mk "Digests" 36 17 false "" "" 232)]),(.agg #[.int .i64 0,.int .i64 0,.int .i64 0,.int .i64 0,.int .i64 0,.int .i64 0,.slice none 0 0,.int .i64 0,.int .i64 0,.slice none 0 0,.slice none 0 0,.int .i64 0,.int .i64 0,.slice none 0 0,.slice none 0 0,.int .i64 0,.slice none 0 0,.slice none 0 0]),18,256,false,false⟩),
 (51,⟨(.struct #[(Field.mk "Sender" 3 0 false "" "" 0),(Field.mk "Seq" 3 1 false "" "" 8),(Field.mk "Key" 9 2 false "" "" 16),(Field.mk "Val" 9 3 false "" "" 32)]),(.agg #[.int .i64 0,.int .i64 0,.string (ByteArray.mk #[]),.string (ByteArray.mk #[])]),4,48,false,false⟩),
 (52,⟨(.struct #[(Field.mk "Sender" 3 0 false "" "" 0),(Field.mk "Seq" 3 1 false "" "" 8),(Field.mk "Key" 9 2 false "" "" 16),(Field.mk "Val" 9 3 false "" "" 32)]),(.agg #[.int .i64 0,.int .i64 0,.string (ByteArray.mk #[]),.string (ByteArray.mk #[])]),4,48,false,false⟩),
 (55,⟨(.map 9 3),(.map none),1,8,false,false⟩),
 (56,⟨(.map 234 4),(.map none),1,8,false,false⟩),
 (57,⟨(.slice 172),(.slice none 0 0),1,24,false,false⟩),
 (58,⟨(.struct #[(Field.mk "numbers" 55 0 false "" "drover/book" 0),(Field.mk "things" 57 1 false "" "drover/book" 8),(Field.mk "signs" 56 2 false "" "drover/book" 32)]),(.agg #[.map none,.slice none 0 0,.map none]),3,40,false,false⟩),
 (59,⟨(.struct #[(Field.mk "numbers" 55 0 false "" "drover/book" 0),(Field.mk "things" 57 1 false "" "drover/book" 8),(Field.mk "signs" 56 2 false "" "drover/book" 32)]),(.agg #[.map none,.slice none 0 0,.map none]),3,40,false,false⟩),
 (61,⟨(.pointer 125),(.pointer none),1,8,false,false⟩),
 (62,⟨(.pointer 131),(.pointer none),1,8,false,false⟩),
 (65,⟨(.slice 165),(.slice none 0 0),1,24,false,false⟩),
 (66,⟨(.slice 135),(.slice none 0 0),1,24,false,false⟩),
 (67,⟨(.struct #[(Field.mk "ID" 3 0 false "" "" 0),(Field.mk "Nodes" 3 1 false "" "" 8),(Field.mk "Next" 3 2 false "" "" 16),(Field.mk "Open" 33 3 false "" "" 24),(Field.mk "Age" 3 4 false "" "" 48),(Field.mk "Clock" 3 5 false "" "" 56),(Field.mk "Waits" 65 6 false "" "" 64),(Field.mk "Held" 66 7 false "" "" 88),(Field.mk "Ready" 36 8 false "" "" 112)]),(.agg #[.int .i64 0,.int .i64 0,.int .i64 0,.slice none 0 0,.int .i64 0,.int .i64 0,.slice none 0 0,.slice none 0 0,.slice none 0 0]),9,136,false,false⟩),
 (68,⟨(.struct #[(Field.mk "ID" 3 0 false "" "" 0),(Field.mk "Nodes" 3 1 false "" "" 8),(Field.mk "Next" 3 2 false "" "" 16),(Field.mk "Open" 33 3 false "" "" 24),(Field.mk "Age" 3 4 false "" "" 48),(Field.mk "Clock" 3 5 false "" "" 56),(Field.mk "Waits" 65 6 false "" "" 64),(Field.mk "Held" 66 7 false "" "" 88),(Field.mk "Ready" 36 8 false "" "" 112)]),(.agg #[.int .i64 0,.int .i64 0,.int .i64 0,.slice none 0 0,.int .i64 0,.int .i64 0,.slice none 0 0,.slice none 0 0,.slice none 0 0]),9,136,false,false⟩),
 (69,⟨(.slice 148),(.slice none 0 0),1,24,false,false⟩),
 (70,⟨(.struct #[(Field.mk "Nodes" 3 0 false "" "" 0),(Field.mk "Low" 3 1 false "" "" 8),(Field.mk "Certs" 47 2 false "" "" 16)]),(.agg #[.int .i64 0,.int .i64 0,.slice none 0 0]),3,40,false,false⟩),
 (71,⟨(.struct #[(Field.mk "Nodes" 3 0 false "" "" 0),(Field.mk "Low" 3 1 false "" "" 8),(Field.mk "Certs" 47 2 false "" "" 16)]),(.agg #[.int .i64 0,.int .i64 0,.slice none 0 0]),3,40,false,false⟩),
 (72,⟨(.struct #[(Field.mk "ID" 3 0 false "" "" 0),(Field.mk "Nodes" 3 1 false "" "" 8),(Field.mk "Round" 3 2 false "" "" 16),(Field.mk "Age" 3 3 false "" "" 24),(Field.mk "Said" 3 4 false "" "" 32),(Field.mk "Mine" 38 5 false "" "" 40),(Field.mk "Digest" 3 9 false "" "" 104),(Field.mk "Acks" 36 10 false "" "" 112),(Field.mk "Votes" 69 11 false "" "" 136),(Field.mk "Dag" 71 12 false "" "" 160),(Field.mk "Late" 47 15 false "" "" 200)]),(.agg #[.int .i64 0,.int .i64 0,.int .i64 0,.int .i64 0,.int .i64 0,.int .i64 0,.int .i64 0,.slice none 0 0,.slice none 0 0,.int .i64 0,.slice none 0 0,.slice none 0 0,.int .i64 0,.int .i64 0,.slice none 0 0,.slice none 0 0]),16,224,false,false⟩),
 (73,⟨(.struct #[(Field.mk "ID" 3 0 false "" "" 0),(Field.mk "Nodes" 3 1 false "" "" 8),(Field.mk "Round" 3 2 false "" "" 16),(Field.mk "Age" 3 3 false "" "" 24),(Field.mk "Said" 3 4 false "" "" 32),(Field.mk "Mine" 38 5 false "" "" 40),(Field.mk "Digest" 3 9 false "" "" 104),(Field.mk "Acks" 36 10 false "" "" 112),(Field.mk "Votes" 69 11 false "" "" 136),(Field.mk "Dag" 71 12 false "" "" 160),(Field.mk "Late" 47 15 false "" "" 200)]),(.agg #[.int .i64 0,.int .i64 0,.int .i64 0,.int .i64 0,.int .i64 0,.int .i64 0,.int .i64 0,.slice none 0 0,.slice none 0 0,.int .i64 0,.slice none 0 0,.slice none 0 0,.int .i64 0,.int .i64 0,.slice none 0 0,.slice none 0 0]),16,224,false,false⟩),
 (74,⟨(.slice 223),(.slice none 0 0),1,24,false,false⟩),
 (75,⟨(.struct #[(Field.mk "ID" 3 0 false "" "" 0),(Field.mk "Nodes" 3 1 false "" "" 8),(Field.mk "Rows" 74 2 false "" "" 16)]),(.agg #[.int .i64 0,.int .i64 0,.slice none 0 0]),3,40,false,false⟩),
 (76,⟨(.struct #[(Field.mk "ID" 3 0 false "" "" 0),(Field.mk "Nodes" 3 1 false "" "" 8),(Field.mk "Rows" 74 2 false "" "" 16)]),(.agg #[.int .i64 0,.int .i64 0,.slice none 0 0]),3,40,false,false⟩),
 (77,⟨(.struct #[(Field.mk "Round" 3 0 false "" "" 0),(Field.mk "Done" 36 1 false "" "" 8),(Field.mk "Count" 3 2 false "" "" 32)]),(.agg #[.int .i64 0,.slice none 0 0,.int .i64 0]),3,40,false,false⟩),
 (78,⟨(.struct #[(Field.mk "Round" 3 0 false "" "" 0),(Field.mk "Done" 36 1 false "" "" 8),(Field.mk "Count" 3 2 false "" "" 32)]),(.agg #[.int .i64 0,.slice none 0 0,.int .i64 0]),3,40,false,false⟩),
 (79,⟨(.slice 294),(.slice none 0 0),1,24,false,false⟩),
 (80,⟨(.slice 297),(.slice none 0 0),1,24,false,false⟩),
 (81,⟨(.struct #[(Field.mk "Pairs" 79 0 false "" "" 0),(Field.mk "Accounts" 80 1 false "" "" 24)]),(.agg #[.slice none 0 0,.slice none 0 0]),2,48,false,false⟩),
 (82,⟨(.struct #[(Field.mk "Pairs" 79 0 false "" "" 0),(Field.mk "Accounts" 80 1 false "" "" 24)]),(.agg #[.slice none 0 0,.slice none 0 0]),2,48,false,false⟩),
 (83,⟨(.struct #[(Field.mk "Table" 82 0 false "" "" 0),(Field.mk "Seen" 36 2 false "" "" 48),(Field.mk "Count" 3 3 false "" "" 72)]),(.agg #[.slice none 0 0,.slice none 0 0,.slice none 0 0,.int .i64 0]),4,80,false,false⟩),
 (84,⟨(.struct #[(Field.mk "Table" 82 0 false "" "" 0),(Field.mk "Seen" 36 2 false "" "" 48),(Field.mk "Count" 3 3 false "" "" 72)]),(.agg #[.slice none 0 0,.slice none 0 0,.slice none 0 0,.int .i64 0]),4,80,false,false⟩),
 (85,⟨(.struct #[(Field.mk "w" 68 0 false "" "drover/node" 0),(Field.mk "p" 73 9 false "" "drover/node" 136),(Field.mk "f" 76 25 false "" "drover/node" 360),(Field.mk "c" 78 28 false "" "drover/node" 400),(Field.mk "x" 84 31 false "" "drover/node" 440),(Field.mk "outs" 36 35 false "" "drover/node" 520),(Field.mk "over" 36 36 false "" "drover/node" 544)]),(.agg #[.int .i64 0,.int .i64 0,.int .i64 0,.slice none 0 0,.int .i64 0,.int .i64 0,.slice none 0 0,.slice none 0 0,.slice none 0 0,.int .i64 0,.int .i64 0,.int .i64 0,.int .i64 0,.int .i64 0,.int .i64 0,.int .i64 0,.slice none 0 0,.slice none 0 0,.int .i64 0,.slice none 0 0,.slice none 0 0,.int .i64 0,.int .i64 0,.slice none 0 0,.slice none 0 0,.int .i64 0,.int .i64 0,.slice none 0 0,.int .i64 0,.slice none 0 0,.int .i64 0,.slice none 0 0,.slice none 0 0,.slice none 0 0,.int .i64 0,.slice none 0 0,.slice none 0 0]),37,568,false,false⟩),
 (86,⟨(.struct #[(Field.mk "w" 68 0 false "" "drover/node" 0),(Field.mk "p" 73 9 false "" "drover/node" 136),(Field.mk "f" 76 25 false "" "drover/node" 360),(Field.mk "c" 78 28 false "" "drover/node" 400),(Field.mk "x" 84 31 false "" "drover/node" 440),(Field.mk "outs" 36 35 false "" "drover/node" 520),(Field.mk "over" 36 36 false "" "drover/node" 544)]),(.agg #[.int .i64 0,.int .i64 0,.int .i64 0,.slice none 0 0,.int .i64 0,.int .i64 0,.slice none 0 0,.slice none 0 0,.slice none 0 0,.int .i64 0,.int .i64 0,.int .i64 0,.int .i64 0,.int .i64 0,.int .i64 0,.int .i64 0,.slice none 0 0,.slice none 0 0,.int .i64 0,.slice none 0 0,.slice none 0 0,.int .i64 0,.int .i64 0,.slice none 0 0,.slice none 0 0,.int .i64 0,.int .i64 0,.slice none 0 0,.int .i64 0,.slice none 0 0,.int .i64 0,.slice none 0 0,.slice none 0 0,.slice none 0 0,.int .i64 0,.slice none 0 0,.slice none 0 0]),37,568,false,false⟩),
 (87,⟨(.struct #[(Field.mk "state" 86 0 true "" "drover/node" 0),(Field.mk "id" 3 37 false "" "drover/node" 568),(Field.mk "n" 3 38 false "" "drover/node" 576),(Field.mk "b" 23 39 false "" "drover/node" 584),(Field.mk "s" 61 40 false "" "drover/node" 592),(Field.mk "lost" 4 41 false "" "drover/node" 600)]),(.agg #[.int .i64 0,.int .i64 0,.int .i64 0,.slice none 0 0,.int .i64 0,.int .i64 0,.slice none 0 0,.slice none 0 0,.slice none 0 0,.int .i64 0,.int .i64 0,.int .i64 0,.int .i64 0,.int .i64 0,.int .i64 0,.int .i64 0,.slice none 0 0,.slice none 0 0,.int .i64 0,.slice none 0 0,.slice none 0 0,.int .i64 0,.int .i64 0,.slice none 0 0,.slice none 0 0,.int .i64 0,.int .i64 0,.slice none 0 0,.int .i64 0,.slice none 0 0,.int .i64 0,.slice none 0 0,.slice none 0 0,.slice none 0 0,.int .i64 0,.slice none 0 0,.slice none 0 0,.int .i64 0,.int .i64 0,.pointer none,.pointer none,.bool false]),42,608,false,false⟩),
 (88,⟨(.struct #[(Field.mk "state" 86 0 true "" "drover/node" 0),(Field.mk "id" 3 37 false "" "drover/node" 568),(Field.mk "n" 3 38 false "" "drover/node" 576),(Field.mk "b" 23 39 false "" "drover/node" 584),(Field.mk "s" 61 40 false "" "drover/node" 592),(Field.mk "lost" 4 41 false "" "drover/node" 600)]),(.agg #[.int .i64 0,.int .i64 0,.int .i64 0,.slice none 0 0,.int .i64 0,.int .i64 0,.slice none 0 0,.slice none 0 0,.slice none 0 0,.int .i64 0,.int .i64 0,.int .i64 0,.int .i64 0,.int .i64 0,.int .i64 0,.int .i64 0,.slice none 0 0,.slice none 0 0,.int .i64 0,.slice none 0 0,.slice none 0 0,.int .i64 0,.int .i64 0,.slice none 0 0,.slice none 0 0,.int .i64 0,.int .i64 0,.slice none 0 0,.int .i64 0,.slice none 0 0,.int .i64 0,.slice none 0 0,.slice none 0 0,.slice none 0 0,.int .i64 0,.slice none 0 0,.slice none 0 0,.int .i64 0,.int .i64 0,.pointer none,.pointer none,.bool false]),42,608,false,false⟩),
 (121,⟨(.pointer 209),(.pointer none),1,8,false,false⟩),
 (124,⟨(.struct #[(Field.mk "k" 121 0 false "" "drover/node" 0),(Field.mk "wrote" 4 1 false "" "drover/node" 8)]),(.agg #[.pointer none,.bool false]),2,16,false,false⟩),
 (125,⟨(.struct #[(Field.mk "k" 121 0 false "" "drover/node" 0),(Field.mk "wrote" 4 1 false "" "drover/node" 8)]),(.agg #[.pointer none,.bool false]),2,16,false,false⟩),
 (130,⟨(.struct #[(Field.mk "votes" 69 0 false "" "drover/node" 0),(Field.mk "certs" 47 1 false "" "drover/node" 24),(Field.mk "held" 66 2 false "" "drover/node" 48),(Field.mk "mine" 38 3 false "" "drover/node" 72),(Field.mk "d" 3 7 false "" "drover/node" 136)]),(.agg #[.slice none 0 0,.slice none 0 0,.slice none 0 0,.int .i64 0,.int .i64 0,.slice none 0 0,.slice none 0 0,.int .i64 0]),8,144,false,false⟩),
 (131,⟨(.struct #[(Field.mk "votes" 69 0 false "" "drover/node" 0),(Field.mk "certs" 47 1 false "" "drover/node" 24),(Field.mk "held" 66 2 false "" "drover/node" 48),(Field.mk "mine" 38 3 false "" "drover/node" 72),(Field.mk "d" 3 7 false "" "drover/node" 136)]),(.agg #[.slice none 0 0,.slice none 0 0,.slice none 0 0,.int .i64 0,.int .i64 0,.slice none 0 0,.slice none 0 0,.int .i64 0]),8,144,false,false⟩),
 (134,⟨(.struct #[(Field.mk "Digest" 3 0 false "" "" 0),(Field.mk "Batch" 35 1 false "" "" 8)]),(.agg #[.int .i64 0,.int .i64 0,.int .i64 0,.slice none 0 0]),4,48,false,false⟩),
 (135,⟨(.struct #[(Field.mk "Digest" 3 0 false "" "" 0),(Field.mk "Batch" 35 1 false "" "" 8)]),(.agg #[.int .i64 0,.int .i64 0,.int .i64 0,.slice none 0 0]),4,48,false,false⟩),
 (143,⟨(.complex .f64),(.complex .f64 0 0),1,16,false,false⟩),
 (147,⟨(.struct #[(Field.mk "Round" 3 0 false "" "" 0),(Field.mk "Author" 3 1 false "" "" 8),(Field.mk "Digest" 3 2 false "" "" 16)]),(.agg #[.int .i64 0,.int .i64 0,.int .i64 0]),3,24,false,false⟩),
 (148,⟨(.struct #[(Field.mk "Round" 3 0 false "" "" 0),(Field.mk "Author" 3 1 false "" "" 8),(Field.mk "Digest" 3 2 false "" "" 16)]),(.agg #[.int .i64 0,.int .i64 0,.int .i64 0]),3,24,false,false⟩),
 (163,⟨(.map 3 4),(.map none),1,8,false,false⟩),
 (164,⟨(.struct #[(Field.mk "Digest" 3 0 false "" "" 0),(Field.mk "Acks" 36 1 false "" "" 8)]),(.agg #[.int .i64 0,.slice none 0 0]),2,32,false,false⟩),
 (165,⟨(.struct #[(Field.mk "Digest" 3 0 false "" "" 0),(Field.mk "Acks" 36 1 false "" "" 8)]),(.agg #[.int .i64 0,.slice none 0 0]),2,32,false,false⟩),
 (166,⟨(.slice 174),(.slice none 0 0),1,24,false,false⟩),
 (167,⟨(.map 9 176),(.map none),1,8,false,false⟩),
 (168,⟨(.struct #[(Field.mk "calls" 3 0 false "" "drover/disk" 0),(Field.mk "off" 4 1 false "" "drover/disk" 8),(Field.mk "until" 3 2 false "" "drover/disk" 16)]),(.agg #[.int .i64 0,.bool false,.int .i64 0]),3,24,false,false⟩),
 (169,⟨(.struct #[(Field.mk "calls" 3 0 false "" "drover/disk" 0),(Field.mk "off" 4 1 false "" "drover/disk" 8),(Field.mk "until" 3 2 false "" "drover/disk" 16)]),(.agg #[.int .i64 0,.bool false,.int .i64 0]),3,24,false,false⟩),
 (170,⟨(.struct #[(Field.mk "power" 169 0 true "" "drover/disk" 0),(Field.mk "files" 167 3 false "" "drover/disk" 24)]),(.agg #[.int .i64 0,.bool false,.int .i64 0,.map none]),4,32,false,false⟩),
 (171,⟨(.struct #[(Field.mk "power" 169 0 true "" "drover/disk" 0),(Field.mk "files" 167 3 false "" "drover/disk" 24)]),(.agg #[.int .i64 0,.bool false,.int .i64 0,.map none]),4,32,false,false⟩),
 (172,⟨(.slice 5),(.slice none 0 0),1,24,false,false⟩),
 (173,⟨(.struct #[(Field.mk "Name" 9 0 false "" "" 0),(Field.mk "Data" 172 1 false "" "" 16)]),(.agg #[.string (ByteArray.mk #[]),.slice none 0 0]),2,40,false,false⟩),
 (174,⟨(.struct #[(Field.mk "Name" 9 0 false "" "" 0),(Field.mk "Data" 172 1 false "" "" 16)]),(.agg #[.string (ByteArray.mk #[]),.slice none 0 0]),2,40,false,false⟩),
 (176,⟨(.pointer 179),(.pointer none),1,8,false,false⟩),
 (178,⟨(.struct #[(Field.mk "safe" 172 0 false "" "drover/disk" 0),(Field.mk "seen" 172 1 false "" "drover/disk" 24)]),(.agg #[.slice none 0 0,.slice none 0 0]),2,48,false,false⟩),
 (179,⟨(.struct #[(Field.mk "safe" 172 0 false "" "drover/disk" 0),(Field.mk "seen" 172 1 false "" "drover/disk" 24)]),(.agg #[.slice none 0 0,.slice none 0 0]),2,48,true,false⟩),
 (197,⟨(.int .u64),(.int .u64 0),1,8,false,false⟩),
 (204,⟨(.pointer 299),(.pointer none),1,8,false,false⟩),
 (207,⟨(.map 9 9),(.map none),1,8,false,false⟩),
 (208,⟨(.struct #[(Field.mk "l" 204 0 false "" "drover/keep" 0),(Field.mk "pairs" 207 1 false "" "drover/keep" 8),(Field.mk "size" 3 2 false "" "drover/keep" 16),(Field.mk "dead" 4 3 false "" "drover/keep" 24)]),(.agg #[.pointer none,.map none,.int .i64 0,.bool false]),4,32,false,false⟩),
 (209,⟨(.struct #[(Field.mk "l" 204 0 false "" "drover/keep" 0),(Field.mk "pairs" 207 1 false "" "drover/keep" 8),(Field.mk "size" 3 2 false "" "drover/keep" 16),(Field.mk "dead" 4 3 false "" "drover/keep" 24)]),(.agg #[.pointer none,.map none,.int .i64 0,.bool false]),4,32,false,false⟩),
 (210,⟨(.slice 9),(.slice none 0 0),1,24,false,false⟩),
 (222,⟨(.struct #[(Field.mk "Kind" 3 0 false "" "" 0),(Field.mk "Digest" 3 1 false "" "" 8),(Field.mk "Age" 3 2 false "" "" 16),(Field.mk "Tries" 3 3 false "" "" 24)]),(.agg #[.int .i64 0,.int .i64 0,.int .i64 0,.int .i64 0]),4,32,false,false⟩),
 (223,⟨(.struct #[(Field.mk "Kind" 3 0 false "" "" 0),(Field.mk "Digest" 3 1 false "" "" 8),(Field.mk "Age" 3 2 false "" "" 16),(Field.mk "Tries" 3 3 false "" "" 24)]),(.agg #[.int .i64 0,.int .i64 0,.int .i64 0,.int .i64 0]),4,32,false,false⟩),
 (233,⟨(.struct #[(Field.mk "who" 3 0 false "" "drover/book" 0),(Field.mk "d" 3 1 false "" "drover/book" 8)]),(.agg #[.int .i64 0,.int .i64 0]),2,16,false,false⟩),
 (234,⟨(.struct #[(Field.mk "who" 3 0 false "" "drover/book" 0),(Field.mk "d" 3 1 false "" "drover/book" 8)]),(.agg #[.int .i64 0,.int .i64 0]),2,16,false,false⟩),
 (241,⟨(.pointer 243),(.pointer none),1,8,false,false⟩),
 (242,⟨(.struct #[(Field.mk "Primary" 73 0 true "" "" 0),(Field.mk "out" 22 16 false "" "drover/primary" 224)]),(.agg #[.int .i64 0,.int .i64 0,.int .i64 0,.int .i64 0,.int .i64 0,.int .i64 0,.int .i64 0,.slice none 0 0,.slice none 0 0,.int .i64 0,.slice none 0 0,.slice none 0 0,.int .i64 0,.int .i64 0,.slice none 0 0,.slice none 0 0,.slice none 0 0]),17,248,false,false⟩),
 (243,⟨(.struct #[(Field.mk "Primary" 73 0 true "" "" 0),(Field.mk "out" 22 16 false "" "drover/primary" 224)]),(.agg #[.int .i64 0,.int .i64 0,.int .i64 0,.int .i64 0,.int .i64 0,.int .i64 0,.int .i64 0,.slice none 0 0,.slice none 0 0,.int .i64 0,.slice none 0 0,.slice none 0 0,.int .i64 0,.int .i64 0,.slice none 0 0,.slice none 0 0,.slice none 0 0]),17,248,false,false⟩),
 (244,⟨(.pointer 246),(.pointer none),1,8,false,false⟩),
 (245,⟨(.struct #[(Field.mk "d" 71 0 false "" "drover/cursor" 0),(Field.mk "c" 78 3 false "" "drover/cursor" 40),(Field.mk "outs" 36 6 false "" "drover/cursor" 80)]),(.agg #[.int .i64 0,.int .i64 0,.slice none 0 0,.int .i64 0,.slice none 0 0,.int .i64 0,.slice none 0 0]),7,104,false,false⟩),
 (246,⟨(.struct #[(Field.mk "d" 71 0 false "" "drover/cursor" 0),(Field.mk "c" 78 3 false "" "drover/cursor" 40),(Field.mk "outs" 36 6 false "" "drover/cursor" 80)]),(.agg #[.int .i64 0,.int .i64 0,.slice none 0 0,.int .i64 0,.slice none 0 0,.int .i64 0,.slice none 0 0]),7,104,false,false⟩),
 (251,⟨(.slice 36),(.slice none 0 0),1,24,false,false⟩),
 (255,⟨(.pointer 82),(.pointer none),1,8,false,false⟩),
 (262,⟨(.pointer 264),(.pointer none),1,8,false,false⟩),
 (263,⟨(.struct #[(Field.mk "Worker" 68 0 true "" "" 0),(Field.mk "out" 22 9 false "" "drover/worker" 136)]),(.agg #[.int .i64 0,.int .i64 0,.int .i64 0,.slice none 0 0,.int .i64 0,.int .i64 0,.slice none 0 0,.slice none 0 0,.slice none 0 0,.slice none 0 0]),10,160,false,false⟩),
 (264,⟨(.struct #[(Field.mk "Worker" 68 0 true "" "" 0),(Field.mk "out" 22 9 false "" "drover/worker" 136)]),(.agg #[.int .i64 0,.int .i64 0,.int .i64 0,.slice none 0 0,.int .i64 0,.int .i64 0,.slice none 0 0,.slice none 0 0,.slice none 0 0,.slice none 0 0]),10,160,false,false⟩),
 (273,⟨(.int .i64),(.int .i64 0),1,8,false,false⟩),
 (280,⟨(.int .u32),(.int .u32 0),1,4,false,false⟩),
 (282,⟨(.int .u64),(.int .u64 0),1,8,false,false⟩),
 (288,⟨(.pointer 223),(.pointer none),1,8,false,false⟩),
 (290,⟨(.slice 22),(.slice none 0 0),1,24,false,false⟩),
 (293,⟨(.struct #[(Field.mk "Key" 9 0 false "" "" 0),(Field.mk "Val" 9 1 false "" "" 16)]),(.agg #[.string (ByteArray.mk #[]),.string (ByteArray.mk #[])]),2,32,false,false⟩),
 (294,⟨(.struct #[(Field.mk "Key" 9 0 false "" "" 0),(Field.mk "Val" 9 1 false "" "" 16)]),(.agg #[.string (ByteArray.mk #[]),.string (ByteArray.mk #[])]),2,32,false,false⟩),
 (296,⟨(.struct #[(Field.mk "Sender" 3 0 false "" "" 0),(Field.mk "Seq" 3 1 false "" "" 8)]),(.agg #[.int .i64 0,.int .i64 0]),2,16,false,false⟩),
 (297,⟨(.struct #[(Field.mk "Sender" 3 0 false "" "" 0),(Field.mk "Seq" 3 1 false "" "" 8)]),(.agg #[.int .i64 0,.int .i64 0]),2,16,false,false⟩),
 (298,⟨(.struct #[(Field.mk "d" 29 0 false "" "drover/log" 0),(Field.mk "l" 210 1 false "" "drover/log" 8),(Field.mk "size" 3 2 false "" "drover/log" 32),(Field.mk "file" 4 3 false "" "drover/log" 40),(Field.mk "dead" 4 4 false "" "drover/log" 41)]),(.agg #[.pointer none,.slice none 0 0,.int .i64 0,.bool false,.bool false]),5,48,false,false⟩),
 (299,⟨(.struct #[(Field.mk "d" 29 0 false "" "drover/log" 0),(Field.mk "l" 210 1 false "" "drover/log" 8),(Field.mk "size" 3 2 false "" "drover/log" 32),(Field.mk "file" 4 3 false "" "drover/log" 40),(Field.mk "dead" 4 4 false "" "drover/log" 41)]),(.agg #[.pointer none,.slice none 0 0,.int .i64 0,.bool false,.bool false]),5,48,false,false⟩),
 (316,⟨(.map 3 3),(.map none),1,8,false,false⟩),
 (321,⟨(.float .f64),(.float .f64 0),1,8,false,false⟩),
 (331,⟨(.map 148 4),(.map none),1,8,false,false⟩),
 (370,⟨(.int .u64),(.int .u64 0),1,8,false,false⟩),
 (374,⟨(.pointer 3),(.pointer none),1,8,false,false⟩),
 (432,⟨(.array 17 4),(.agg #[.bool false,.bool false,.bool false,.bool false,.bool false,.bool false,.bool false,.bool false,.bool false,.bool false,.bool false,.bool false,.bool false,.bool false,.bool false,.bool false,.bool false]),17,17,false,false⟩),
 (438,⟨(.pointer 370),(.pointer none),1,8,false,false⟩),
 (451,⟨(.pointer 495),(.pointer none),1,8,false,false⟩),
 (452,⟨(.slice 374),(.slice none 0 0),1,24,false,false⟩),
 (494,⟨(.struct #[(Field.mk "b" 172 0 false "" "drover/wire" 0),(Field.mk "bad" 4 1 false "" "drover/wire" 24)]),(.agg #[.slice none 0 0,.bool false]),2,32,false,false⟩),
 (495,⟨(.struct #[(Field.mk "b" 172 0 false "" "drover/wire" 0),(Field.mk "bad" 4 1 false "" "drover/wire" 24)]),(.agg #[.slice none 0 0,.bool false]),2,32,false,false⟩),
 (496,⟨(.int .i64),(.int .i64 0),1,8,false,false⟩),
 (499,⟨(.pointer 523),(.pointer none),1,8,false,false⟩),
 (516,⟨(.pointer 169),(.pointer none),1,8,false,false⟩),
 (522,⟨(.struct #[(Field.mk "Func" 9 0 false "" "" 0),(Field.mk "Num" 9 1 false "" "" 16),(Field.mk "Err" 396 2 false "" "" 32)]),(.agg #[.string (ByteArray.mk #[]),.string (ByteArray.mk #[]),.nilIface]),3,48,false,false⟩),
 (523,⟨(.struct #[(Field.mk "Func" 9 0 false "" "" 0),(Field.mk "Num" 9 1 false "" "" 16),(Field.mk "Err" 396 2 false "" "" 32)]),(.agg #[.string (ByteArray.mk #[]),.string (ByteArray.mk #[]),.nilIface]),3,48,false,false⟩),
 (537,⟨(.pointer 5),(.pointer none),1,8,false,false⟩),
 (538,⟨(.pointer 540),(.pointer none),1,8,false,false⟩),
 (539,⟨(.struct #[(Field.mk "s" 9 0 false "" "errors" 0)]),(.agg #[.string (ByteArray.mk #[])]),1,16,false,false⟩),
 (540,⟨(.struct #[(Field.mk "s" 9 0 false "" "errors" 0)]),(.agg #[.string (ByteArray.mk #[])]),1,16,false,false⟩)]
noncomputable def tt:TypeId→Option TI:=tget ttab
theorem ttOk:TTok Tryz.prog tt:=TTok_of (by
 unfold ttab ttAll;refine ⟨⟨by kernel_rfl,by kernel_rfl⟩,⟨by kernel_rfl,by kernel_rfl⟩,⟨by kernel_rfl,by kernel_rfl⟩,⟨by kernel_rfl,by kernel_rfl⟩,⟨by kernel_rfl,by kernel_rfl⟩,⟨by kernel_rfl,by kernel_rfl⟩,⟨by kernel_rfl,by kernel_rfl⟩,⟨by kernel_rfl,by kernel_rfl⟩,⟨by kernel_rfl,by kernel_rfl⟩,⟨by kernel_rfl,by kernel_rfl⟩,⟨by kernel_rfl,by kernel_rfl⟩,⟨by kernel_rfl,by kernel_rfl⟩,⟨by kernel_rfl,by kernel_rfl⟩,⟨by kernel_rfl,by kernel_rfl⟩,⟨by kernel_rfl,by kernel_rfl⟩,⟨by kernel_rfl,by kernel_rfl⟩,⟨by kernel_rfl,by kernel_rfl⟩,⟨by kernel_rfl,by kernel_rfl⟩,⟨by kernel_rfl,by kernel_rfl⟩,⟨by kernel_rfl,by kernel_rfl⟩,⟨by kernel_rfl,by kernel_rfl⟩,⟨by kernel_rfl,by kernel_rfl⟩,⟨by kernel_rfl,by kernel_rfl⟩,⟨by kernel_rfl,by kernel_rfl⟩,⟨by kernel_rfl,by kernel_rfl⟩,⟨by kernel_rfl,by kernel_rfl⟩,⟨by kernel_rfl,by kernel_rfl⟩,⟨by kernel_rfl,by kernel_rfl⟩,⟨by kernel_rfl,by kernel_rfl⟩,⟨by kernel_rfl,by kernel_rfl⟩,⟨by kernel_rfl,by kernel_rfl⟩,⟨by kernel_rfl,by kernel_rfl⟩,⟨by kernel_rfl,by kernel_rfl⟩,⟨by kernel_rfl,by kernel_rfl⟩,⟨by kernel_rfl,by kernel_rfl⟩,⟨by kernel_rfl,by kernel_rfl⟩,⟨by kernel_rfl,by kernel_rfl⟩,⟨by kernel_rfl,by kernel_rfl⟩,⟨by kernel_rfl,by kernel_rfl⟩,⟨by kernel_rfl,by kernel_rfl⟩,⟨by kernel_rfl,by kernel_rfl⟩,⟨by kernel_rfl,by kernel_rfl⟩,⟨by kernel_rfl,by kernel_rfl⟩,⟨by kernel_rfl,by kernel_rfl⟩,⟨by kernel_rfl,by kernel_rfl⟩,⟨by kernel_rfl,by kernel_rfl⟩,⟨by kernel_rfl,by kernel_rfl⟩,⟨by kernel_rfl,by kernel_rfl⟩,⟨by kernel_rfl,by kernel_rfl⟩,⟨by kernel_rfl,by kernel_rfl⟩,⟨by kernel_rfl,by kernel_rfl⟩,⟨by kernel_rfl,by kernel_rfl⟩,⟨by kernel_rfl,by kernel_rfl⟩,⟨by kernel_rfl,by kernel_rfl⟩,⟨by kernel_rfl,by kernel_rfl⟩,⟨by kernel_rfl,by kernel_rfl⟩,⟨by kernel_rfl,by kernel_rfl⟩,⟨by kernel_rfl,by kernel_rfl⟩,⟨by kernel_rfl,by kernel_rfl⟩,⟨by kernel_rfl,by kernel_rfl⟩,⟨by kernel_rfl,by kernel_rfl⟩,⟨by kernel_rfl,by kernel_rfl⟩,⟨by kernel_rfl,by kernel_rfl⟩,⟨by kernel_rfl,by kernel_rfl⟩,⟨by kernel_rfl,by kernel_rfl⟩,⟨by kernel_rfl,by kernel_rfl⟩,⟨by kernel_rfl,by kernel_rfl⟩,⟨by kernel_rfl,by kernel_rfl⟩,⟨by kernel_rfl,by kernel_rfl⟩,⟨by kernel_rfl,by kernel_rfl⟩,⟨by kernel_rfl,by kernel_rfl⟩,⟨by kernel_rfl,by kernel_rfl⟩,⟨by kernel_rfl,by kernel_rfl⟩,⟨by kernel_rfl,by kernel_rfl⟩,⟨by kernel_rfl,by kernel_rfl⟩,⟨by kernel_rfl,by kernel_rfl⟩,⟨by kernel_rfl,by kernel_rfl⟩,⟨by kernel_rfl,by kernel_rfl⟩,⟨by kernel_rfl,by kernel_rfl⟩,⟨by kernel_rfl,by kernel_rfl⟩,⟨by kernel_rfl,by kernel_rfl⟩,⟨by kernel_rfl,by kernel_rfl⟩,⟨by kernel_rfl,by kernel_rfl⟩,⟨by kernel_rfl,by kernel_rfl⟩,⟨by kernel_rfl,by kernel_rfl⟩,⟨by kernel_rfl,by kernel_rfl⟩,⟨by kernel_rfl,by kernel_rfl⟩,⟨by kernel_rfl,by kernel_rfl⟩,⟨by kernel_rfl,by kernel_rfl⟩,⟨by kernel_rfl,by kernel_rfl⟩,⟨by kernel_rfl,by kernel_rfl⟩,⟨by kernel_rfl,by kernel_rfl⟩,⟨by kernel_rfl,by kernel_rfl⟩,⟨by kernel_rfl,by kernel_rfl⟩,⟨by kernel_rfl,by kernel_rfl⟩,⟨by kernel_rfl,by kernel_rfl⟩,⟨by kernel_rfl,by kernel_rfl⟩,⟨by kernel_rfl,by kernel_rfl⟩,⟨by kernel_rfl,by kernel_rfl⟩,⟨by kernel_rfl,by kernel_rfl⟩,⟨by kernel_rfl,by kernel_rfl⟩,⟨by kernel_rfl,by kernel_rfl⟩,⟨by kernel_rfl,by kernel_rfl⟩,⟨by kernel_rfl,by kernel_rfl⟩,⟨by kernel_rfl,by kernel_rfl⟩,⟨by kernel_rfl,by kernel_rfl⟩,⟨by kernel_rfl,by kernel_rfl⟩,⟨by kernel_rfl,by kernel_rfl⟩,⟨by kernel_rfl,by kernel_rfl⟩,⟨by kernel_rfl,by kernel_rfl⟩,⟨by kernel_rfl,by kernel_rfl⟩,⟨by kernel_rfl,by kernel_rfl⟩,⟨by kernel_rfl,by kernel_rfl⟩,⟨by kernel_rfl,by kernel_rfl⟩,⟨by kernel_rfl,by kernel_rfl⟩,⟨by kernel_rfl,by kernel_rfl⟩,⟨by kernel_rfl,by kernel_rfl⟩,⟨by kernel_rfl,by kernel_rfl⟩,⟨by kernel_rfl,by kernel_rfl⟩,⟨by kernel_rfl,by kernel_rfl⟩,⟨by kernel_rfl,by kernel_rfl⟩,⟨by kernel_rfl,by kernel_rfl⟩,⟨by kernel_rfl,by kernel_rfl⟩,⟨by kernel_rfl,by kernel_rfl⟩,⟨by kernel_rfl,by kernel_rfl⟩,⟨by kernel_rfl,by kernel_rfl⟩,⟨by kernel_rfl,by kernel_rfl⟩,⟨by kernel_rfl,by kernel_rfl⟩,⟨by kernel_rfl,by kernel_rfl⟩,⟨by kernel_rfl,by kernel_rfl⟩,⟨by kernel_rfl,by kernel_rfl⟩,⟨by kernel_rfl,by kernel_rfl⟩,⟨by kernel_rfl,by kernel_rfl⟩,trivial⟩) (by kernel_rfl)
theorem zOk:ZOok tt:=ZOok_of (by kernel_rfl)
def ftab:List Nat:=[3,4,5,6,7,8,9,10,11,12,13,14,15,16,17,18,19,20,21,22,23,24,25,26,27,28,29,30,31,32,33,34,35,36,37,38,39,40,41,42,43,44,45,46,47,48,49,50,51,52,53,54,55,56,57,58,59,60,61,62,63,64,65,66,67,68,69,70,71,72,73,74,75,76,77,78,79,80,81,82,83,84,85,86,87,88,89,90,91,92,93,94,95,96,97,98,99,100,101,102,103,104,105,106,107,108,109,110,111,112,113,114,115,116,117,118,119,120,121,122,123,124,125,126,127,128,129,130,131,132,133,134,135,136,137,138,139,140,141,142,143,144,145,146,147,148,149,150,151,152,153,154,155,156,157,158,159,160,161,162,163,164,165,166,167,168,169,170,171,172,173,174,175,176,177,178,179,180,181,182,183,184,185,186,187,188,189,190,191,192,193,194,195,196,197,198,199,200,201,202,203,204,205,206,207,208,209,210,211,212,213,214,215,216,217,218,219,220,221,222,223,224,225,226,227,228,229,230,231,233,234,235,236,238,239,240,241,242,243,244,245,246,247,248,249,250,251,252,253,254,255,256,257,258,259,260,261,262,263,264,265,266,267,268,269,270,271,272,273,274,275,276,277,278,279,280,281,282,283,284,285,286,287,288,289,290,291,292,293,294,295,296,297,298,299,300,301,302,303,304,305,306,307,308,309,310,311,312,313,314,315,316,317,318,319,320,321,322,323,324,325,326,327,328,329,330,331,332,333,334,335,336,337,338,339,340,341,342,343,344,345,346,347,348,349,350,351,352,353,354,355,356,358,359,360,362,363,364,365,366,367,368,369,370,371,372,373,374,375,376,377,378,379,380,381,382,383,384,385,386,387,388,389,390,391,392,393,394,395,396,397,398,399,400,401,402,403,404,405,406,408,410,411,413,414,415,416,417,418,419,420,421,422,423,424,425,426,427,428,429,430,431,432,433,434,435,436,437,438,439,440,441,442,443,444,445,446,447,448,449,450,451,452,454,455,456,457,458,459,460,461,462,463,464,465,466,467,468,469,470,471,472,473,475,476,477,478,479,480,481,482,483,484,485,486,487,488,489,490,491,492,493,494,495,496,497,526]
noncomputable def fo:FuncId→Bool:=fun g=>memB g ftab
theorem foOk:FOok Tryz.prog fo:=FOok_of (by kernel_rfl)
end Go.Proofs.YtgkhgapkfnkagaaGreatDoor
