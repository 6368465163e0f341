/- NodeFormsCard: abstract runs. -/
import Derived.WalkKit
set_option linter.unusedVariables false
set_option linter.unusedSimpArgs false
namespace Go.Ab
def gszT:List (Nat×Nat):=[(3,1),(4,1),(36,1),(40,6),(47,1),(5,1),(9,1),(2,1),(12,1),(21,1),(22,1),(23,1),(25,1),(26,1),(29,1),(33,1),(34,3),(35,3),(37,4),(38,4),(39,6),(41,18),(42,18),(51,4),(52,4),(55,1),(56,1),(57,1),(58,3),(59,3),(61,1),(62,1),(65,1),(66,1),(67,9),(68,9),(69,1),(70,3),(71,3),(72,16),(73,16),(74,1),(75,3),(76,3),(77,3),(78,3),(79,1),(80,1),(81,2),(82,2),(83,4),(84,4),(85,37),(86,37),(87,42),(88,42),(121,1),(124,2),(125,2),(130,8),(131,8),(134,4),(135,4),(143,1),(147,3),(148,3),(163,1),(164,2),(165,2),(166,1),(167,1),(168,3),(169,3),(170,4),(171,4),(172,1),(173,2),(174,2),(176,1),(178,2),(179,2),(197,1),(204,1),(207,1),(208,4),(209,4),(210,1),(222,4),(223,4),(233,2),(234,2),(241,1),(242,17),(243,17),(244,1),(245,7),(246,7),(251,1),(255,1),(262,1),(263,10),(264,10),(273,1),(280,1),(282,1),(288,1),(290,1),(293,2),(294,2),(296,2),(297,2),(298,5),(299,5),(316,1),(321,1),(331,1),(370,1),(374,1),(432,17),(438,1),(451,1),(452,1),(494,2),(495,2),(496,1),(499,1),(516,1),(522,3),(523,3),(537,1),(538,1),(539,1),(540,1)]
noncomputable def gsz (t:TypeId):Nat:=List.rec (motive:=fun _=>Nat) 0 (fun p _ ih=>bif Nat.beq p.1 t then p.2 else ih) gszT
inductive Sh where
 | int
 | str
 | u8
 | sl (n:Nat)
def gsh (m:Nat):List Sh:=match m with
 | 1=>[.int]
 | 3=>[.int,.int,.int]
 | 4=>[.int,.int,.str,.str]
 | 6=>[.int,.int,.sl 1,.sl 1,.int,.sl 1]
 | 18=>[.int,.int,.int,.int,.int,.int,.sl 4,.int,.int,.sl 1,.sl 1,.int,.int,.sl 1,.sl 1,.int,.sl 1,.sl 1]
 | _=>[]
end Go.Ab
namespace Go.Ab
open Go.RowKit
inductive DV where
 | int (k:IntKind) (n:Int)
 | bool (b:Bool)
 | str (s:ByteArray)
 | flt (k:FloatKind) (bits:Nat)
 | cplx (k:FloatKind) (re im:Nat)
 | nils
 | sl (n:Nat) (xs:List (List DV))
 /-- a slice that is only read: nothing is said of the block behind it -/
 | slo (n:Nat) (xs:List (List DV))
 /-- a slice that is only read and was there ahead of the call -/
 | slq (n:Nat) (xs:List (List DV))
 | nilp
 | nilm
 | nilf
 | any
inductive AV where
 | d (x:DV)
 | arr (i:Nat)
 | ptr (i off:Nat)
 | ap (i j off:Nat)
 | im (cs:List DV) (off:Nat)
 | map (i:Nat)
 | mp (i b off:Nat)
 | agg (cs:List AV)
 | tup (vs:List AV)
 | fn (f:FuncId) (caps:List AV)
 | sub (i h:Nat)
 /-- a slice whose blocks are all of an isle -/
 | isl (i:Nat) (x:DV)
structure RC where
 rd:Addr→Value→Prop
 pt:Nat→Nat→Prop
 ar:Nat→Value→Prop
 ap:Nat→Nat→Nat→Value→Prop
 is:Nat→DV→Value→Prop
def Cs {α:Type} (r:α→Value→Prop):List α→List Value→Prop
 | [],us=>us=[]
 | c :: l,us=>∃ u us',us=u :: us'∧u.oneCell'=true∧r c u∧Cs r l us'
mutual
def VD (rd:Addr→Value→Prop):DV→Value→Prop
 | .int k n,v=>v = .int k n
 | .bool b,v=>v = .bool b
 | .str s,v=>v = .string s
 | .flt k b,v=>v = .float k b
 | .cplx k x y,v=>v = .complex k x y
 | .nils,v=>v = .slice none 0 0
 | .sl n xs,v=>0<n∧∃ a cap,v = .slice a xs.length cap∧xs.length≤cap∧cap≤maxLen∧(a=none→cap=0)∧∀ a',a=some a'→(xs=[]∨a'.spot=none)∧(0<cap→rd ⟨a'.block,a'.off,some n⟩ (.slice (some a') 0 cap))∧VDE rd n xs a'
 | .slo n xs,v=>0<n∧∃ a cap,v = .slice a xs.length cap∧xs.length≤cap∧cap≤maxLen∧(a=none→cap=0)∧∀ a',a=some a'→(xs=[]∨a'.spot=none)∧VDE rd n xs a'
 | .slq n xs,v=>0<n∧∃ a cap,v = .slice a xs.length cap∧xs.length≤cap∧cap≤maxLen∧(a=none→cap=0)∧∀ a',a=some a'→(xs=[]∨a'.spot=none)∧(0<cap→rd ⟨a'.block,a'.off,some 0⟩ (.slice (some a') n cap))∧(xs=[]∨rd ⟨a'.block,a'.off,some 0⟩ (.int .i64 0))∧VDE rd n xs a'
 | .nilp,v=>v = .pointer none
 | .nilm,v=>v = .map none
 | .nilf,v=>v = .nilFunc
 | .any,_=>True
def VDE (rd:Addr→Value→Prop) (n:Nat):List (List DV)→Addr→Prop
 | [],_=>True
 | cs :: r,a=>cs.length=n∧VDC rd cs a∧VDE rd n r ⟨a.block,a.off+n,none⟩
def VDC (rd:Addr→Value→Prop):List DV→Addr→Prop
 | [],_=>True
 | c :: r,a=>(∃ u,rd a u∧u.oneCell'=true∧VD rd c u)∧VDC rd r ⟨a.block,a.off+1,none⟩
end
mutual
def VR (R:RC):AV→Value→Prop
 | .d x,v=>VD R.rd x v
 | .arr i,v=>R.ar i v
 | .ptr i off,v=>∃ b,R.pt i b∧v = .pointer (some ⟨b,off,none⟩)
 | .ap i j off,v=>R.ap i j off v
 | .im cs off,v=>∃ a:Addr,v = .pointer (some ⟨a.block,a.off+off,none⟩)∧a.spot=none∧off≤cs.length∧VDC R.rd cs a
 | .map i,v=>∃ b,R.pt i b∧v = .map (some b)
 | .mp _ b off,v=>v = .pointer (some ⟨b,off,none⟩)
 | .agg cs,v=>∃ us:Array Value,v = .agg us∧VRs R cs us.toList
 | .tup cs,v=>∃ us:Array Value,v = .tuple us∧VRt R cs us.toList
 | .fn f cs,v=>∃ us:Array Value,v = .func (.func f) #[] us∧VRt R cs us.toList
 | .sub i h,v=>∃ p cap,v = .slice p h cap∧h≤cap∧cap≤maxLen∧R.ap i 0 0 (.pointer p)
 | .isl i x,v=>R.is i x v∧v.oneCell'=true
def VRs (R:RC):List AV→List Value→Prop
 | [],us=>us=[]
 | c :: r,us=>∃ u us',us=u :: us'∧u.oneCell'=true∧VR R c u∧VRs R r us'
def VRt (R:RC):List AV→List Value→Prop
 | [],us=>us=[]
 | c :: r,us=>∃ u us',us=u :: us'∧VR R c u∧VRt R r us'
end
def VDs (rd:Addr→Value→Prop):List DV→List Value→Prop:=Cs (VD rd)
theorem VRs_cs {R:RC}:∀ {xs:List AV} {us:List Value},VRs R xs us↔Cs (VR R) xs us
 | [],us=>by simp [VRs,Cs]
 | x :: xs,us=>by simp only [VRs,Cs];constructor<;>(rintro ⟨u,us',h1,h2,h3,h4⟩;exact ⟨u,us',h1,h2,h3,by first|exact VRs_cs.1 h4|exact VRs_cs.2 h4⟩)
structure RC.le (R R':RC):Prop where
 rd:∀ a u,R.rd a u→R'.rd a u
 pt:∀ i b,R.pt i b→R'.pt i b
 ar:∀ i v,R.ar i v→R'.ar i v
 ap:∀ i j o v,R.ap i j o v→R'.ap i j o v
 is:∀ i x v,R.is i x v→R'.is i x v
theorem RC.le.refl (R:RC):R.le R:=⟨fun _ _ h=>h,fun _ _ h=>h,fun _ _ h=>h,fun _ _ _ _ h=>h,fun _ _ _ h=>h⟩
theorem RC.le.trans {R R' R'':RC} (h:R.le R') (k:R'.le R''):R.le R'' :=
 ⟨fun _ _ x=>k.rd _ _ (h.rd _ _ x),fun _ _ x=>k.pt _ _ (h.pt _ _ x),fun _ _ x=>k.ar _ _ (h.ar _ _ x),fun _ _ _ _ x=>k.ap _ _ _ _ (h.ap _ _ _ _ x),fun _ _ _ x=>k.is _ _ _ (h.is _ _ _ x)⟩
mutual
theorem VD.mono {rd rd':Addr→Value→Prop} (h:∀ a u,rd a u→rd' a u):∀ (c:DV) (v:Value),VD rd c v→VD rd' c v
 | .int k n,v,x=>by simpa [VD] using x
 | .bool b,v,x=>by simpa [VD] using x
 | .str b,v,x=>by simpa [VD] using x
 | .flt k b,v,x=>by simpa [VD] using x
 | .cplx _ _ _,v,x=>by simpa [VD] using x
 | .nils,v,x=>by simpa [VD] using x
 | .sl n xs,v,x=>by
   simp only [VD] at x ⊢
   obtain ⟨hn,a,cap,h1,h2,h3,h4,h5⟩:=x
   exact ⟨hn,a,cap,h1,h2,h3,h4,fun a' ha=>⟨(h5 a' ha).1,fun hc=>h _ _ ((h5 a' ha).2.1 hc),VDE.mono h n xs a' (h5 a' ha).2.2⟩⟩
 | .slo n xs,v,x=>by
   simp only [VD] at x ⊢
   obtain ⟨hn,a,cap,h1,h2,h3,h4,h5⟩:=x
   exact ⟨hn,a,cap,h1,h2,h3,h4,fun a' ha=>⟨(h5 a' ha).1,VDE.mono h n xs a' (h5 a' ha).2⟩⟩
 | .slq n xs,v,x=>by
   simp only [VD] at x ⊢
   obtain ⟨hn,a,cap,h1,h2,h3,h4,h5⟩:=x
   exact ⟨hn,a,cap,h1,h2,h3,h4,fun a' ha=>⟨(h5 a' ha).1,fun hc=>h _ _ ((h5 a' ha).2.1 hc),(h5 a' ha).2.2.1.imp_right (h _ _),VDE.mono h n xs a' (h5 a' ha).2.2.2⟩⟩
 | .nilp,v,x=>by simpa [VD] using x
 | .nilm,v,x=>by simpa [VD] using x
 | .nilf,v,x=>by simpa [VD] using x
 | .any,v,x=>by simp [VD]
theorem VDE.mono {rd rd':Addr→Value→Prop} (h:∀ a u,rd a u→rd' a u) (n:Nat):∀ (xs:List (List DV)) (a:Addr),VDE rd n xs a→VDE rd' n xs a
 | [],a,_=>by simp [VDE]
 | cs :: r,a,x=>by
   simp only [VDE] at x ⊢
   exact ⟨x.1,VDC.mono h cs a x.2.1,VDE.mono h n r _ x.2.2⟩
theorem VDC.mono {rd rd':Addr→Value→Prop} (h:∀ a u,rd a u→rd' a u):∀ (xs:List DV) (a:Addr),VDC rd xs a→VDC rd' xs a
 | [],a,_=>by simp [VDC]
 | c :: r,a,x=>by
   simp only [VDC] at x ⊢
   obtain ⟨⟨u,h1,h0,h2⟩,h3⟩:=x
   exact ⟨⟨u,h _ _ h1,h0,VD.mono h c u h2⟩,VDC.mono h r _ h3⟩
end
theorem VD_slo {R:RC} {n:Nat} {xs:List (List DV)} {v:Value} (h:VR R (.d (.sl n xs)) v):VR R (.d (.slo n xs)) v:=by
 simp only [VR,VD] at h ⊢
 obtain ⟨hn,a,cap,h1,h2,h3,h4,h5⟩:=h
 exact ⟨hn,a,cap,h1,h2,h3,h4,fun a' ha=>⟨(h5 a' ha).1,(h5 a' ha).2.2⟩⟩
theorem Cs.mono {α:Type} {r r':α→Value→Prop} (h:∀ x v,r x v→r' x v):∀ {xs:List α} {us:List Value},Cs r xs us→Cs r' xs us
 | [],us,x=>by simpa [Cs] using x
 | c :: l,us,x=>by
   simp only [Cs] at x ⊢
   obtain ⟨u,us',h1,h2,h3,h4⟩:=x
   exact ⟨u,us',h1,h2,h _ _ h3,Cs.mono h h4⟩
theorem VDs.mono {rd rd':Addr→Value→Prop} (h:∀ a u,rd a u→rd' a u) {xs:List DV} {us:List Value} (k:VDs rd xs us):VDs rd' xs us:=Cs.mono (fun x v=>VD.mono h x v) k
mutual
theorem VR.mono {R R':RC} (h:R.le R'):∀ (c:AV) (v:Value),VR R c v→VR R' c v
 | .d x,v,k=>by simp only [VR] at k ⊢;exact VD.mono h.rd x v k
 | .arr i,v,x=>by simp only [VR] at x ⊢;exact h.ar _ _ x
 | .ptr i off,v,x=>by simp only [VR] at x ⊢;obtain ⟨b,h1,h2⟩:=x;exact ⟨b,h.pt _ _ h1,h2⟩
 | .ap i j off,v,x=>by simp only [VR] at x ⊢;exact h.ap _ _ _ _ x
 | .im cs off,v,x=>by
   simp only [VR] at x ⊢
   obtain ⟨a,h1,h2,h3,h4⟩:=x
   exact ⟨a,h1,h2,h3,VDC.mono h.rd cs a h4⟩
 | .map i,v,x=>by simp only [VR] at x ⊢;obtain ⟨b,h1,h2⟩:=x;exact ⟨b,h.pt _ _ h1,h2⟩
 | .mp i b off,v,x=>by simpa only [VR] using x
 | .agg cs,v,x=>by simp only [VR] at x ⊢;obtain ⟨us,h1,h2⟩:=x;exact ⟨us,h1,VRs.mono h cs _ h2⟩
 | .tup cs,v,x=>by simp only [VR] at x ⊢;obtain ⟨us,h1,h2⟩:=x;exact ⟨us,h1,VRt.mono h cs _ h2⟩
 | .fn f cs,v,x=>by simp only [VR] at x ⊢;obtain ⟨us,h1,h2⟩:=x;exact ⟨us,h1,VRt.mono h cs _ h2⟩
 | .sub i n,v,x=>by simp only [VR] at x ⊢;obtain ⟨p,cap,h1,h2,h3,h4⟩:=x;exact ⟨p,cap,h1,h2,h3,h.ap _ _ _ _ h4⟩
 | .isl i x,v,k=>by simp only [VR] at k ⊢;exact ⟨h.is _ _ _ k.1,k.2⟩
theorem VRs.mono {R R':RC} (h:R.le R'):∀ (xs:List AV) (us:List Value),VRs R xs us→VRs R' xs us
 | [],us,x=>by simpa [VRs] using x
 | c :: r,us,x=>by
   simp only [VRs] at x ⊢
   obtain ⟨u,us',h1,h0,h2,h3⟩:=x
   exact ⟨u,us',h1,h0,VR.mono h c u h2,VRs.mono h r us' h3⟩
theorem VRt.mono {R R':RC} (h:R.le R'):∀ (xs:List AV) (us:List Value),VRt R xs us→VRt R' xs us
 | [],us,x=>by simpa [VRt] using x
 | c :: r,us,x=>by
   simp only [VRt] at x ⊢
   obtain ⟨u,us',h1,h2,h3⟩:=x
   exact ⟨u,us',h1,VR.mono h c u h2,VRt.mono h r us' h3⟩
end
inductive KV where
 | one (x:DV)
 | agg (cs:List DV)
inductive MV where
 | v (x:KV)
 | box (b:Nat) (cs:List DV)
def VKV (rd:Addr→Value→Prop):KV→Value→Prop
 | .one x,v=>v.oneCell'=true∧VD rd x v
 | .agg cs,v=>∃ us:Array Value,v = .agg us∧VDs rd cs us.toList
def VBox (rd:Addr→Value→Prop) (w:World) (b:Nat) (cs:List DV):Prop:=∃ cur e,w.heap[b]? = some (.cells cur e (0,0))∧VDs rd cs cur.toList
def VMV (rd:Addr→Value→Prop) (w:World):MV→Value→Prop
 | .v x,v=>VKV rd x v
 | .box b cs,v=>v = .pointer (some ⟨b,0,none⟩)∧VBox rd w b cs
def VME (rd:Addr→Value→Prop) (w:World):List (KV×MV)→List MapEntry→Prop
 | [],us=>us=[]
 | (k,m) :: r,us=>∃ u us',us=u :: us'∧VKV rd k u.key∧VMV rd w m u.val∧VME rd w r us'
def boxesM:List (KV×MV)→List Nat
 | []=>[]
 | (_,.box b _) :: r=>b :: boxesM r
 | (_,.v _) :: r=>boxesM r
inductive IsK where
 | bool (b:Bool)
 | hole (b k:Nat) (ok:Bool)
instance:Coe Bool IsK:=⟨IsK.bool⟩
inductive AB where
 | cells (cs:List AV)
 | row (e n:Nat) (xs:List (List DV)) (sh:Bool)
 | map (es:List (KV×MV))
 | pool (b:Nat) (cs:List DV)
 | dead
 | obj (o:Obj)
 | obs (o:Obj) (n cap:Nat)
 /-- all the blocks from one on; as they were made (true), or spoilt -/
 | isle (lo n:Nat) (ok:IsK)
def AB.isCell:AB→Bool
 | .cells _=>true
 | .map _=>true
 | .obj _=>true
 | _=>false
def AB.live:AB→Bool
 | .dead=>false
 | .pool _ _=>false
 | .isle _ _ _=>false
 | _=>true
def AB.mut:AB→Nat→Prop
 | .cells _,_=>True
 | .map _,_=>True
 | .row _ n xs sh,o=>sh=true→xs.length * n≤o
 | .pool _ _,_=>False
 | .dead,_=>False
 | .obj _,_=>True
 | .obs _ _ _,_=>True
 | .isle _ _ _,_=>False
def AB.boxes:AB→List Nat
 | .map es=>boxesM es
 | .pool b _=>[b]
 | .isle lo n _=>List.range' lo n
 | _=>[]
-- MZ: what is not data (its cells may turn), and from where on data's rows are to be new (if at all)
-- SQ: from which block on what is told is new; what is said of slices that were there ahead of the call
structure SQ where
 lo:Nat
 q:Addr→Value→Prop
instance:Coe Nat SQ:=⟨fun n=>⟨n,fun _ _=>True⟩⟩
structure MZ where
 m:Nat→Nat→Prop
 s:Option SQ
instance:CoeFun MZ fun _=>Nat→Nat→Prop:=⟨MZ.m⟩
structure Ctx where
 w0:World
 P0:Nat→Prop
 M0:MZ
 E0:Nat→Option Nat
 L0:List AB
 n:Nat
structure Ctx.wf (c:Ctx):Prop where
 low:∀ b,c.P0 b→b<c.w0.heap.size
 sub:∀ b o,c.M0 b o→c.P0 b
 sle:∀ s,c.M0.s=some s→s.lo≤c.w0.heap.size
theorem Ctx.wf.s_le {c:Ctx} (hc:c.wf) {s:SQ} (h:c.M0.s=some s):s.lo≤c.w0.heap.size:=hc.sle s h
def Mut (M0:MZ) (E:Nat→Option Nat) (L:List AB) (b o:Nat):Prop :=
 M0 b o∨(∃ i ab,L[i]? = some ab∧E i=some b∧ab.mut o)∨∃ (i:Nat) (ab:AB),L[i]? = some ab∧b∈ab.boxes
def arRel (E:Nat→Option Nat) (w:World) (i:Nat) (v:Value):AB→Prop
 | .row e n xs _=>match E i with
   | none=>v = .slice none 0 0
   | some b=>∃ cap cur,v = .slice (some ⟨b,0,none⟩) xs.length cap∧w.heap[b]? = some (.cells cur e (0,0))∧cur.size=cap * n
 | .dead=>∃ p l k,v = .slice p l k
 | .cells cs=>∃ b,E i=some b∧v = .slice (some ⟨b,0,none⟩) cs.length cs.length
 | .obs _ n cap=>∃ b,E i=some b∧v = .slice (some ⟨b,0,none⟩) n cap
 | _=>False
def apRel (E:Nat→Option Nat) (i j o:Nat) (v:Value):AB→Prop
 | .row _ n _ _=>∃ b,E i=some b∧v = .pointer (some ⟨b,j * n+o,none⟩)
 | .dead=>∃ p,v = .pointer p
 | _=>False
def ShOk (sl:Nat→Value→Prop):Sh→Value→Prop
 | .int,v=>∃ k,v = .int .i64 k
 | .str,v=>∃ s,v = .string s
 | .u8,v=>∃ k,v = .int .u8 k
 | .sl n,v=>sl n v
def unfroz (m:Nat×Nat) (n:Nat):Prop:=∀ o,o<n→¬(m.1≤o∧o<m.2)
theorem unfroz_0 (n:Nat):unfroz (0,0) n:=fun _ _ h=>by have:=h.2;simp at this
def Tk (s:Option SQ) (w:World) (a:Addr) (u:Value):Prop :=
 ∃ n,a.spot=some n∧∀ s0,s=some s0→(n=0→s0.q a u)∧(0<n→s0.lo≤a.block∧∃ (cur:Array Value) (e:TypeId) (m:Nat×Nat) (cap:Nat),u = .slice (some ⟨a.block,a.off,none⟩) 0 cap∧w.heap[a.block]? = some (.cells cur e m)∧unfroz m cur.size∧gsz e=n∧a.off % n=0∧a.off+cap * n≤cur.size)
def Likes (w w':World):Prop:=∀ (b:Nat) (cur:Array Value) (e:TypeId) (m:Nat×Nat),w.heap[b]? = some (.cells cur e m)→unfroz m cur.size→∃ (cur':Array Value) (m':Nat×Nat),w'.heap[b]? = some (.cells cur' e m')∧cur'.size=cur.size∧unfroz m' cur'.size
theorem Tk.mono {s:Option SQ} {w w':World} (h:Likes w w') {a:Addr} {u:Value} (k:Tk s w a u):Tk s w' a u:=by
 obtain ⟨n,h1,h2⟩:=k
 refine ⟨n,h1,fun s0 hs=>⟨(h2 s0 hs).1,fun hn => ?_⟩⟩
 obtain ⟨k1,cur,e,m,cap,k2,k3,k4,k5,k6,k7⟩:=(h2 s0 hs).2 hn
 obtain ⟨cur',m',l1,l2,l3⟩:=h _ _ _ _ k3 k4
 exact ⟨k1,cur',e,m',cap,k2,l1,l3,k5,k6,by rw [l2];exact k7⟩
theorem Likes.refl (w:World):Likes w w:=fun _ cur _ m h k=>⟨cur,m,h,rfl,k⟩
theorem Likes.trans {a b c:World} (h:Likes a b) (k:Likes b c):Likes a c:=fun x cur e m h1 h2=>by
 obtain ⟨cur',m',l1,l2,l3⟩:=h x cur e m h1 h2
 obtain ⟨cur2,m2,k1,k2,k3⟩:=k x cur' e m' l1 l3
 exact ⟨cur2,m2,k1,k2.trans l2,k3⟩
theorem Likes.of_blocks {w w':World} (h:∀ b,b<w.heap.size→w'.heap[b]? = w.heap[b]?):Likes w w':=fun b cur e m h1 h2 =>
 ⟨cur,m,by rw [h b (Array.getElem?_eq_some_iff.1 h1).1];exact h1,rfl,h2⟩
theorem Likes.of_other {w w':World} {b:Nat} (h:∀ x,x≠b→w'.heap[x]? = w.heap[x]?) (hb:∀ cur e m,w.heap[b]? ≠ some (.cells cur e m)):Likes w w':=fun x cur e m h1 h2=>by
 by_cases hx:x=b
 ·subst hx;exact absurd h1 (hb cur e m)
 ·exact ⟨cur,m,by rw [h x hx];exact h1,rfl,h2⟩
theorem Tk.any {w:World} {a:Addr} {u:Value} {n:Nat} (h:a.spot=some n):Tk none w a u:=⟨n,h,fun _ h=>by cases h⟩
def rdI (lo n:Nat) (w:World) (a:Addr) (u:Value):Prop:=lo≤a.block∧a.block<lo+n∧(w.cell? a=some u∨Tk (some lo) w a u)
def rdX (lo n b k:Nat) (w:World) (a:Addr) (u:Value):Prop:=lo≤a.block∧a.block<lo+n∧((w.cell? a=some u∧¬(b≤a.block∧a.block<b+k))∨Tk (some lo) w a u)
def rdY (b k:Nat) (w:World) (a:Addr) (u:Value):Prop:=b≤a.block∧a.block<b+k∧w.cell? a=some u
def SL (lo n:Nat) (w:World):Nat→Nat→Value→Prop
 | 0,_,v=>v = .slice none 0 0
 | k+1,m,v=>∃ p len cap,v = .slice p len cap∧len≤cap∧(cap≤maxLen∧len≤4294967296)∧(cap=0∨∃ a,p=some a∧a.spot=none∧lo≤a.block∧a.block<lo+n ∧
    (∃ (cur:Array Value) (e:TypeId) (mk:Nat×Nat),w.heap[a.block]? = some (.cells cur e mk)∧unfroz mk cur.size∧gsz e=m∧a.off % m=0∧a.off+cap * m≤cur.size) ∧
    ∀ i j sh,i<len→(gsh m)[j]? = some sh→∃ u,w.cell? ⟨a.block,a.off+i * m+j,none⟩=some u∧ShOk (fun m' v'=>SL lo n w k m' v') sh u)
def FitC (f:Nat→DV→Prop):List Sh→List DV→Prop
 | [],cs=>cs=[]
 | .int :: r,cs=>∃ k l,cs = .int .i64 k :: l∧FitC f r l
 | .str :: r,cs=>∃ s l,cs = .str s :: l∧FitC f r l
 | .u8 :: r,cs=>∃ k l,cs = .int .u8 k :: l∧FitC f r l
 | .sl m :: r,cs=>∃ x l,cs=x :: l∧f m x∧FitC f r l
def FitS:Nat→Nat→DV→Prop
 | 0,_,x=>x = .nils
 | k+1,m,x=>x = .nils∨∃ xs,x = .sl m xs∧xs.length≤4294967296∧∀ cs∈xs,FitC (FitS k) (gsh m) cs
def DV.isSlo:DV→Bool
 | .slo _ _=>true
 | _=>false
def islRel (w:World) (x:DV) (v:Value):AB→Prop
 | .isle lo n (.bool true)=>VD (rdI lo n w) x v
 | .isle lo n (.bool false)=>∀ m,FitS 3 m x→SL lo n w 3 m v
 | .isle lo n (.hole b k ok)=>(x.isSlo=false→VD (rdX lo n b k w) x v)∧∀ m xs,x = .slo m xs→(ok=true→VD (rdY b k w) x v)∧lo≤b∧b+k≤lo+n∧SL b k w 3 m v
 | _=>False
def rcOf (M0:MZ) (E:Nat→Option Nat) (L:List AB) (w:World):RC where
 rd a u:=(w.cell? a=some u∧¬Mut M0 E L a.block a.off)∨Tk M0.s w a u
 pt i b:=∃ ab,L[i]? = some ab∧ab.isCell=true∧E i=some b
 ar i v:=∃ ab,L[i]? = some ab∧arRel E w i v ab
 ap i j o v:=∃ ab,L[i]? = some ab∧apRel E i j o v ab
 is i x v:=∃ ab,L[i]? = some ab∧islRel w x v ab
def RN (e:TypeId) (n:Nat):Prop:=0<n∧gsz e=n
def BR (R:RC) (w:World) (eb:Option Nat):AB→Prop
 | .cells cs=>∃ b cur e,eb=some b∧w.heap[b]? = some (.cells cur e (0,0))∧VRs R cs cur.toList
 | .row e n xs _=>RN e n∧(∀ cs∈xs,cs.length=n) ∧
   match eb with
   | none=>xs=[]
   | some b=>∃ cap cur,w.heap[b]? = some (.cells cur e (0,0))∧cur.size=cap * n∧xs.length≤cap∧cap≤maxLen∧VDs R.rd xs.flatten (cur.toList.take (xs.length * n))
 | .map es=>∃ b ents clock,eb=some b∧w.heap[b]? = some (.map ents clock)∧VME R.rd w es ents.toList∧(ents.toList.map (·.born)).Pairwise (· < ·)∧∀ x∈ents.toList,x.born<clock
 | .pool b cs=>VBox R.rd w b cs
 | .dead=>True
 | .obj o=>∃ b,eb=some b∧w.heap[b]? = some o
 | .obs o _ _=>∃ b,eb=some b∧w.heap[b]? = some o
 | .isle lo n _=>∀ b,lo≤b→b<lo+n→∃ o,w.heap[b]? = some o
structure Boxy (P0:Nat→Prop) (E:Nat→Option Nat) (L:List AB):Prop where
 low:∀ (i:Nat) (ab:AB) (b:Nat),L[i]? = some ab→b∈ab.boxes→¬P0 b
 own:∀ (i j:Nat) (ab ab':AB) (b:Nat),L[i]? = some ab→b∈ab.boxes→L[j]? = some ab'→ab'.live=true→E j=some b→False
 nd:∀ (i:Nat) (ab:AB),L[i]? = some ab→ab.boxes.Nodup
 dj:∀ (i j:Nat) (ab ab':AB) (b:Nat),L[i]? = some ab→L[j]? = some ab'→b∈ab.boxes→b∈ab'.boxes→i=j
def RUp (s:Option SQ) (E:Nat→Option Nat) (L:List AB):Prop:=∀ s0,s=some s0→∀ (i:Nat) (e:TypeId) (n:Nat) (xs:List (List DV)) (sh:Bool) (b:Nat),L[i]? = some (.row e n xs sh)→E i=some b→s0.lo≤b
structure SimH (c:Ctx) (E:Nat→Option Nat) (L:List AB) (w:World):Prop where
 os:w.os=c.w0.os
 tape:w.tape=c.w0.tape
 output:w.output=c.w0.output
 size:c.w0.heap.size≤w.heap.size
 prot:∀ b,c.P0 b→w.heap[b]? = c.w0.heap[b]?
 blk:∀ i ab,L[i]? = some ab→BR (rcOf c.M0 E L w) w (E i) ab
 low:∀ i ab b,L[i]? = some ab→ab.live=true→E i=some b→¬c.P0 b
 inj:∀ i j ab ab' b,L[i]? = some ab→L[j]? = some ab'→ab.live=true→ab'.live=true→E i=some b→E j=some b→i=j
 old:(rcOf c.M0 c.E0 c.L0 c.w0).le (rcOf c.M0 E L w)
 bx:Boxy c.P0 E L
 lk:Likes c.w0 w
 up:RUp c.M0.s E L
theorem rdle {M M':MZ} {E E':Nat→Option Nat} {L L':List AB} {w w':World} (hs:M'.s=M.s) (hl:Likes w w')
  (h:∀ a u,w.cell? a=some u→¬Mut M E L a.block a.off→w'.cell? a=some u∧¬Mut M' E' L' a.block a.off):∀ a u,(rcOf M E L w).rd a u→(rcOf M' E' L' w').rd a u:=by
 rintro a u (⟨h1,h2⟩|ht)
 ·exact .inl (h a u h1 h2)
 ·exact .inr (by rw [hs];exact ht.mono hl)
theorem rd_cell {M:MZ} {E:Nat→Option Nat} {L:List AB} {w:World} {a:Addr} {u:Value} (h:(rcOf M E L w).rd a u) (ha:a.spot=none):w.cell? a=some u∧¬Mut M E L a.block a.off:=by
 rcases h with h|⟨n,hn,_⟩
 ·exact h
 ·rw [ha] at hn;cases hn
def TkC (R:RC):Prop:=∀ (a:Addr) (n cap k:Nat),0<n→a.spot=none→k≤cap→R.rd ⟨a.block,a.off,some n⟩ (.slice (some a) 0 cap)→R.rd ⟨a.block,a.off+k * n,some n⟩ (.slice (some ⟨a.block,a.off+k * n,none⟩) 0 (cap - k))
theorem rd_tk {M:MZ} {E:Nat→Option Nat} {L:List AB} {w:World} {a:Addr} {u:Value} (h:(rcOf M E L w).rd a u) {n:Nat} (ha:a.spot=some n):Tk M.s w a u:=by
 rcases h with h|h
 ·have h1:=h.1
  unfold World.cell? at h1
  split at h1
  ·rw [ha] at h1;simp at h1
  ·cases h1
 ·exact h
theorem tkc_rcOf (M:MZ) (E:Nat→Option Nat) (L:List AB) (w:World):TkC (rcOf M E L w):=by
 intro a n cap k hn0 ha hk h
 obtain ⟨n',h1,h2⟩:=rd_tk h rfl
 cases h1
 refine .inr ⟨n,rfl,fun s0 hs=>⟨fun h0=>by omega,fun _ => ?_⟩⟩
 obtain ⟨h3,cur,e,m,cap',h4,h5,h6,h7,h8,h9⟩:=(h2 s0 hs).2 hn0
 simp only [Value.slice.injEq] at h4
 obtain ⟨_,_,rfl⟩:=h4
 refine ⟨h3,cur,e,m,cap - k,rfl,h5,h6,h7,?_,?_⟩
 ·show (a.off+k * n) % n=0
  rw [Nat.add_mul_mod_self_right];exact h8
 ·show a.off+k * n+(cap - k) * n≤cur.size
  have:k * n+(cap - k) * n=cap * n:=by rw [← Nat.add_mul];congr 1;omega
  have h9':a.off+cap * n≤cur.size:=h9
  omega
def rdW (W:World):Addr→Value→Prop:=fun a u=>W.cell? a=some u∨∃ n,a.spot=some n
def M00:MZ:=⟨fun _ _=>False,none⟩
abbrev AF:=List (Nat×AV)
noncomputable def fget (F:AF) (s:Nat):AV:=List.rec (motive:=fun _=>AV) (.d .any) (fun p _ ih=>bif Nat.beq p.1 s then p.2 else ih) F
theorem fget_nil (s:Nat):fget [] s = .d .any:=rfl
theorem fget_cons (t:Nat) (v:AV) (r:AF) (s:Nat):fget ((t,v) :: r) s=bif Nat.beq t s then v else fget r s:=rfl
structure Sim (c:Ctx) (E:Nat→Option Nat) (F:AF) (L:List AB) (a:Act) (w:World):Prop where
 h:SimH c E L w
 slots:∀ s,VR (rcOf c.M0 E L w) (fget F s) (a.tmps.getD s undef)
 nt:a.tmps.size=c.n
 df:a.defers=[]
theorem VME_lt {rd:Addr→Value→Prop} {w:World}:∀ {es:List (KV×MV)} {us:List MapEntry},VME rd w es us→∀ b∈boxesM es,b<w.heap.size
 | [],_,_,b,h=>by simp [boxesM] at h
 | (k,m) :: r,us,hv,b,h=>by
   simp only [VME] at hv
   obtain ⟨u,us',_,_,h2,h3⟩:=hv
   cases m with
   | v x=>exact VME_lt (es:=r) h3 b (by simpa [boxesM] using h)
   | box b' cs =>
     simp only [boxesM,List.mem_cons] at h
     rcases h with rfl|h
     ·obtain ⟨_,cur,e,h4,_⟩:=h2
      exact (Array.getElem?_eq_some_iff.1 h4).1
     ·exact VME_lt (es:=r) h3 b h
theorem SimH.blt {c:Ctx} {E:Nat→Option Nat} {L:List AB} {w:World} (h:SimH c E L w) {i:Nat} {ab:AB} {b:Nat} (hi:L[i]? = some ab) (hb:b∈ab.boxes):b<w.heap.size:=by
 have hbr:=h.blk i ab hi
 cases ab with
 | map es =>
   obtain ⟨_,ents,_,_,_,h3,_⟩:=hbr
   exact VME_lt h3 b hb
 | pool b' cs =>
   simp only [AB.boxes,List.mem_singleton] at hb
   subst hb
   obtain ⟨cur,e,h1,_⟩:=hbr
   exact (Array.getElem?_eq_some_iff.1 h1).1
 | isle lo n ok =>
   simp only [AB.boxes,List.mem_range'_1] at hb
   obtain ⟨o,h1⟩:=hbr b hb.1 hb.2
   exact (Array.getElem?_eq_some_iff.1 h1).1
 | _=>simp [AB.boxes] at hb
theorem SimH.bl {c:Ctx} {E:Nat→Option Nat} {L:List AB} {w:World} (h:SimH c E L w):∀ (i:Nat) (ab:AB),L[i]? = some ab→∀ b∈ab.boxes,b<w.heap.size:=fun _ _ hi _ hb=>h.blt hi hb
theorem SimH.lt {c:Ctx} {E:Nat→Option Nat} {L:List AB} {w:World} (h:SimH c E L w) {i:Nat} {ab:AB} {b:Nat} (hi:L[i]? = some ab) (hl:ab.live=true) (hb:E i=some b):b<w.heap.size:=by
 have hbr:=h.blk i ab hi
 cases ab with
 | cells cs =>
   obtain ⟨b',cur,e,h1,h2,_⟩:=hbr
   rw [hb] at h1;cases h1
   exact (Array.getElem?_eq_some_iff.1 h2).1
 | row e n xs sh =>
   obtain ⟨_,_,h3⟩:=hbr
   rw [hb] at h3
   obtain ⟨cap,cur,h4,_⟩:=h3
   exact (Array.getElem?_eq_some_iff.1 h4).1
 | map es =>
   obtain ⟨b',ents,clock,h1,h2,_⟩:=hbr
   rw [hb] at h1;cases h1
   exact (Array.getElem?_eq_some_iff.1 h2).1
 | pool b cs=>simp [AB.live] at hl
 | obj o =>
   obtain ⟨b',h1,h2⟩:=hbr
   rw [hb] at h1;cases h1
   exact (Array.getElem?_eq_some_iff.1 h2).1
 | obs o n cap =>
   obtain ⟨b',h1,h2⟩:=hbr
   rw [hb] at h1;cases h1
   exact (Array.getElem?_eq_some_iff.1 h2).1
 | dead=>simp [AB.live] at hl
 | isle lo n ok=>simp [AB.live] at hl
theorem arRel_slice {E:Nat→Option Nat} {w:World} {i:Nat} {v:Value} {ab:AB} (h:arRel E w i v ab):∃ p l k,v = .slice p l k:=by
 cases ab with
 | cells cs=>obtain ⟨b,_,h⟩:=h;exact ⟨_,_,_,h⟩
 | map es=>exact h.elim
 | pool b cs=>exact h.elim
 | obj o=>exact h.elim
 | obs o n cap=>obtain ⟨b,_,h⟩:=h;exact ⟨_,_,_,h⟩
 | dead=>exact h
 | isle lo n ok=>exact h.elim
 | row e n xs sh =>
   simp only [arRel] at h
   split at h
   ·exact ⟨_,_,_,h⟩
   ·obtain ⟨cap,cur,h,_⟩:=h;exact ⟨_,_,_,h⟩
theorem apRel_pointer {E:Nat→Option Nat} {i j o:Nat} {v:Value} {ab:AB} (h:apRel E i j o v ab):∃ p,v = .pointer p:=by
 cases ab with
 | cells cs=>exact h.elim
 | map es=>exact h.elim
 | pool b cs=>exact h.elim
 | obj o=>exact h.elim
 | obs o n cap=>exact h.elim
 | dead=>exact h
 | isle lo n ok=>exact h.elim
 | row e n xs sh=>obtain ⟨b,_,h⟩:=h;exact ⟨_,h⟩
theorem cell_same {w w':World} {a:Addr} (h:∀ cur e m,w.heap[a.block]? = some (.cells cur e m)→w'.heap[a.block]? = some (.cells cur e m)) {u:Value} (k:w.cell? a=some u):w'.cell? a=some u:=by
 have hb:∃ cur e m,w.heap[a.block]? = some (.cells cur e m):=by
  unfold World.cell? at k
  split at k
  ·rename_i c e m he;exact ⟨_,_,_,he⟩
  ·cases k
 obtain ⟨cur,e,m,hb⟩:=hb
 rw [World.cell?_of_block (w:=w) (by rw [h _ _ _ hb,hb])]
 exact k
theorem rdI_mono {lo n:Nat} {w w':World} (h:∀ b,lo≤b→b<lo+n→∀ cur e m,w.heap[b]? = some (.cells cur e m)→w'.heap[b]? = some (.cells cur e m)) {a:Addr} {u:Value} (k:rdI lo n w a u):rdI lo n w' a u:=by
 obtain ⟨h1,h2,h3⟩:=k
 refine ⟨h1,h2,h3.imp (fun h3=>cell_same (h _ h1 h2) h3) fun ⟨m,h4,h5⟩=>⟨m,h4,fun s hs=>⟨(h5 s hs).1,fun hn => ?_⟩⟩⟩
 obtain ⟨h6,cur,e,mk,cap,h7,h8,h9⟩:=(h5 s hs).2 hn
 exact ⟨h6,cur,e,mk,cap,h7,h _ h1 h2 _ _ _ h8,h9⟩
theorem SL_mono {lo n:Nat} {w w':World} (h:∀ b,lo≤b→b<lo+n→∀ cur e m,w.heap[b]? = some (.cells cur e m)→w'.heap[b]? = some (.cells cur e m)):∀ (k m:Nat) (v:Value),SL lo n w k m v→SL lo n w' k m v
 | 0,m,v,x=>x
 | k+1,m,v,x=>by
   obtain ⟨p,len,cap,h1,h2,h3,h4⟩:=x
   refine ⟨p,len,cap,h1,h2,h3,h4.imp id ?_⟩
   rintro ⟨a,e1,e2,e3,e4,⟨cur,e,mk,e5,e6⟩,e7⟩
   refine ⟨a,e1,e2,e3,e4,⟨cur,e,mk,h _ e3 e4 _ _ _ e5,e6⟩,fun i j sh hi hj => ?_⟩
   obtain ⟨u,u1,u2⟩:=e7 i j sh hi hj
   refine ⟨u,cell_same (a:=⟨a.block,a.off+i * m+j,none⟩) (h _ e3 e4) u1,?_⟩
   cases sh with
   | int=>exact u2
   | str=>exact u2
   | u8=>exact u2
   | sl m'=>exact SL_mono h k m' u u2
theorem islRel_mono' {w w':World} {x:DV} {v:Value} {ab:AB} (hbx:∀ b∈ab.boxes,∀ cur e m,w.heap[b]? = some (.cells cur e m)→w'.heap[b]? = some (.cells cur e m)) (h:islRel w x v ab):islRel w' x v ab:=by
 cases ab with
 | isle lo n ok =>
   have hb:∀ b,lo≤b→b<lo+n→∀ cur e m,w.heap[b]? = some (.cells cur e m)→w'.heap[b]? = some (.cells cur e m):=fun b h1 h2=>hbx b (by simp only [AB.boxes,List.mem_range'_1];exact ⟨h1,h2⟩)
   cases ok with
   | bool ok =>
     cases ok with
     | true=>exact VD.mono (fun a u=>rdI_mono hb) _ _ h
     | false=>exact fun m hf=>SL_mono hb _ _ _ (h m hf)
   | hole b k ok =>
     refine ⟨fun e=>VD.mono (fun a u hr => ?_) _ _ (h.1 e),fun m xs e => ?_⟩
     ·obtain ⟨h1,h2,h3|h3⟩:=hr
      ·exact ⟨h1,h2,.inl ⟨cell_same (hb _ h1 h2) h3.1,h3.2⟩⟩
      ·obtain ⟨m,h4,h5⟩:=h3
       refine ⟨h1,h2,.inr ⟨m,h4,fun s hs=>⟨(h5 s hs).1,fun hn => ?_⟩⟩⟩
       obtain ⟨h6,cur,e,mk,cap,h7,h8,h9⟩:=(h5 s hs).2 hn
       exact ⟨h6,cur,e,mk,cap,h7,hb _ h1 h2 _ _ _ h8,h9⟩
     ·obtain ⟨k1,k2,k3,k4⟩:=h.2 m xs e
      have hb2:∀ x,b≤x→x<b+k→∀ cur e m,w.heap[x]? = some (.cells cur e m)→w'.heap[x]? = some (.cells cur e m):=fun x g1 g2=>hb x (by omega) (by omega)
      exact ⟨fun e2=>VD.mono (fun a u hr=>⟨hr.1,hr.2.1,cell_same (hb2 _ hr.1 hr.2.1) hr.2.2⟩) _ _ (k1 e2),k2,k3,SL_mono hb2 _ _ _ k4⟩
 | _=>exact h.elim
theorem islRel_mono {w w':World} {x:DV} {v:Value} {ab:AB} (hbx:∀ b∈ab.boxes,w'.heap[b]? = w.heap[b]?) (h:islRel w x v ab):islRel w' x v ab :=
 islRel_mono' (fun b hb cur e m h=>by rw [hbx b hb];exact h) h
theorem islRel_boxes {w:World} {x:DV} {v:Value} {ab:AB} (h:islRel w x v ab):∃ lo n ok,ab = .isle lo n ok:=by
 cases ab with
 | isle lo n ok=>exact ⟨lo,n,ok,rfl⟩
 | _=>exact h.elim
theorem AB.mut_live {ab:AB} {o:Nat} (h:ab.mut o):ab.live=true:=by
 cases ab<;>simp_all [AB.mut,AB.live]
theorem cell?_lt {w:World} {a:Addr} {u:Value} (h:w.cell? a=some u):a.block<w.heap.size:=World.block_lt_of_cell? w a h
def fput (F:AF) (d:Option Nat) (v:AV):AF :=
 match d with
 | some d=>(d,v) :: F
 | none=>F
theorem Sim.put {c:Ctx} {E:Nat→Option Nat} {F:AF} {L:List AB} {a:Act} {w:World} (h:Sim c E F L a w) (d:Option Nat) (av:AV) (v:Value)
  (hd:∀ x,d=some x→x<c.n) (hv:VR (rcOf c.M0 E L w) av v):Sim c E (fput F d av) L (a.put d v) w:=by
 cases d with
 | none=>exact h
 | some d =>
   have hlt:d<a.tmps.size:=by rw [h.nt];exact hd d rfl
   refine ⟨h.h,fun s => ?_,by simp [Act.put,h.nt],h.df⟩
   simp only [fput,fget_nil,fget_cons,Act.put]
   by_cases hs:d=s
   ·subst hs
    simp [hlt]
    exact hv
   ·have hb:Nat.beq d s=false:=by
     cases hq:Nat.beq d s with
     | false=>rfl
     | true=>exact absurd (Nat.eq_of_beq_eq_true hq) hs
    rw [hb]
    simp only [cond_false]
    have:(a.tmps.setIfInBounds d v).getD s undef=a.tmps.getD s undef:=by
     simp [Array.getElem?_setIfInBounds_ne hs]
    rw [this]
    exact h.slots s
theorem Sim.mono {c:Ctx} {E E':Nat→Option Nat} {F:AF} {L L':List AB} {a:Act} {w w':World} (h:Sim c E F L a w) (h':SimH c E' L' w')
  (hle:(rcOf c.M0 E L w).le (rcOf c.M0 E' L' w')):Sim c E' F L' a w' :=
 ⟨h',fun s=>VR.mono hle _ _ (h.slots s),h.nt,h.df⟩
theorem Sim.weak {c:Ctx} {E:Nat→Option Nat} {F F':AF} {L:List AB} {a:Act} {w:World} (h:Sim c E F L a w)
  (hF:∀ s,fget F' s=fget F s∨fget F' s = .d .any):Sim c E F' L a w :=
 ⟨h.h,fun s=>by rcases hF s with e|e<;>rw [e];exact h.slots s;simp [VR,VD],h.nt,h.df⟩
structure Keeps (w w':World):Prop where
 os:w'.os=w.os
 tape:w'.tape=w.tape
 output:w'.output=w.output
 size:w.heap.size≤w'.heap.size
 block:∀ b,b<w.heap.size→w'.heap[b]? = w.heap[b]?
theorem likes_setRow {w:World} {b:Nat} {cur cur':Array Value} {e:TypeId} {m:Nat×Nat} (hh:w.heap[b]? = some (.cells cur e m)) (hs:cur'.size=cur.size):Likes w (w.setRow b cur'):=by
 intro x c1 e1 m1 h1 h2
 by_cases hx:x=b
 ·subst hx
  rw [hh] at h1;cases h1
  exact ⟨cur',m,setRow_heap w x _ cur' _ _ hh,hs,by rw [hs];exact h2⟩
 ·exact ⟨c1,m1,by rw [setRow_other w b x cur' hx];exact h1,rfl,h2⟩
theorem Keeps.likes {w w':World} (h:Keeps w w'):Likes w w':=Likes.of_blocks h.block
theorem Keeps.refl (w:World):Keeps w w:=⟨rfl,rfl,rfl,Nat.le_refl _,fun _ _=>rfl⟩
theorem Keeps.trans {a b c:World} (h:Keeps a b) (k:Keeps b c):Keeps a c :=
 ⟨k.os.trans h.os,k.tape.trans h.tape,k.output.trans h.output,Nat.le_trans h.size k.size,fun x hx=>(k.block x (Nat.lt_of_lt_of_le hx h.size)).trans (h.block x hx)⟩
theorem Keeps.alloc (w:World) (o:Obj):Keeps w (w.alloc o):=⟨rfl,rfl,rfl,by simp,fun b hb=>Below.heap_alloc w o b hb⟩
theorem Keeps.drew (w:World):Keeps w w.drew:=⟨rfl,rfl,rfl,Nat.le_refl _,fun _ _=>rfl⟩
theorem Keeps.cell {w w':World} (h:Keeps w w') {a:Addr} {u:Value} (hu:w.cell? a=some u):w'.cell? a=some u:=by
 rw [World.cell?_of_block (w:=w) (h.block a.block (cell?_lt hu))];exact hu
def Eupd (E:Nat→Option Nat) (i:Nat) (eb:Option Nat):Nat→Option Nat:=fun j=>if j=i then eb else E j
theorem getElem?_push_lt {α:Type} {L:List α} {x:α} {i:Nat} {y:α} (h:(L++[x])[i]? = some y) (hi:i≠L.length):L[i]? = some y:=by
 rcases Nat.lt_or_ge i L.length with h1|h1
 ·rw [List.getElem?_append_left h1] at h;exact h
 ·have:L.length+1≤i:=by omega
  rw [List.getElem?_eq_none (by simp;omega)] at h;cases h
theorem le_extend {c:Ctx} {E:Nat→Option Nat} {L:List AB} {w w':World} (k:Keeps w w') (ab:AB) (eb:Option Nat)
  (hlt':∀ (i:Nat) (ab:AB),L[i]? = some ab→∀ b∈ab.boxes,b<w.heap.size) (hb:∀ b,eb=some b→w.heap.size≤b) (hbx:∀ b∈ab.boxes,w.heap.size≤b):(rcOf c.M0 E L w).le (rcOf c.M0 (Eupd E L.length eb) (L++[ab]) w'):=by
 refine ⟨?_,?_,?_,?_,?_⟩
 ·rintro a u (⟨h1,h2⟩|ht)
  rotate_left
  ·exact .inr (ht.mono k.likes)
  refine .inl ⟨k.cell h1,?_⟩
  rintro (hm|⟨i,ab',hi,he,hm⟩|⟨i,ab',hi,hm⟩)
  ·exact h2 (.inl hm)
  ·by_cases hil:i=L.length
   ·subst hil
    simp only [Eupd,if_true] at he
    have:=hb _ he
    have:=cell?_lt h1
    omega
   ·simp only [Eupd,if_neg hil] at he
    exact h2 (.inr (.inl ⟨i,ab',getElem?_push_lt hi hil,he,hm⟩))
  ·by_cases hil:i=L.length
   ·subst hil
    simp at hi;subst hi
    have:=hbx _ hm
    have:=cell?_lt h1
    omega
   ·exact h2 (.inr (.inr ⟨i,ab',getElem?_push_lt hi hil,hm⟩))
 ·rintro i b ⟨ab',h1,h2,h3⟩
  have hlt:i<L.length:=(List.getElem?_eq_some_iff.1 h1).1
  exact ⟨ab',by rw [List.getElem?_append_left hlt];exact h1,h2,by simp only [Eupd];rw [if_neg (by omega)];exact h3⟩
 ·rintro i v ⟨ab',h1,h2⟩
  have hlt:i<L.length:=(List.getElem?_eq_some_iff.1 h1).1
  refine ⟨ab',by rw [List.getElem?_append_left hlt];exact h1,?_⟩
  cases ab' with
  | cells cs =>
    simp only [arRel,Eupd] at h2 ⊢
    rw [if_neg (show i≠L.length by omega)]
    exact h2
  | map es=>exact h2
  | pool b cs=>exact h2
  | obj o=>exact h2
  | obs o n cap =>
    simp only [arRel,Eupd] at h2 ⊢
    rw [if_neg (show i≠L.length by omega)]
    exact h2
  | dead=>exact h2
  | isle lo n ok=>exact h2.elim
  | row e n xs sh =>
    simp only [arRel,Eupd] at h2 ⊢
    rw [if_neg (show i≠L.length by omega)]
    cases hE:E i with
    | none=>rw [hE] at h2;exact h2
    | some b =>
      rw [hE] at h2
      obtain ⟨cap,cur,h3,h4,h5⟩:=h2
      exact ⟨cap,cur,h3,by rw [k.block b (Array.getElem?_eq_some_iff.1 h4).1];exact h4,h5⟩
 ·rintro i j o v ⟨ab',h1,h2⟩
  have hlt:i<L.length:=(List.getElem?_eq_some_iff.1 h1).1
  refine ⟨ab',by rw [List.getElem?_append_left hlt];exact h1,?_⟩
  cases ab' with
  | cells cs=>exact h2
  | map es=>exact h2
  | pool b cs=>exact h2
  | obj o=>exact h2
  | obs o n cap=>exact h2
  | dead=>exact h2
  | isle lo n ok=>exact h2.elim
  | row e n xs sh =>
    simp only [apRel,Eupd] at h2 ⊢
    rw [if_neg (show i≠L.length by omega)]
    exact h2
 ·rintro i x v ⟨ab',h1,h2⟩
  have hlt:i<L.length:=(List.getElem?_eq_some_iff.1 h1).1
  refine ⟨ab',by rw [List.getElem?_append_left hlt];exact h1,islRel_mono (fun b hb'=>k.block b ?_) h2⟩
  exact hlt' _ _ h1 b hb'
theorem VKV.mono {rd rd':Addr→Value→Prop} (h:∀ a u,rd a u→rd' a u) {k:KV} {v:Value} (x:VKV rd k v):VKV rd' k v:=by
 cases k with
 | one y=>exact ⟨x.1,VD.mono h y v x.2⟩
 | agg cs=>obtain ⟨us,h1,h2⟩:=x;exact ⟨us,h1,VDs.mono h h2⟩
theorem VBox.mono {rd rd':Addr→Value→Prop} (h:∀ a u,rd a u→rd' a u) {w w':World} {b:Nat} {cs:List DV} (hw:w'.heap[b]? = w.heap[b]?) (x:VBox rd w b cs):VBox rd' w' b cs:=by
 obtain ⟨cur,e,h1,h2⟩:=x
 exact ⟨cur,e,by rw [hw];exact h1,VDs.mono h h2⟩
theorem VME.mono {rd rd':Addr→Value→Prop} (h:∀ a u,rd a u→rd' a u) {w w':World}:∀ {es:List (KV×MV)} {us:List MapEntry},(∀ b∈boxesM es,w'.heap[b]? = w.heap[b]?)→VME rd w es us→VME rd' w' es us
 | [],us,_,x=>x
 | (k,m) :: r,us,hw,x=>by
   simp only [VME] at x ⊢
   obtain ⟨u,us',h1,h2,h3,h4⟩:=x
   cases m with
   | v y=>exact ⟨u,us',h1,VKV.mono h h2,VKV.mono h h3,VME.mono h (fun b hb=>hw b (by simpa [boxesM] using hb)) h4⟩
   | box b cs=>exact ⟨u,us',h1,VKV.mono h h2,⟨h3.1,VBox.mono h (hw b (by simp [boxesM])) h3.2⟩,VME.mono h (fun b hb=>hw b (by simp [boxesM,hb])) h4⟩
theorem BR.mono {R R':RC} (hle:R.le R') {w w':World} {eb:Option Nat} {ab:AB} (h:BR R w eb ab)
  (hw:∀ b,eb=some b→ab.live=true→w'.heap[b]? = w.heap[b]?) (hbx:∀ b∈ab.boxes,w'.heap[b]? = w.heap[b]?):BR R' w' eb ab:=by
 cases ab with
 | map es =>
   obtain ⟨b,ents,clock,h1,h2,h3,h4,h5⟩:=h
   exact ⟨b,ents,clock,h1,by rw [hw b h1 rfl];exact h2,VME.mono hle.rd hbx h3,h4,h5⟩
 | pool b cs=>exact VBox.mono hle.rd (hbx b (by simp [AB.boxes])) h
 | obj o =>
   obtain ⟨b,h1,h2⟩:=h
   exact ⟨b,h1,by rw [hw b h1 rfl];exact h2⟩
 | obs o n cap =>
   obtain ⟨b,h1,h2⟩:=h
   exact ⟨b,h1,by rw [hw b h1 rfl];exact h2⟩
 | cells cs =>
   obtain ⟨b,cur,e,h1,h2,h3⟩:=h
   exact ⟨b,cur,e,h1,by rw [hw b h1 rfl];exact h2,VRs.mono hle _ _ h3⟩
 | row e n xs sh =>
   obtain ⟨h1,h2,h3⟩:=h
   refine ⟨h1,h2,?_⟩
   cases eb with
   | none=>exact h3
   | some b =>
     obtain ⟨cap,cur,h4,h5,h6,h7,h8⟩:=h3
     exact ⟨cap,cur,by rw [hw b rfl rfl];exact h4,h5,h6,h7,VDs.mono hle.rd h8⟩
 | dead=>trivial
 | isle lo n ok =>
   intro b h1 h2
   rw [hbx b (by simp only [AB.boxes,List.mem_range'_1];exact ⟨h1,h2⟩)]
   exact h b h1 h2
theorem SimH.extend {c:Ctx} (hc:c.wf) {E:Nat→Option Nat} {L:List AB} {w w':World} (h:SimH c E L w) (k:Keeps w w') (ab:AB) (eb:Option Nat)
  (hb:∀ b,eb=some b→w.heap.size≤b) (hbx:∀ b∈ab.boxes,w.heap.size≤b) (hbn:ab.boxes.Nodup) (hbe:∀ b∈ab.boxes,eb≠some b)
  (hbr:BR (rcOf c.M0 (Eupd E L.length eb) (L++[ab]) w') w' eb ab):SimH c (Eupd E L.length eb) (L++[ab]) w':=by
 have hle:=le_extend (c:=c) (E:=E) (L:=L) k ab eb (fun i ab hi b hb=>h.blt hi hb) hb hbx
 refine ⟨k.os.trans h.os,k.tape.trans h.tape,k.output.trans h.output,Nat.le_trans h.size k.size,?_,?_,?_,?_,?_,?_,h.lk.trans k.likes,?_⟩
 rotate_right
 ·intro s0 hs0 i e n xs sh b hi he
  by_cases hil:i=L.length
  ·subst hil
   simp only [Eupd,if_true] at he
   exact Nat.le_trans (Nat.le_trans (hc.sle s0 hs0) h.size) (hb b he)
  ·simp only [Eupd,if_neg hil] at he
   exact h.up s0 hs0 i e n xs sh b (getElem?_push_lt hi hil) he
 ·intro b hp
  rw [k.block b (Nat.lt_of_lt_of_le (hc.low b hp) h.size)];exact h.prot b hp
 ·intro i ab' hi
  by_cases hil:i=L.length
  ·subst hil
   simp at hi;subst hi
   simp only [Eupd,if_true];exact hbr
  ·have hi':=getElem?_push_lt hi hil
   simp only [Eupd,if_neg hil]
   exact BR.mono hle (h.blk i ab' hi') (fun b he hl=>k.block b (h.lt hi' hl he)) fun b hb'=>k.block b (h.blt hi' hb')
 ·intro i ab' b hi hl he
  by_cases hil:i=L.length
  ·subst hil
   simp only [Eupd,if_true] at he
   intro hp
   have:=hb b he
   have:=hc.low b hp
   have:=h.size
   omega
  ·simp only [Eupd,if_neg hil] at he
   exact h.low i ab' b (getElem?_push_lt hi hil) hl he
 ·intro i j ab1 ab2 b hi hj hl1 hl2 he1 he2
  by_cases hil:i=L.length<;>by_cases hjl:j=L.length
  ·omega
  ·subst hil
   simp only [Eupd,if_true] at he1
   simp only [Eupd,if_neg hjl] at he2
   have:=hb b he1
   have:=h.lt (getElem?_push_lt hj hjl) hl2 he2
   omega
  ·subst hjl
   simp only [Eupd,if_true] at he2
   simp only [Eupd,if_neg hil] at he1
   have:=hb b he2
   have:=h.lt (getElem?_push_lt hi hil) hl1 he1
   omega
  ·simp only [Eupd,if_neg hil] at he1
   simp only [Eupd,if_neg hjl] at he2
   exact h.inj i j ab1 ab2 b (getElem?_push_lt hi hil) (getElem?_push_lt hj hjl) hl1 hl2 he1 he2
 ·exact h.old.trans hle
 ·refine ⟨?_,?_,?_,?_⟩
  ·intro i ab' b hi hb'
   by_cases hil:i=L.length
   ·subst hil
    simp at hi;subst hi
    intro hp
    have:=hbx b hb'
    have:=hc.low b hp
    have:=h.size
    omega
   ·exact h.bx.low i ab' b (getElem?_push_lt hi hil) hb'
  ·intro i j ab1 ab2 b hi hb' hj hl he
   by_cases hil:i=L.length<;>by_cases hjl:j=L.length
   ·subst hil hjl
    simp at hi hj;subst hi hj
    simp only [Eupd,if_true] at he
    exact hbe b hb' he
   ·subst hil
    simp at hi;subst hi
    simp only [Eupd,if_neg hjl] at he
    have:=hbx b hb'
    have:=h.lt (getElem?_push_lt hj hjl) hl he
    omega
   ·subst hjl
    simp only [Eupd,if_true] at he
    have:=hb b he
    have:=h.blt (getElem?_push_lt hi hil) hb'
    omega
   ·simp only [Eupd,if_neg hjl] at he
    exact h.bx.own i j ab1 ab2 b (getElem?_push_lt hi hil) hb' (getElem?_push_lt hj hjl) hl he
  ·intro i ab' hi
   by_cases hil:i=L.length
   ·subst hil
    simp at hi;subst hi;exact hbn
   ·exact h.bx.nd i ab' (getElem?_push_lt hi hil)
  ·intro i j ab1 ab2 b hi hj hb1 hb2
   by_cases hil:i=L.length<;>by_cases hjl:j=L.length
   ·omega
   ·subst hil
    simp at hi;subst hi
    have:=hbx b hb1
    have:=h.blt (getElem?_push_lt hj hjl) hb2
    omega
   ·subst hjl
    simp at hj;subst hj
    have:=hbx b hb2
    have:=h.blt (getElem?_push_lt hi hil) hb1
    omega
   ·exact h.bx.dj i j ab1 ab2 b (getElem?_push_lt hi hil) (getElem?_push_lt hj hjl) hb1 hb2
theorem le_keeps {c:Ctx} {E:Nat→Option Nat} {L:List AB} {w w':World} (hlt':∀ (i:Nat) (ab:AB),L[i]? = some ab→∀ b∈ab.boxes,b<w.heap.size) (k:Keeps w w'):(rcOf c.M0 E L w).le (rcOf c.M0 E L w'):=by
 refine ⟨?_,fun _ _ h=>h,?_,fun _ _ _ _ h=>h,fun i x v ⟨ab,h1,h2⟩=>⟨ab,h1,islRel_mono (fun b hb=>k.block b (hlt' i ab h1 b hb)) h2⟩⟩
 ·exact rdle rfl k.likes fun a u h1 h2=>⟨k.cell h1,h2⟩
 ·rintro i v ⟨ab',h1,h2⟩
  refine ⟨ab',h1,?_⟩
  cases ab' with
  | cells cs=>exact h2
  | map es=>exact h2
  | pool b cs=>exact h2
  | obj o=>exact h2
  | obs o n cap=>exact h2
  | dead=>exact h2
  | isle lo n ok=>exact h2.elim
  | row e n xs sh =>
    simp only [arRel] at h2 ⊢
    cases hE:E i with
    | none=>rw [hE] at h2;exact h2
    | some b =>
      rw [hE] at h2
      obtain ⟨cap,cur,h3,h4,h5⟩:=h2
      exact ⟨cap,cur,h3,by rw [k.block b (Array.getElem?_eq_some_iff.1 h4).1];exact h4,h5⟩
theorem SimH.keeps {c:Ctx} (hc:c.wf) {E:Nat→Option Nat} {L:List AB} {w w':World} (h:SimH c E L w) (k:Keeps w w'):SimH c E L w' :=
 ⟨k.os.trans h.os,k.tape.trans h.tape,k.output.trans h.output,Nat.le_trans h.size k.size,
  fun b hp=>by rw [k.block b (Nat.lt_of_lt_of_le (hc.low b hp) h.size)];exact h.prot b hp,
  fun i ab hi=>BR.mono (le_keeps h.bl k) (h.blk i ab hi) (fun b he hl=>k.block b (h.lt hi hl he)) fun b hb=>k.block b (h.blt hi hb),h.low,h.inj,h.old.trans (le_keeps h.bl k),h.bx,h.lk.trans k.likes,h.up⟩
theorem Sim.keeps {c:Ctx} (hc:c.wf) {E:Nat→Option Nat} {F:AF} {L:List AB} {a:Act} {w w':World} (h:Sim c E F L a w) (k:Keeps w w'):Sim c E F L a w' :=
 h.mono (h.h.keeps hc k) (le_keeps h.h.bl k)
end Go.Ab
namespace Go.Ab
open Go.RowKit
section
variable {α:Type} {r:α→Value→Prop}
theorem Cs_append:∀ {xs ys:List α} {us vs:List Value},Cs r xs us→Cs r ys vs→Cs r (xs++ys) (us++vs)
 | [],ys,us,vs,h,k=>by
   simp only [Cs] at h;subst h;simpa using k
 | x :: xs,ys,us,vs,h,k=>by
   simp only [Cs] at h
   obtain ⟨u,us',rfl,h0,h1,h2⟩:=h
   simp only [List.cons_append,Cs]
   exact ⟨u,us'++vs,rfl,h0,h1,Cs_append h2 k⟩
theorem Cs_length:∀ {xs:List α} {us:List Value},Cs r xs us→us.length=xs.length
 | [],us,h=>by simp only [Cs] at h;subst h;rfl
 | x :: xs,us,h=>by
   simp only [Cs] at h
   obtain ⟨u,us',rfl,h0,h1,h2⟩:=h
   simp [Cs_length h2]
theorem Cs_get:∀ {xs:List α} {us:List Value},Cs r xs us→∀ {i:Nat} {x:α},xs[i]? = some x→∃ u,us[i]? = some u∧u.oneCell'=true∧r x u
 | [],us,h,i,x,hx=>by simp at hx
 | y :: xs,us,h,i,x,hx=>by
   simp only [Cs] at h
   obtain ⟨u,us',rfl,h0,h1,h2⟩:=h
   cases i with
   | zero=>simp at hx;subst hx;exact ⟨u,by simp,h0,h1⟩
   | succ i=>simp only [List.getElem?_cons_succ] at hx ⊢;exact Cs_get h2 hx
theorem Cs_take:∀ {xs:List α} {us:List Value} (n:Nat),Cs r xs us→Cs r (xs.take n) (us.take n)
 | xs,us,0,h=>by simp [Cs]
 | [],us,n+1,h=>by simp only [Cs] at h;subst h;simp [Cs]
 | y :: xs,us,n+1,h=>by
   simp only [Cs] at h
   obtain ⟨u,us',rfl,h0,h1,h2⟩:=h
   simp only [List.take_succ_cons,Cs]
   exact ⟨u,us'.take n,rfl,h0,h1,Cs_take n h2⟩
theorem Cs_drop:∀ {xs:List α} {us:List Value} (n:Nat),Cs r xs us→Cs r (xs.drop n) (us.drop n)
 | xs,us,0,h=>by simpa using h
 | [],us,n+1,h=>by simp only [Cs] at h;subst h;simp [Cs]
 | y :: xs,us,n+1,h=>by
   simp only [Cs] at h
   obtain ⟨u,us',rfl,h0,h1,h2⟩:=h
   simpa using Cs_drop n h2
theorem Cs_one {xs:List α} {us:List Value} (h:Cs r xs us):∀ u∈us,u.oneCell'=true:=by
 intro u hu
 obtain ⟨i,hi⟩:=List.mem_iff_getElem?.1 hu
 have hlt:i<us.length:=(List.getElem?_eq_some_iff.1 hi).1
 rw [Cs_length h] at hlt
 obtain ⟨u',h1,h2,_⟩:=Cs_get h (List.getElem?_eq_getElem hlt)
 rw [hi] at h1;cases h1;exact h2
theorem Cs_of:∀ {xs:List α} {us:List Value},us.length=xs.length→(∀ (i:Nat) (x:α) (u:Value),xs[i]? = some x→us[i]? = some u→u.oneCell'=true∧r x u)→Cs r xs us
 | [],us,hl,_=>by simp only [Cs];exact List.eq_nil_of_length_eq_zero hl
 | x :: xs,[],hl,_=>by simp at hl
 | x :: xs,u :: us,hl,h=>by
   simp only [Cs]
   have h0:=h 0 x u (by simp) (by simp)
   exact ⟨u,us,rfl,h0.1,h0.2,Cs_of (by simpa using hl) fun i y v hy hv=>h (i+1) y v (by simpa using hy) (by simpa using hv)⟩
end
theorem VRs_append {R:RC} {xs ys:List AV} {us vs:List Value} (h:VRs R xs us) (k:VRs R ys vs):VRs R (xs++ys) (us++vs):=VRs_cs.2 (Cs_append (VRs_cs.1 h) (VRs_cs.1 k))
theorem VRs_length {R:RC} {xs:List AV} {us:List Value} (h:VRs R xs us):us.length=xs.length:=Cs_length (VRs_cs.1 h)
theorem VRs_get {R:RC} {xs:List AV} {us:List Value} (h:VRs R xs us) {i:Nat} {x:AV} (hx:xs[i]? = some x):∃ u,us[i]? = some u∧u.oneCell'=true∧VR R x u:=Cs_get (VRs_cs.1 h) hx
theorem VRs_take {R:RC} {xs:List AV} {us:List Value} (n:Nat) (h:VRs R xs us):VRs R (xs.take n) (us.take n):=VRs_cs.2 (Cs_take n (VRs_cs.1 h))
theorem VRs_drop {R:RC} {xs:List AV} {us:List Value} (n:Nat) (h:VRs R xs us):VRs R (xs.drop n) (us.drop n):=VRs_cs.2 (Cs_drop n (VRs_cs.1 h))
theorem VRs_one {R:RC} {xs:List AV} {us:List Value} (h:VRs R xs us):∀ u∈us,u.oneCell'=true:=Cs_one (VRs_cs.1 h)
theorem VRs_of {R:RC} {xs:List AV} {us:List Value} (hl:us.length=xs.length) (h:∀ (i:Nat) (x:AV) (u:Value),xs[i]? = some x→us[i]? = some u→u.oneCell'=true∧VR R x u):VRs R xs us:=VRs_cs.2 (Cs_of hl h)
theorem VRs_d {R:RC}:∀ {xs:List DV} {us:List Value},VRs R (xs.map AV.d) us↔VDs R.rd xs us
 | [],us=>by simp [VRs,VDs,Cs]
 | x :: xs,us=>by
   simp only [List.map_cons,VRs,VDs,Cs]
   constructor<;>(rintro ⟨u,us',h1,h2,h3,h4⟩;exact ⟨u,us',h1,h2,by simpa [VR] using h3,by first|exact VRs_d.1 h4|exact VRs_d.2 h4⟩)
theorem addr_eta (a:Addr) (h:a.spot=none):(⟨a.block,a.off,none⟩:Addr)=a:=by cases a;simp_all
theorem add_lit (a:Addr) (h:a.spot=none) (n:Nat):a.add n=⟨a.block,a.off+n,none⟩:=by
 unfold Addr.add
 split
 ·rename_i h0;subst h0;cases a;simp_all
 ·rfl
theorem VDC_of {rd rd':Addr→Value→Prop} (hle:∀ a u,rd a u→rd' a u):∀ {xs:List DV} {us:List Value} {a:Addr},VDs rd xs us→a.spot=none →
  (∀ j u,us[j]? = some u→rd' ⟨a.block,a.off+j,none⟩ u)→VDC rd' xs a
 | [],us,a,h,ha,k=>by simp [VDC]
 | x :: xs,us,a,h,ha,k=>by
   simp only [VDs,Cs] at h
   obtain ⟨u,us',rfl,h0,h1,h2⟩:=h
   simp only [VDC]
   refine ⟨⟨u,?_,h0,VD.mono hle _ _ h1⟩,VDC_of hle h2 rfl ?_⟩
   ·have:=k 0 u (by simp)
    simp only [Nat.add_zero] at this
    rwa [addr_eta a ha] at this
   ·intro j v hj
    have:=k (j+1) v (by simpa using hj)
    simpa [Nat.add_assoc,Nat.add_comm 1 j] using this
theorem VDE_of {rd rd':Addr→Value→Prop} (hle:∀ a u,rd a u→rd' a u) (n:Nat):∀ {xs:List (List DV)} {us:List Value} {a:Addr},VDs rd xs.flatten us→(∀ cs∈xs,cs.length=n)→a.spot=none →
  (∀ j u,us[j]? = some u→rd' ⟨a.block,a.off+j,none⟩ u)→VDE rd' n xs a
 | [],us,a,h,hn,ha,k=>by simp [VDE]
 | cs :: xs,us,a,h,hn,ha,k=>by
   have hcs:cs.length=n:=hn cs (by simp)
   simp only [List.flatten_cons] at h
   have h1:=Cs_take n h
   have h2:=Cs_drop n h
   rw [← hcs,List.take_left] at h1
   rw [← hcs,List.drop_left] at h2
   simp only [VDE]
   refine ⟨hcs,VDC_of hle h1 ha (fun j u hj => ?_),VDE_of hle n h2 (fun c hc=>hn c (by simp [hc])) rfl (fun j u hj => ?_)⟩
   ·rw [List.getElem?_take] at hj
    split at hj
    ·exact k j u hj
    ·cases hj
   ·rw [List.getElem?_drop] at hj
    have:=k _ u hj
    rw [hcs] at this
    simpa [Nat.add_assoc] using this
theorem VDC_vals {rd:Addr→Value→Prop}:∀ {xs:List DV} {a:Addr},VDC rd xs a→a.spot=none→∃ us,VDs rd xs us∧∀ (j:Nat) (u:Value),us[j]? = some u→rd ⟨a.block,a.off+j,none⟩ u
 | [],a,h,ha=>⟨[],by simp [VDs,Cs],by simp⟩
 | x :: xs,a,h,ha=>by
   simp only [VDC] at h
   obtain ⟨⟨u,h1,h0,h2⟩,h3⟩:=h
   obtain ⟨us,k1,k2⟩:=VDC_vals h3 rfl
   refine ⟨u :: us,by simp only [VDs,Cs];exact ⟨u,us,rfl,h0,h2,k1⟩,fun j v hj => ?_⟩
   cases j with
   | zero=>simp at hj;subst hj;simpa [addr_eta a ha] using h1
   | succ j =>
     have:=k2 j v (by simpa using hj)
     simpa [Nat.add_assoc,Nat.add_comm 1 j] using this
theorem VDE_vals {rd:Addr→Value→Prop} (n:Nat):∀ {xs:List (List DV)} {a:Addr},VDE rd n xs a→a.spot=none→∃ us,VDs rd xs.flatten us∧us.length=xs.length * n∧∀ (j:Nat) (u:Value),us[j]? = some u→rd ⟨a.block,a.off+j,none⟩ u
 | [],a,h,ha=>⟨[],by simp [VDs,Cs],by simp,by simp⟩
 | cs :: xs,a,h,ha=>by
   simp only [VDE] at h
   obtain ⟨hn,h1,h2⟩:=h
   obtain ⟨us,k1,k2⟩:=VDC_vals h1 ha
   obtain ⟨vs,l1,l0,l2⟩:=VDE_vals n h2 rfl
   have hl:us.length=n:=by rw [Cs_length k1,hn]
   refine ⟨us++vs,by rw [List.flatten_cons];exact Cs_append k1 l1,by simp [l0,hl,Nat.add_mul,Nat.add_comm],fun j v hj => ?_⟩
   rcases Nat.lt_or_ge j us.length with hlt|hge
   ·rw [List.getElem?_append_left hlt] at hj
    exact k2 j v hj
   ·rw [List.getElem?_append_right hge] at hj
    have:=l2 _ v hj
    have e:a.off+n+(j - us.length)=a.off+j:=by omega
    rw [e] at this
    exact this
theorem VDE_get {rd:Addr→Value→Prop} (n:Nat):∀ {xs:List (List DV)} {a:Addr},VDE rd n xs a→a.spot=none→∀ {i:Nat} {cs:List DV},xs[i]? = some cs→cs.length=n∧VDC rd cs ⟨a.block,a.off+i * n,none⟩
 | [],a,h,ha,i,cs,hi=>by simp at hi
 | c :: xs,a,h,ha,i,cs,hi=>by
   simp only [VDE] at h
   obtain ⟨hn,h1,h2⟩:=h
   cases i with
   | zero=>simp at hi;subst hi;refine ⟨hn,?_⟩;simpa [addr_eta a ha] using h1
   | succ i =>
     simp only [List.getElem?_cons_succ] at hi
     have:=VDE_get n h2 rfl hi
     refine ⟨this.1,?_⟩
     have e:a.off+n+i * n=a.off+(i+1) * n:=by rw [Nat.add_mul];omega
     simpa [e] using this.2
structure Turns (b:Nat) (w w':World):Prop where
 os:w'.os=w.os
 tape:w'.tape=w.tape
 output:w'.output=w.output
 size:w'.heap.size=w.heap.size
 block:∀ k,k≠b→w'.heap[k]? = w.heap[k]?
theorem Turns.setRow (w:World) (b:Nat) (cs:Array Value):Turns b w (w.setRow b cs) :=
 ⟨rfl,rfl,rfl,by simp [World.setRow],fun k hk=>setRow_other w b k cs hk⟩
end Go.Ab
namespace Go.Ab
open Go.RowKit
structure TurnsE (eb:Option Nat) (w w':World):Prop where
 os:w'.os=w.os
 tape:w'.tape=w.tape
 output:w'.output=w.output
 size:w'.heap.size=w.heap.size
 block:∀ k,eb≠some k→w'.heap[k]? = w.heap[k]?
 like:Likes w w'
theorem TurnsE.refl (eb:Option Nat) (w:World):TurnsE eb w w:=⟨rfl,rfl,rfl,rfl,fun _ _=>rfl,.refl w⟩
theorem Turns.toE {b:Nat} {w w':World} (h:Turns b w w') (hl:Likes w w'):TurnsE (some b) w w':=⟨h.os,h.tape,h.output,h.size,fun k hk=>h.block k (fun e=>hk (by rw [e])),hl⟩
theorem spot_none {w:World} {a:Addr} {u:Value} (h:w.cell? a=some u):a.spot=none:=by
 unfold World.cell? at h
 split at h
 ·split at h
  ·cases h
  ·rename_i hs;cases hsp:a.spot with
   | none=>rfl
   | some x=>simp [hsp] at hs
 ·cases h
theorem getElem?_set_other {α:Type} {L:List α} {i j:Nat} {x:α} (h:j≠i):(L.set i x)[j]? = L[j]? := by
 rw [List.getElem?_set];simp [Ne.symm h]
theorem getElem?_set_same {α:Type} {L:List α} {i:Nat} {x y:α} (h:L[i]? = some y):(L.set i x)[i]? = some x:=by
 have:=(List.getElem?_eq_some_iff.1 h).1
 rw [List.getElem?_set];simp [this]
theorem le_set {c:Ctx} {E:Nat→Option Nat} {L:List AB} {w w':World} (h:SimH c E L w) {i:Nat} {ab ab':AB} (hi:L[i]? = some ab) (hl:ab.live=true)
  (k:TurnsE (E i) w w') (hmut:∀ o,ab'.mut o→ab.mut o)
  (hrd:∀ b o u,E i=some b→¬ab.mut o→w.cell? ⟨b,o,none⟩=some u→w'.cell? ⟨b,o,none⟩=some u)
  (hcell:ab'.isCell=ab.isCell) (har:∀ v,arRel E w i v ab→arRel E w' i v ab') (hap:∀ j o v,apRel E i j o v ab→apRel E i j o v ab') (hbx:∀ b∈ab'.boxes,b∈ab.boxes) :
  (rcOf c.M0 E L w).le (rcOf c.M0 E (L.set i ab') w'):=by
 have hother:∀ j abj b,j≠i→L[j]? = some abj→abj.live=true→E j=some b→w'.heap[b]? = w.heap[b]? := by
  intro j abj b hj hLj hlj hEj
  refine k.block b ?_
  intro he
  exact hj (h.inj j i abj ab b hLj hi hlj hl hEj he)
 refine ⟨?_,?_,?_,?_,?_⟩
 ·refine rdle rfl k.like ?_
  rintro a u h1 h2
  have hsp:=spot_none h1
  constructor
  ·by_cases he:E i=some a.block
   ·have:=hrd a.block a.off u he (fun hm=>h2 (.inr (.inl ⟨i,ab,hi,he,hm⟩))) (by rw [addr_eta a hsp];exact h1)
    rwa [addr_eta a hsp] at this
   ·rw [World.cell?_of_block (w:=w) (k.block a.block he)];exact h1
  ·rintro (hm|⟨j,abj,hj,he,hm⟩|⟨j,abj,hj,hm⟩)
   ·exact h2 (.inl hm)
   ·by_cases hji:j=i
    ·subst hji
     rw [getElem?_set_same hi] at hj;cases hj
     exact h2 (.inr (.inl ⟨j,ab,hi,he,hmut _ hm⟩))
    ·rw [getElem?_set_other hji] at hj
     exact h2 (.inr (.inl ⟨j,abj,hj,he,hm⟩))
   ·by_cases hji:j=i
    ·subst hji
     rw [getElem?_set_same hi] at hj;cases hj
     exact h2 (.inr (.inr ⟨j,ab,hi,hbx _ hm⟩))
    ·rw [getElem?_set_other hji] at hj
     exact h2 (.inr (.inr ⟨j,abj,hj,hm⟩))
 ·rintro j b ⟨abj,h1,h2,h3⟩
  by_cases hji:j=i
  ·subst hji
   rw [hi] at h1;cases h1
   exact ⟨ab',getElem?_set_same hi,by rw [hcell];exact h2,h3⟩
  ·exact ⟨abj,by rw [getElem?_set_other hji];exact h1,h2,h3⟩
 ·rintro j v ⟨abj,h1,h2⟩
  by_cases hji:j=i
  ·subst hji
   rw [hi] at h1;cases h1
   exact ⟨ab',getElem?_set_same hi,har v h2⟩
  ·refine ⟨abj,by rw [getElem?_set_other hji];exact h1,?_⟩
   cases abj with
   | cells cs=>exact h2
   | map es=>exact h2
   | pool b cs=>exact h2
   | obj o=>exact h2
   | obs o n cap=>exact h2
   | dead=>exact h2
   | isle lo n ok=>exact h2.elim
   | row e n xs sh =>
     simp only [arRel] at h2 ⊢
     cases hE:E j with
     | none=>rw [hE] at h2;exact h2
     | some b =>
       rw [hE] at h2
       obtain ⟨cap,cur,h3,h4,h5⟩:=h2
       exact ⟨cap,cur,h3,by rw [hother j _ b hji h1 rfl hE];exact h4,h5⟩
 ·rintro j x o v ⟨abj,h1,h2⟩
  by_cases hji:j=i
  ·subst hji
   rw [hi] at h1;cases h1
   exact ⟨ab',getElem?_set_same hi,hap x o v h2⟩
  ·exact ⟨abj,by rw [getElem?_set_other hji];exact h1,h2⟩
 ·rintro j x v ⟨abj,h1,h2⟩
  have hji:j≠i:=by
   rintro rfl
   rw [hi] at h1;cases h1
   obtain ⟨_,_,_,rfl⟩:=islRel_boxes h2
   cases hl
  exact ⟨abj,by rw [getElem?_set_other hji];exact h1,islRel_mono (fun b hb=>k.block b fun he=>h.bx.own j i abj ab b h1 hb hi hl he) h2⟩
theorem Boxy.set {P0:Nat→Prop} {E:Nat→Option Nat} {L:List AB} (h:Boxy P0 E L) {i:Nat} {ab ab':AB} (hi:L[i]? = some ab) (hl:ab.live=true) (hbx:ab'.boxes=ab.boxes):Boxy P0 E (L.set i ab'):=by
 have look:∀ (j:Nat) (abj:AB),(L.set i ab')[j]? = some abj→∃ ab0,L[j]? = some ab0∧abj.boxes=ab0.boxes∧(abj.live=true→ab0.live=true):=by
  intro j abj hj
  by_cases hji:j=i
  ·subst hji
   rw [getElem?_set_same hi] at hj;cases hj
   exact ⟨ab,hi,hbx,fun _=>hl⟩
  ·rw [getElem?_set_other hji] at hj
   exact ⟨abj,hj,rfl,id⟩
 refine ⟨?_,?_,?_,?_⟩
 ·intro j abj b hj hb
  obtain ⟨ab0,h1,h2,h3⟩:=look j abj hj
  rw [h2] at hb
  exact h.low j ab0 b h1 hb
 ·intro j k abj abk b hj hb hk hlk he
  obtain ⟨ab0,h1,h2,h3⟩:=look j abj hj
  obtain ⟨ab1,k1,k2,k3⟩:=look k abk hk
  rw [h2] at hb
  exact h.own j k ab0 ab1 b h1 hb k1 (k3 hlk) he
 ·intro j abj hj
  obtain ⟨ab0,h1,h2,h3⟩:=look j abj hj
  rw [h2];exact h.nd j ab0 h1
 ·intro j k abj abk b hj hk hb hb'
  obtain ⟨ab0,h1,h2,h3⟩:=look j abj hj
  obtain ⟨ab1,k1,k2,k3⟩:=look k abk hk
  rw [h2] at hb
  rw [k2] at hb'
  exact h.dj j k ab0 ab1 b h1 k1 hb hb'
def RowOf (ab ab':AB):Prop:=match ab' with
 | .row _ _ _ _=>match ab with
   | .row _ _ _ _=>True
   | _=>False
 | _=>True
theorem RUp.set {s:Option SQ} {E:Nat→Option Nat} {L:List AB} (h:RUp s E L) {i:Nat} {ab ab':AB} (hi:L[i]? = some ab) (hr:RowOf ab ab'):RUp s E (L.set i ab'):=by
 intro s0 hs j e n xs sh b hj he
 by_cases hji:j=i
 ·subst hji
  rw [getElem?_set_same hi] at hj;cases hj
  cases ab with
  | row e1 n1 xs1 sh1=>exact h s0 hs j e1 n1 xs1 sh1 b hi he
  | _=>exact hr.elim
 ·rw [getElem?_set_other hji] at hj
  exact h s0 hs j e n xs sh b hj he
theorem SimH.setE {c:Ctx} {E:Nat→Option Nat} {L:List AB} {w w':World} (h:SimH c E L w) {i:Nat} {ab ab':AB} (hi:L[i]? = some ab) (hl:ab.live=true)
  (k:TurnsE (E i) w w') (hle:(rcOf c.M0 E L w).le (rcOf c.M0 E (L.set i ab') w')) (hcell:ab'.isCell=ab.isCell)
  (hbr:BR (rcOf c.M0 E (L.set i ab') w') w' (E i) ab') (hbx:ab'.boxes=ab.boxes) (hrow:RowOf ab ab':=by trivial):SimH c E (L.set i ab') w':=by
 refine ⟨k.os.trans h.os,k.tape.trans h.tape,k.output.trans h.output,by rw [k.size];exact h.size,?_,?_,?_,?_,?_,h.bx.set hi hl hbx,h.lk.trans k.like,h.up.set hi hrow⟩
 ·intro b hp
  rw [k.block b (fun he=>h.low i ab b hi hl he hp)]
  exact h.prot b hp
 ·intro j abj hj
  by_cases hji:j=i
  ·subst hji
   rw [getElem?_set_same hi] at hj;cases hj
   exact hbr
  ·rw [getElem?_set_other hji] at hj
   refine BR.mono hle (h.blk j abj hj) (fun b he hlj=>k.block b ?_) fun b hb=>k.block b fun he'=>h.bx.own j i abj ab b hj hb hi hl he'
   intro he'
   exact hji (h.inj j i abj ab b hj hi hlj hl he he')
 ·intro j abj b hj hlj he
  by_cases hji:j=i
  ·subst hji
   exact h.low j ab b hi hl he
  ·rw [getElem?_set_other hji] at hj
   exact h.low j abj b hj hlj he
 ·intro j1 j2 ab1 ab2 b h1 h2 l1 l2 e1 e2
  by_cases hj1:j1=i<;>by_cases hj2:j2=i
  ·omega
  ·subst hj1
   rw [getElem?_set_other hj2] at h2
   exact h.inj j1 j2 ab ab2 b hi h2 hl l2 e1 e2
  ·subst hj2
   rw [getElem?_set_other hj1] at h1
   exact h.inj j1 j2 ab1 ab b h1 hi l1 hl e1 e2
  ·rw [getElem?_set_other hj1] at h1
   rw [getElem?_set_other hj2] at h2
   exact h.inj j1 j2 ab1 ab2 b h1 h2 l1 l2 e1 e2
 ·exact h.old.trans hle
theorem tk_row {c:Ctx} {E:Nat→Option Nat} {L:List AB} {w:World} (h:SimH c E L w) {i:Nat} {e0:TypeId} {n0:Nat} {xs0:List (List DV)} {sh0:Bool} (hi:L[i]? = some (.row e0 n0 xs0 sh0)) {b:Nat} (hb:E i=some b)
  {cur:Array Value} {e:TypeId} {n cap:Nat} (hh:w.heap[b]? = some (.cells cur e (0,0))) (hs:cur.size=cap * n) (hn:RN e n):Tk c.M0.s w ⟨b,0,some n⟩ (.slice (some ⟨b,0,none⟩) 0 cap):=by
 refine ⟨n,rfl,fun s0 hs0=>⟨fun h0=>absurd hn.1 (by omega),fun _=>⟨?_,cur,e,(0,0),cap,rfl,hh,unfroz_0 _,hn.2,Nat.zero_mod n,by show 0+cap * n≤cur.size;omega⟩⟩⟩
 exact h.up s0 hs0 i _ _ _ _ b hi hb
theorem SimH.close {c:Ctx} (hc:c.wf) {E:Nat→Option Nat} {L:List AB} {w:World} (h:SimH c E L w) {i e n:Nat} {xs:List (List DV)} {sh:Bool} (hi:L[i]? = some (.row e n xs sh)) :
  SimH c E (L.set i (.row e n xs true)) w∧(rcOf c.M0 E L w).le (rcOf c.M0 E (L.set i (.row e n xs true)) w) ∧
  ∀ v,VR (rcOf c.M0 E L w) (.arr i) v→VR (rcOf c.M0 E (L.set i (.row e n xs true)) w) (.d (.sl n xs)) v:=by
 have hle:(rcOf c.M0 E L w).le (rcOf c.M0 E (L.set i (.row e n xs true)) w) :=
  le_set h hi rfl (.refl _ _) (fun o hm hs=>hm rfl) (fun _ _ _ _ _ h=>h) rfl (fun v hv=>hv) (fun _ _ _ hv=>hv) (fun _ hb=>hb)
 have hbr:=h.blk i _ hi
 have hbr':BR (rcOf c.M0 E (L.set i (.row e n xs true)) w) w (E i) (.row e n xs true) :=
  BR.mono (ab := .row e n xs sh) hle hbr (fun _ _ _=>rfl) fun _ _=>rfl
 refine ⟨h.setE hi rfl (.refl _ _) hle rfl hbr' rfl,hle,?_⟩
 intro v hv
 simp only [VR,VD] at hv ⊢
 obtain ⟨ab,hab,hrel⟩:=hv
 rw [hi] at hab;cases hab
 obtain ⟨hn,hlen,hbr2⟩:=hbr
 simp only [arRel] at hrel
 refine ⟨hn.1,?_⟩
 cases hE:E i with
 | none =>
   rw [hE] at hrel hbr2
   simp only at hrel hbr2
   subst hbr2
   exact ⟨none,0,by simpa using hrel,by simp,by simp [maxLen],fun _=>rfl,(fun a' h=>by cases h)⟩
 | some b =>
   rw [hE] at hrel hbr2
   obtain ⟨cap,cur,hv,hh,hs⟩:=hrel
   obtain ⟨cap',cur',hh',hs',hle1,hle2,hvrs⟩:=hbr2
   rw [hh] at hh';cases hh'
   have hcap:cap=cap':=Nat.eq_of_mul_eq_mul_right hn.1 (hs.symm.trans hs')
   subst hcap
   refine ⟨some ⟨b,0,none⟩,cap,hv,hle1,hle2,(fun h=>by cases h),fun a' ha => ?_⟩
   cases ha
   refine ⟨.inr rfl,fun _ => .inr (tk_row h hi hE hh hs hn),VDE_of hle.rd n hvrs hlen rfl ?_⟩
   intro j u hj
   rw [List.getElem?_take] at hj
   split at hj
   ·rename_i hlt
    refine .inl ⟨?_,?_⟩
    ·rw [cell_of_row w b _ cur e (0,0) hh]
     simpa using hj
    ·rintro (hm|⟨k,abk,hk,hek,hm⟩|⟨k,abk,hk,hm⟩)
     ·exact h.low i _ b hi rfl hE (hc.sub _ _ hm)
     ·by_cases hki:k=i
      ·subst hki
       rw [getElem?_set_same hi] at hk;cases hk
       have:=hm rfl
       simp at this
       omega
      ·rw [getElem?_set_other hki] at hk
       exact hki (h.inj k i abk _ b hk hi (AB.mut_live hm) rfl hek hE)
     ·by_cases hki:k=i
      ·subst hki
       rw [getElem?_set_same hi] at hk;cases hk
       simp [AB.boxes] at hm
      ·rw [getElem?_set_other hki] at hk
       exact h.bx.own k i abk _ b hk hm hi rfl hE
   ·cases hj
theorem SimH.store {c:Ctx} {E:Nat→Option Nat} {L:List AB} {w:World} (h:SimH c E L w) {i:Nat} {cs cs':List AV} (hi:L[i]? = some (.cells cs)) {b:Nat} (hb:E i=some b)
  {cur cur':Array Value} {e:TypeId} (hh:w.heap[b]? = some (.cells cur e (0,0))) (hv:VRs (rcOf c.M0 E L w) cs' cur'.toList) (hsz:cs'.length=cs.length) :
  SimH c E (L.set i (.cells cs')) (w.setRow b cur')∧(rcOf c.M0 E L w).le (rcOf c.M0 E (L.set i (.cells cs')) (w.setRow b cur')):=by
 have hs0:cur'.size=cur.size:=by
  obtain ⟨b1,c1,e1,k1,k2,k3⟩:=h.blk i _ hi
  rw [hb] at k1;cases k1
  rw [hh] at k2;cases k2
  have:=VRs_length hv
  have:=VRs_length k3
  simp only [Array.length_toList] at *
  omega
 have k:TurnsE (E i) w (w.setRow b cur'):=by rw [hb];exact (Turns.setRow w b cur').toE (likes_setRow hh hs0)
 have hle:(rcOf c.M0 E L w).le (rcOf c.M0 E (L.set i (.cells cs')) (w.setRow b cur')) :=
  le_set h hi rfl k (fun o _=>trivial) (fun _ _ _ _ hn _=>absurd trivial hn) rfl (fun v hv=>by simp only [arRel] at hv ⊢;rw [hsz];exact hv) (fun _ _ _ hv=>hv) (fun _ hb=>hb)
 refine ⟨h.setE hi rfl k hle rfl ?_ rfl,hle⟩
 exact ⟨b,cur',e,hb,setRow_heap w b cur cur' e (0,0) hh,VRs.mono hle _ _ hv⟩
theorem SimH.kill {c:Ctx} {E:Nat→Option Nat} {L:List AB} {w:World} (h:SimH c E L w) {i e n:Nat} {xs:List (List DV)} {sh:Bool} (hi:L[i]? = some (.row e n xs sh)) :
  SimH c E (L.set i .dead) w∧(rcOf c.M0 E L w).le (rcOf c.M0 E (L.set i .dead) w):=by
 have hle:(rcOf c.M0 E L w).le (rcOf c.M0 E (L.set i .dead) w) :=
  le_set h hi rfl (.refl _ _) (fun o hm=>absurd hm (by simp [AB.mut])) (fun _ _ _ _ _ h=>h) rfl (fun v hv=>arRel_slice hv) (fun _ _ _ hv=>apRel_pointer hv) (fun _ hb=>hb)
 exact ⟨h.setE hi rfl (.refl _ _) hle rfl trivial rfl,hle⟩
theorem SimH.relabel {c:Ctx} {E:Nat→Option Nat} {L:List AB} {w:World} (h:SimH c E L w) {i e n:Nat} {xs zs:List (List DV)} {sh:Bool} (hi:L[i]? = some (.row e n xs sh))
  (hlen:xs.length≤zs.length) (hbr:BR (rcOf c.M0 E L w) w (E i) (.row e n zs sh)) :
  SimH c (Eupd E L.length (E i)) (L.set i .dead++[.row e n zs sh]) w∧(rcOf c.M0 E L w).le (rcOf c.M0 (Eupd E L.length (E i)) (L.set i .dead++[.row e n zs sh]) w):=by
 have hilt:i<L.length:=(List.getElem?_eq_some_iff.1 hi).1
 have look:∀ j ab,(L.set i .dead++[AB.row e n zs sh])[j]? = some ab→(j=L.length∧ab = .row e n zs sh)∨(j=i∧ab = .dead)∨(j≠L.length∧j≠i∧L[j]? = some ab):=by
  intro j ab hj
  by_cases h1:j=L.length
  ·subst h1
   have:(L.set i .dead++[AB.row e n zs sh])[L.length]? = some (.row e n zs sh):=by
    rw [List.getElem?_append_right (by simp)];simp
   rw [this] at hj;cases hj;exact .inl ⟨rfl,rfl⟩
  ·have h2:(L.set i AB.dead)[j]? = some ab:=getElem?_push_lt hj (by simpa using h1)
   by_cases h3:j=i
   ·subst h3
    rw [getElem?_set_same hi] at h2;cases h2;exact .inr (.inl ⟨rfl,rfl⟩)
   ·rw [getElem?_set_other h3] at h2
    exact .inr (.inr ⟨h1,h3,h2⟩)
 have back:∀ j ab,L[j]? = some ab→j≠i→(L.set i .dead++[AB.row e n zs sh])[j]? = some ab:=by
  intro j ab hj hji
  have:j<L.length:=(List.getElem?_eq_some_iff.1 hj).1
  rw [List.getElem?_append_left (by simpa using this),getElem?_set_other hji];exact hj
 have backi:(L.set i .dead++[AB.row e n zs sh])[i]? = some .dead:=by
  rw [List.getElem?_append_left (by simpa using hilt),getElem?_set_same hi]
 have hE:∀ j ab,L[j]? = some ab→Eupd E L.length (E i) j=E j:=by
  intro j ab hj
  have:j<L.length:=(List.getElem?_eq_some_iff.1 hj).1
  simp only [Eupd];rw [if_neg (by omega)]
 have hEn:Eupd E L.length (E i) L.length=E i:=by simp [Eupd]
 have hle:(rcOf c.M0 E L w).le (rcOf c.M0 (Eupd E L.length (E i)) (L.set i .dead++[.row e n zs sh]) w):=by
  refine ⟨?_,?_,?_,?_,?_⟩
  ·refine rdle rfl (.refl _) ?_
   rintro a u h1 h2
   refine ⟨h1,?_⟩
   rintro (hm|⟨j,abj,hj,he,hm⟩|⟨j,abj,hj,hm⟩)
   ·exact h2 (.inl hm)
   ·rcases look j abj hj with ⟨rfl,rfl⟩|⟨rfl,rfl⟩|⟨n1,n2,hj'⟩
    ·rw [hEn] at he
     refine h2 (.inr (.inl ⟨i,_,hi,he,fun hs => ?_⟩))
     have:=hm hs
     exact Nat.le_trans (Nat.mul_le_mul_right n hlen) this
    ·exact hm.elim
    ·rw [hE j abj hj'] at he
     exact h2 (.inr (.inl ⟨j,abj,hj',he,hm⟩))
   ·rcases look j abj hj with ⟨rfl,rfl⟩|⟨rfl,rfl⟩|⟨n1,n2,hj'⟩
    ·simp [AB.boxes] at hm
    ·simp [AB.boxes] at hm
    ·exact h2 (.inr (.inr ⟨j,abj,hj',hm⟩))
  ·rintro j b ⟨abj,h1,h2,h3⟩
   have hji:j≠i:=by rintro rfl;rw [hi] at h1;cases h1;simp [AB.isCell] at h2
   exact ⟨abj,back j abj h1 hji,h2,by rw [hE j abj h1];exact h3⟩
  ·rintro j v ⟨abj,h1,h2⟩
   by_cases hji:j=i
   ·subst hji;exact ⟨.dead,backi,arRel_slice h2⟩
   ·refine ⟨abj,back j abj h1 hji,?_⟩
    cases abj with
    | cells cs=>simp only [arRel] at h2 ⊢;rw [hE j _ h1];exact h2
    | map es=>exact h2
    | pool b cs=>exact h2
    | obj o=>exact h2
    | obs o n cap=>simp only [arRel] at h2 ⊢;rw [hE j _ h1];exact h2
    | dead=>exact h2
    | isle lo n ok=>exact h2.elim
    | row e n xs sh=>simp only [arRel] at h2 ⊢;rw [hE j _ h1];exact h2
  ·rintro j x o v ⟨abj,h1,h2⟩
   by_cases hji:j=i
   ·subst hji;exact ⟨.dead,backi,apRel_pointer h2⟩
   ·refine ⟨abj,back j abj h1 hji,?_⟩
    cases abj with
    | cells cs=>exact h2
    | map es=>exact h2
    | pool b cs=>exact h2
    | obj o=>exact h2
    | obs o n cap=>exact h2
    | dead=>exact h2
    | isle lo n ok=>exact h2.elim
    | row e n xs sh=>simp only [apRel] at h2 ⊢;rw [hE j _ h1];exact h2
  ·rintro j x v ⟨abj,h1,h2⟩
   have hji:j≠i:=by
    rintro rfl
    rw [hi] at h1;cases h1
    exact h2.elim
   exact ⟨abj,back j abj h1 hji,h2⟩
 refine ⟨⟨h.os,h.tape,h.output,h.size,h.prot,?_,?_,?_,?_,?_,h.lk,fun s0 hs0 j e1 m1 ys sh1 b hj he => ?_⟩,hle⟩
 rotate_right
 ·rcases look j _ hj with ⟨rfl,hx⟩|⟨rfl,hx⟩|⟨n1,n2,hj'⟩
  ·rw [hEn] at he;exact h.up s0 hs0 i _ _ _ _ b hi he
  ·cases hx
  ·rw [hE j _ hj'] at he;exact h.up s0 hs0 j _ _ _ _ b hj' he
 ·intro j ab hj
  rcases look j ab hj with ⟨rfl,rfl⟩|⟨rfl,rfl⟩|⟨n1,n2,hj'⟩
  ·rw [hEn];exact BR.mono hle hbr (fun _ _ _=>rfl) fun _ _=>rfl
  ·trivial
  ·rw [hE j ab hj'];exact BR.mono hle (h.blk j ab hj') (fun _ _ _=>rfl) fun _ _=>rfl
 ·intro j ab b hj hl he
  rcases look j ab hj with ⟨rfl,rfl⟩|⟨rfl,rfl⟩|⟨n1,n2,hj'⟩
  ·rw [hEn] at he;exact h.low i _ b hi rfl he
  ·cases hl
  ·rw [hE j ab hj'] at he;exact h.low j ab b hj' hl he
 ·intro j1 j2 ab1 ab2 b h1 h2 l1 l2 e1 e2
  rcases look j1 ab1 h1 with ⟨rfl,rfl⟩|⟨rfl,rfl⟩|⟨n1,n2,hj1⟩
  ·rw [hEn] at e1
   rcases look j2 ab2 h2 with ⟨rfl,rfl⟩|⟨rfl,rfl⟩|⟨n1,n2,hj2⟩
   ·rfl
   ·cases l2
   ·rw [hE j2 ab2 hj2] at e2
    exact absurd (h.inj j2 i ab2 _ b hj2 hi l2 rfl e2 e1) n2
  ·cases l1
  ·rw [hE j1 ab1 hj1] at e1
   rcases look j2 ab2 h2 with ⟨rfl,rfl⟩|⟨rfl,rfl⟩|⟨m1,m2,hj2⟩
   ·rw [hEn] at e2
    exact absurd (h.inj j1 i ab1 _ b hj1 hi l1 rfl e1 e2) n2
   ·cases l2
   ·rw [hE j2 ab2 hj2] at e2
    exact h.inj j1 j2 ab1 ab2 b hj1 hj2 l1 l2 e1 e2
 ·exact h.old.trans hle
 ·have hbox:∀ (j:Nat) (ab:AB),(L.set i .dead++[AB.row e n zs sh])[j]? = some ab→∀ b∈ab.boxes,L[j]? = some ab:=by
   intro j ab hj b hb
   rcases look j ab hj with ⟨rfl,rfl⟩|⟨rfl,rfl⟩|⟨n1,n2,hj'⟩
   ·simp [AB.boxes] at hb
   ·simp [AB.boxes] at hb
   ·exact hj'
  refine ⟨fun j ab b hj hb=>h.bx.low j ab b (hbox j ab hj b hb) hb,?_,?_,fun j k ab ab' b hj hk hb hb'=>h.bx.dj j k ab ab' b (hbox j ab hj b hb) (hbox k ab' hk b hb') hb hb'⟩
  ·intro j k ab ab' b hj hb hk hl he
   have hj0:=hbox j ab hj b hb
   rcases look k ab' hk with ⟨rfl,rfl⟩|⟨rfl,rfl⟩|⟨n1,n2,hk'⟩
   ·rw [hEn] at he;exact h.bx.own j i ab _ b hj0 hb hi rfl he
   ·cases hl
   ·rw [hE k ab' hk'] at he;exact h.bx.own j k ab ab' b hj0 hb hk' hl he
  ·intro j ab hj
   rcases look j ab hj with ⟨rfl,rfl⟩|⟨rfl,rfl⟩|⟨n1,n2,hj'⟩
   ·simp [AB.boxes]
   ·simp [AB.boxes]
   ·exact h.bx.nd j ab hj'
theorem SimH.write {c:Ctx} {E:Nat→Option Nat} {L:List AB} {w:World} (h:SimH c E L w) {i e n:Nat} {xs:List (List DV)} {sh:Bool} (hi:L[i]? = some (.row e n xs sh)) {b:Nat} (hb:E i=some b)
  {cur cur':Array Value} (hh:w.heap[b]? = some (.cells cur e (0,0))) (hs:cur'.size=cur.size) (hk:cur'.toList.take (xs.length * n)=cur.toList.take (xs.length * n)) :
  SimH c E L (w.setRow b cur')∧(rcOf c.M0 E L w).le (rcOf c.M0 E L (w.setRow b cur')):=by
 have k:TurnsE (E i) w (w.setRow b cur'):=by rw [hb];exact (Turns.setRow w b cur').toE (likes_setRow hh hs)
 have hL:L.set i (.row e n xs sh)=L:=by
  apply List.ext_getElem?
  intro j
  by_cases hji:j=i
  ·subst hji;rw [getElem?_set_same hi,hi]
  ·rw [getElem?_set_other hji]
 have hle:(rcOf c.M0 E L w).le (rcOf c.M0 E (L.set i (.row e n xs sh)) (w.setRow b cur')):=by
  refine le_set h hi rfl k (fun o hm=>hm) ?_ rfl ?_ (fun _ _ _ hv=>hv) (fun _ hb=>hb)
  ·intro b' o u hb' hn hc
   rw [hb] at hb';cases hb'
   rw [cell_setRow_same w b o cur cur' e (0,0) hh]
   rw [cell_of_row w b o cur e (0,0) hh] at hc
   have ho:o<xs.length * n:=by
    simp only [AB.mut] at hn
    rcases Nat.lt_or_ge o (xs.length * n) with h1|h1
    ·exact h1
    ·exact absurd (fun _=>h1) hn
   have h1:(cur'.toList.take (xs.length * n))[o]? = (cur.toList.take (xs.length * n))[o]? := by rw [hk]
   rw [List.getElem?_take,List.getElem?_take,if_pos ho,if_pos ho] at h1
   simp only [Array.getElem?_toList] at h1
   rw [h1];exact hc
  ·intro v hv
   simp only [arRel,hb] at hv ⊢
   obtain ⟨cap,cur2,h1,h2,h3⟩:=hv
   rw [hh] at h2;cases h2
   exact ⟨cap,cur',h1,setRow_heap w b cur cur' e (0,0) hh,by rw [hs];exact h3⟩
 have:=h.setE hi rfl k hle rfl ?_ rfl
 ·rw [hL] at this hle;exact ⟨this,hle⟩
 ·have hbr:=h.blk i _ hi
  obtain ⟨hn,hl,h3⟩:=hbr
  refine ⟨hn,hl,?_⟩
  rw [hb] at h3 ⊢
  obtain ⟨cap,cur2,h4,h5,h6,h7,h8⟩:=h3
  rw [hh] at h4;cases h4
  exact ⟨cap,cur',setRow_heap w b cur cur' e (0,0) hh,by rw [hs];exact h5,h6,h7,by rw [hk];exact VDs.mono hle.rd h8⟩
def boxcsM:List (KV×MV)→List (Nat×List DV)
 | []=>[]
 | (_,.box b cs) :: r=>(b,cs) :: boxcsM r
 | (_,.v _) :: r=>boxcsM r
def AB.boxcs:AB→List (Nat×List DV)
 | .map es=>boxcsM es
 | .pool b cs=>[(b,cs)]
 | _=>[]
def setM (b:Nat) (cs:List DV):List (KV×MV)→List (KV×MV)
 | []=>[]
 | (k,.box b' c) :: r=>(bif Nat.beq b' b then (k,.box b' cs) else (k,.box b' c)) :: setM b cs r
 | (k,.v x) :: r=>(k,.v x) :: setM b cs r
def AB.setBox (b:Nat) (cs:List DV):AB→AB
 | .map es => .map (setM b cs es)
 | .pool b' c=>bif Nat.beq b' b then .pool b' cs else .pool b' c
 | ab=>ab
theorem boxcsM_boxes:∀ {es:List (KV×MV)} {b:Nat} {cs:List DV},(b,cs)∈boxcsM es→b∈boxesM es
 | [],_,_,h=>by simp [boxcsM] at h
 | (k,.box b' c) :: r,b,cs,h=>by
   simp only [boxcsM,List.mem_cons,Prod.mk.injEq] at h
   simp only [boxesM,List.mem_cons]
   rcases h with ⟨rfl,_⟩|h
   ·exact .inl rfl
   ·exact .inr (boxcsM_boxes (es:=r) h)
 | (k,.v x) :: r,b,cs,h=>by
   simp only [boxcsM] at h
   simpa only [boxesM] using boxcsM_boxes (es:=r) h
theorem AB.boxcs_boxes {ab:AB} {b:Nat} {cs:List DV} (h:(b,cs)∈ab.boxcs):b∈ab.boxes:=by
 cases ab with
 | map es=>exact boxcsM_boxes h
 | pool b' c=>simp only [AB.boxcs,List.mem_singleton,Prod.mk.injEq] at h;simp [AB.boxes,h.1]
 | _=>simp [AB.boxcs] at h
theorem boxesM_setM {b:Nat} {cs:List DV}:∀ {es:List (KV×MV)},boxesM (setM b cs es)=boxesM es
 | []=>rfl
 | (k,.box b' c) :: r=>by
   simp only [setM]
   cases hb:Nat.beq b' b<;>simp only [cond_true,cond_false,boxesM,boxesM_setM (es:=r)]
 | (k,.v x) :: r=>by simp only [setM,boxesM,boxesM_setM (es:=r)]
theorem AB.boxes_setBox {b:Nat} {cs:List DV} {ab:AB}:(ab.setBox b cs).boxes=ab.boxes:=by
 cases ab with
 | map es=>exact boxesM_setM
 | pool b' c =>
   simp only [AB.setBox]
   cases hb:Nat.beq b' b<;>rfl
 | _=>rfl
theorem AB.live_setBox {b:Nat} {cs:List DV} {ab:AB}:(ab.setBox b cs).live=ab.live:=by
 cases ab with
 | pool b' c =>
   simp only [AB.setBox]
   cases hb:Nat.beq b' b<;>rfl
 | _=>rfl
theorem AB.isCell_setBox {b:Nat} {cs:List DV} {ab:AB}:(ab.setBox b cs).isCell=ab.isCell:=by
 cases ab with
 | pool b' c =>
   simp only [AB.setBox]
   cases hb:Nat.beq b' b<;>rfl
 | _=>rfl
theorem AB.mut_setBox {b:Nat} {cs:List DV} {ab:AB} {o:Nat} (h:(ab.setBox b cs).mut o):ab.mut o:=by
 cases ab with
 | pool b' c =>
   simp only [AB.setBox] at h
   cases hb:Nat.beq b' b<;>rw [hb] at h<;>exact h
 | _=>exact h
theorem VME_box {rd:Addr→Value→Prop} {w:World}:∀ {es:List (KV×MV)} {us:List MapEntry} {b:Nat} {cs:List DV},VME rd w es us→(b,cs)∈boxcsM es→VBox rd w b cs
 | [],_,_,_,_,h=>by simp [boxcsM] at h
 | (k,.box b' c) :: r,us,b,cs,hv,h=>by
   simp only [VME] at hv
   obtain ⟨u,us',_,_,h2,h3⟩:=hv
   simp only [boxcsM,List.mem_cons,Prod.mk.injEq] at h
   rcases h with ⟨rfl,rfl⟩|h
   ·exact h2.2
   ·exact VME_box (es:=r) h3 h
 | (k,.v x) :: r,us,b,cs,hv,h=>by
   simp only [VME] at hv
   obtain ⟨u,us',_,_,h2,h3⟩:=hv
   exact VME_box (es:=r) h3 (by simpa only [boxcsM] using h)
theorem BR.box {R:RC} {w:World} {eb:Option Nat} {ab:AB} (h:BR R w eb ab) {b:Nat} {cs:List DV} (hb:(b,cs)∈ab.boxcs):VBox R.rd w b cs:=by
 cases ab with
 | map es =>
   obtain ⟨_,ents,_,_,_,h3,_⟩:=h
   exact VME_box h3 hb
 | pool b' c =>
   simp only [AB.boxcs,List.mem_singleton,Prod.mk.injEq] at hb
   obtain ⟨rfl,rfl⟩:=hb
   exact h
 | _=>simp [AB.boxcs] at hb
theorem VME_setM {rd rd':Addr→Value→Prop} (h:∀ a u,rd a u→rd' a u) {w w':World} {b:Nat} {cs:List DV} (hb:VBox rd' w' b cs):∀ {es:List (KV×MV)} {us:List MapEntry},
  (∀ b'∈boxesM es,b'≠b→w'.heap[b']? = w.heap[b']?)→VME rd w es us→VME rd' w' (setM b cs es) us
 | [],us,_,x=>x
 | (k,.box b' c) :: r,us,hw,x=>by
   simp only [VME] at x
   obtain ⟨u,us',h1,h2,h3,h4⟩:=x
   have hr:=VME_setM h hb (es:=r) (fun b1 h1 h2=>hw b1 (by simp [boxesM,h1]) h2) h4
   simp only [setM]
   cases hq:Nat.beq b' b with
   | true =>
     have e:=Nat.eq_of_beq_eq_true hq
     subst e
     simp only [cond_true,VME]
     exact ⟨u,us',h1,VKV.mono h h2,⟨h3.1,hb⟩,hr⟩
   | false =>
     simp only [cond_false,VME]
     refine ⟨u,us',h1,VKV.mono h h2,⟨h3.1,VBox.mono h (hw b' (by simp [boxesM]) ?_) h3.2⟩,hr⟩
     rintro rfl
     rw [Nat.beq_refl] at hq
     cases hq
 | (k,.v y) :: r,us,hw,x=>by
   simp only [VME] at x
   obtain ⟨u,us',h1,h2,h3,h4⟩:=x
   simp only [setM,VME]
   exact ⟨u,us',h1,VKV.mono h h2,VKV.mono h h3,VME_setM h hb (es:=r) (fun b1 h1 h2=>hw b1 (by simpa [boxesM] using h1) h2) h4⟩
theorem SimH.storeBox {c:Ctx} {E:Nat→Option Nat} {L:List AB} {w:World} (h:SimH c E L w) {m:Nat} {ab:AB} (hm:L[m]? = some ab) {b:Nat} {cs cs':List DV} (hb:(b,cs)∈ab.boxcs)
  {cur cur':Array Value} {e:TypeId} (hh:w.heap[b]? = some (.cells cur e (0,0))) (hs:cur'.size=cur.size) (hv:VDs (rcOf c.M0 E L w).rd cs' cur'.toList) :
  SimH c E (L.set m (ab.setBox b cs')) (w.setRow b cur')∧(rcOf c.M0 E L w).le (rcOf c.M0 E (L.set m (ab.setBox b cs')) (w.setRow b cur')):=by
 have hbb:=AB.boxcs_boxes hb
 have k:TurnsE (some b) w (w.setRow b cur'):=(Turns.setRow w b cur').toE (likes_setRow hh hs)
 have hblk:∀ x,x≠b→(w.setRow b cur').heap[x]? = w.heap[x]? := fun x hx=>k.block x (fun he=>hx (by cases he;rfl))
 have look:∀ (j:Nat) (abj:AB),(L.set m (ab.setBox b cs'))[j]? = some abj→∃ ab0,L[j]? = some ab0∧abj.boxes=ab0.boxes∧abj.live=ab0.live∧(∀ o,abj.mut o→ab0.mut o)∧((j=m∧ab0=ab∧abj=ab.setBox b cs')∨(j≠m∧abj=ab0)):=by
  intro j abj hj
  by_cases hji:j=m
  ·subst hji
   rw [getElem?_set_same hm] at hj;cases hj
   exact ⟨ab,hm,AB.boxes_setBox,AB.live_setBox,fun o=>AB.mut_setBox,.inl ⟨rfl,rfl,rfl⟩⟩
  ·rw [getElem?_set_other hji] at hj
   exact ⟨abj,hj,rfl,rfl,fun _ h=>h,.inr ⟨hji,rfl⟩⟩
 have hle:(rcOf c.M0 E L w).le (rcOf c.M0 E (L.set m (ab.setBox b cs')) (w.setRow b cur')):=by
  refine ⟨?_,?_,?_,?_,?_⟩
  ·refine rdle rfl k.like ?_
   rintro a u h1 h2
   have hab:a.block≠b:=fun he=>h2 (.inr (.inr ⟨m,ab,hm,he▸hbb⟩))
   refine ⟨by rw [World.cell?_of_block (w:=w) (hblk a.block hab)];exact h1,?_⟩
   rintro (hm'|⟨j,abj,hj,he,hmm⟩|⟨j,abj,hj,hmm⟩)
   ·exact h2 (.inl hm')
   ·obtain ⟨ab0,k1,k2,k3,k4,_⟩:=look j abj hj
    exact h2 (.inr (.inl ⟨j,ab0,k1,he,k4 _ hmm⟩))
   ·obtain ⟨ab0,k1,k2,k3,k4,_⟩:=look j abj hj
    exact h2 (.inr (.inr ⟨j,ab0,k1,k2▸hmm⟩))
  ·rintro j x ⟨abj,h1,h2,h3⟩
   by_cases hji:j=m
   ·subst hji
    rw [hm] at h1;cases h1
    exact ⟨_,getElem?_set_same hm,by rw [AB.isCell_setBox];exact h2,h3⟩
   ·exact ⟨abj,by rw [getElem?_set_other hji];exact h1,h2,h3⟩
  ·rintro j v ⟨abj,h1,h2⟩
   by_cases hji:j=m
   ·subst hji
    rw [hm] at h1;cases h1
    cases ab with
    | map es=>exact h2.elim
    | pool b cs=>exact h2.elim
    | _=>simp [AB.boxcs] at hb
   ·refine ⟨abj,by rw [getElem?_set_other hji];exact h1,?_⟩
    cases abj with
    | cells cs=>exact h2
    | map es=>exact h2
    | pool b cs=>exact h2
    | obj o=>exact h2
    | obs o n cap=>exact h2
    | dead=>exact h2
    | isle lo n ok=>exact h2.elim
    | row e n xs sh =>
      simp only [arRel] at h2 ⊢
      cases hE:E j with
      | none=>rw [hE] at h2;exact h2
      | some x =>
        rw [hE] at h2
        obtain ⟨cap,cur2,h3,h4,h5⟩:=h2
        exact ⟨cap,cur2,h3,by rw [hblk x (fun he=>h.bx.own m j ab _ b hm hbb h1 rfl (he▸hE))];exact h4,h5⟩
  ·rintro j x o v ⟨abj,h1,h2⟩
   by_cases hji:j=m
   ·subst hji
    rw [hm] at h1;cases h1
    cases ab with
    | map es=>exact h2.elim
    | pool b cs=>exact h2.elim
    | _=>simp [AB.boxcs] at hb
   ·exact ⟨abj,by rw [getElem?_set_other hji];exact h1,h2⟩
  ·rintro j x v ⟨abj,h1,h2⟩
   have hji:j≠m:=by
    rintro rfl
    rw [hm] at h1;cases h1
    obtain ⟨_,_,_,rfl⟩:=islRel_boxes h2
    simp [AB.boxcs] at hb
   exact ⟨abj,by rw [getElem?_set_other hji];exact h1,islRel_mono (fun b1 hb1=>hblk b1 fun he=>hji (h.bx.dj j m abj ab b h1 hm (he▸hb1) hbb)) h2⟩
 have hbox:VBox (rcOf c.M0 E (L.set m (ab.setBox b cs')) (w.setRow b cur')).rd (w.setRow b cur') b cs' :=
  ⟨cur',e,setRow_heap w b cur cur' e (0,0) hh,VDs.mono hle.rd hv⟩
 refine ⟨⟨k.os.trans h.os,k.tape.trans h.tape,k.output.trans h.output,by rw [k.size];exact h.size,?_,?_,?_,?_,h.old.trans hle,?_,h.lk.trans k.like,fun s0 hs0 j e1 m1 ys sh1 x hj he => ?_⟩,hle⟩
 rotate_right
 ·obtain ⟨ab0,k1,k2,k3,k4,hcase⟩:=look j _ hj
  rcases hcase with ⟨rfl,rfl,h9⟩|⟨hne,rfl⟩
  ·cases ab0 with
   | map es=>simp only [AB.setBox] at h9;cases h9
   | pool b' c'=>simp only [AB.setBox] at h9;cases hq:Nat.beq b' b<;>simp [hq] at h9
   | _=>simp [AB.boxcs] at hb
  ·exact h.up s0 hs0 j _ _ _ _ x k1 he
 ·intro x hp
  rw [hblk x (fun he=>h.bx.low m ab b hm hbb (he▸hp))]
  exact h.prot x hp
 ·intro j abj hj
  obtain ⟨ab0,k1,k2,k3,k4,hcase⟩:=look j abj hj
  rcases hcase with ⟨rfl,rfl,rfl⟩|⟨hne,rfl⟩
  ·have hbr:=h.blk j _ hm
   cases ab0 with
   | map es =>
     obtain ⟨x,ents,clock,q1,q2,q3,q4,q5⟩:=hbr
     exact ⟨x,ents,clock,q1,by rw [hblk x (fun he=>h.bx.own j j _ _ b hm hbb hm rfl (he▸q1))];exact q2,VME_setM hle.rd hbox (fun b' _ hne=>hblk b' hne) q3,q4,q5⟩
   | pool b' c' =>
     simp only [AB.boxes,List.mem_singleton] at hbb
     subst hbb
     have e1:AB.setBox b cs' (AB.pool b c') = .pool b cs':=by simp [AB.setBox]
     rw [e1] at hbox ⊢
     exact hbox
   | _=>simp [AB.boxcs] at hb
  ·refine BR.mono hle (h.blk j _ k1) (fun x he hl=>hblk x ?_) fun x hx=>hblk x ?_
   ·rintro rfl
    exact h.bx.own m j ab _ _ hm hbb k1 hl he
   ·rintro rfl
    exact hne (h.bx.dj j m _ ab _ k1 hm hx hbb)
 ·intro j abj x hj hl he
  obtain ⟨ab0,k1,k2,k3,k4,_⟩:=look j abj hj
  exact h.low j ab0 x k1 (k3▸hl) he
 ·intro j1 j2 ab1 ab2 x h1 h2 l1 l2 e1 e2
  obtain ⟨a1,k1,k2,k3,k4,_⟩:=look j1 ab1 h1
  obtain ⟨a2,m1,m2,m3,m4,_⟩:=look j2 ab2 h2
  exact h.inj j1 j2 a1 a2 x k1 m1 (k3▸l1) (m3▸l2) e1 e2
 ·refine ⟨?_,?_,?_,?_⟩
  ·intro j abj x hj hx
   obtain ⟨a1,k1,k2,k3,k4,_⟩:=look j abj hj
   exact h.bx.low j a1 x k1 (k2▸hx)
  ·intro j1 j2 ab1 ab2 x h1 hx h2 hl he
   obtain ⟨a1,k1,k2,k3,k4,_⟩:=look j1 ab1 h1
   obtain ⟨a2,m1,m2,m3,m4,_⟩:=look j2 ab2 h2
   exact h.bx.own j1 j2 a1 a2 x k1 (k2▸hx) m1 (m3▸hl) he
  ·intro j abj hj
   obtain ⟨a1,k1,k2,k3,k4,_⟩:=look j abj hj
   rw [k2];exact h.bx.nd j a1 k1
  ·intro j1 j2 ab1 ab2 x h1 h2 hx hx'
   obtain ⟨a1,k1,k2,k3,k4,_⟩:=look j1 ab1 h1
   obtain ⟨a2,m1,m2,m3,m4,_⟩:=look j2 ab2 h2
   exact h.bx.dj j1 j2 a1 a2 x k1 m1 (k2▸hx) (m2▸hx')
end Go.Ab
