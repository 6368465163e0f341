/- PrimaryStrange: abstract runs. -/
import Derived.Test.YtolkmjfkkkiboaaGreatPrimaryStrangeLyab
set_option linter.unusedVariables false
set_option linter.unusedSimpArgs false
namespace Go.Ab
open Go.RowKit
def DnD (y y':DV):Prop:=∀ (rd rd':Addr→Value→Prop) (v:Value),(∀ a u,a.spot=none→rd a u→rd' a u)→VD rd y v→VD rd' y' v
theorem DnD.flat {y:DV} (h:flatD y):DnD y y:=fun _ _ _ _ k=>h _ _ _ k
inductive Dns:List DV→List DV→Prop
 | nil:Dns [] []
 | cons {y y':DV} {r r':List DV} (h:DnD y y') (k:Dns r r'):Dns (y :: r) (y' :: r')
inductive DnE:List (List DV)→List (List DV)→Prop
 | nil:DnE [] []
 | cons {y y':List DV} {r r':List (List DV)} (h:Dns y y') (k:DnE r r'):DnE (y :: r) (y' :: r')
theorem Dns.length {xs ys:List DV} (h:Dns xs ys):ys.length=xs.length:=by induction h<;>simp_all
theorem DnE.length {xs ys:List (List DV)} (h:DnE xs ys):ys.length=xs.length:=by induction h<;>simp_all
theorem Dns.ok {rd rd':Addr→Value→Prop} (h1:∀ a u,a.spot=none→rd a u→rd' a u) {xs ys:List DV} (h:Dns xs ys):∀ {a:Addr},a.spot=none→VDC rd xs a→VDC rd' ys a:=by
 induction h with
 | nil=>intro a _ _;simp [VDC]
 | cons h k ih =>
   intro a ha x
   simp only [VDC] at x ⊢
   obtain ⟨⟨u,e1,e2,e3⟩,e4⟩:=x
   exact ⟨⟨u,h1 _ _ ha e1,e2,h rd rd' u h1 e3⟩,ih rfl e4⟩
theorem DnE.ok {rd rd':Addr→Value→Prop} (h1:∀ a u,a.spot=none→rd a u→rd' a u) {n:Nat} {xs ys:List (List DV)} (h:DnE xs ys):∀ {a:Addr},a.spot=none→VDE rd n xs a→VDE rd' n ys a:=by
 induction h with
 | nil=>intro a _ _;simp [VDE]
 | cons h k ih =>
   intro a ha x
   simp only [VDE] at x ⊢
   exact ⟨by rw [h.length];exact x.1,h.ok h1 ha x.2.1,ih rfl x.2.2⟩
theorem DnE.nil_iff {xs ys:List (List DV)} (h:DnE xs ys):xs=[]→ys=[]:=by cases h<;>simp
theorem DnD.slo {n:Nat} {xs ys:List (List DV)} (h:DnE xs ys):DnD (.slo n xs) (.slo n ys):=by
 intro rd rd' v h1 x
 simp only [VD] at x ⊢
 obtain ⟨hn,a,cap,e1,e2,e3,e4,e5⟩:=x
 refine ⟨hn,a,cap,by rw [h.length];exact e1,by rw [h.length];exact e2,e3,e4,fun a' ha=>⟨(e5 a' ha).1.imp h.nil_iff id,?_⟩⟩
 rcases (e5 a' ha).1 with e|hs
 ·rw [h.nil_iff e];simp [VDE]
 ·exact h.ok h1 hs (e5 a' ha).2
theorem DnD.sl {n:Nat} {xs ys:List (List DV)} (h:DnE xs ys):DnD (.sl n xs) (.slo n ys):=by
 intro rd rd' v h1 x
 have x2:VD rd (.slo n xs) v:=by
  simp only [VD] at x ⊢
  obtain ⟨hn,a,cap,e1,e2,e3,e4,e5⟩:=x
  exact ⟨hn,a,cap,e1,e2,e3,e4,fun a' ha=>⟨(e5 a' ha).1,(e5 a' ha).2.2⟩⟩
 exact DnD.slo h rd rd' v h1 x2
theorem DnE.map {α:Type} {f g:α→List DV} (h:∀ x,Dns (f x) (g x)):∀ (l:List α),DnE (l.map f) (l.map g)
 | [] => .nil
 | x :: r => .cons (h x) (DnE.map h r)
theorem flat_nils:flatD .nils:=fun _ _ _ h=>by simpa [VD] using h
mutual
def NoO:DV→Prop
 | .slo _ _=>False
 | .sl _ xs=>NoE xs
 | _=>True
def NoE:List (List DV)→Prop
 | []=>True
 | x :: r=>NoC x∧NoE r
def NoC:List DV→Prop
 | []=>True
 | x :: r=>NoO x∧NoC r
end
theorem NoE_map {α:Type} {f:α→List DV} (h:∀ x,NoC (f x)):∀ (l:List α),NoE (l.map f)
 | []=>trivial
 | x :: r=>⟨h x,NoE_map h r⟩
inductive Isl (i:Nat):AV→AV→Prop
 | flat {x:DV} (h:flatD x):Isl i (.d x) (.d x)
 | sl {n:Nat} {xs:List (List DV)} (h:NoE xs):Isl i (.d (.sl n xs)) (.isl i (.sl n xs))
def lendO1 (Lin:List AB) (a b:AV):Prop:=(∃ y y',a = .d y∧b = .d y'∧DnD y y')∨∃ i x x' lo n,a = .isl i x∧Lin[i]? = some (.isle lo n true)∧b = .d x'∧DnD x x'
inductive All2 {α β:Type} (r:α→β→Prop):List α→List β→Prop
 | nil:All2 r [] []
 | cons {x:α} {y:β} {xs:List α} {ys:List β} (h:r x y) (k:All2 r xs ys):All2 r (x :: xs) (y :: ys)
def lendO2 (Lin:List AB) (a b:AV):Prop:=lendO1 Lin a b∨∃ az bs,a = .agg az∧b = .agg bs∧All2 (lendO1 Lin) az bs
def Isl2 (i:Nat) (a b:AV):Prop:=Isl i a b∨∃ az bs,a = .agg az∧b = .agg bs∧All2 (Isl i) az bs
theorem All2.VRs {R R':RC} {r:AV→AV→Prop} (h:∀ a b v,r a b→VR R a v→VR R' b v) {xs ys:List AV} (k:All2 r xs ys):∀ {us:List Value},VRs R xs us→VRs R' ys us:=by
 induction k with
 | nil=>intro us x;simpa [Go.Ab.VRs] using x
 | cons hxy _ ih =>
   intro us x
   simp only [Go.Ab.VRs] at x ⊢
   obtain ⟨u,us',e,e0,e1,e2⟩:=x
   exact ⟨u,us',e,e0,h _ _ _ hxy e1,ih e2⟩
theorem All2.VRt {R R':RC} {r:AV→AV→Prop} (h:∀ a b v,r a b→VR R a v→VR R' b v) {xs ys:List AV} (k:All2 r xs ys):∀ {us:List Value},VRt R xs us→VRt R' ys us:=by
 induction k with
 | nil=>intro us x;simpa [Go.Ab.VRt] using x
 | cons hxy _ ih =>
   intro us x
   simp only [Go.Ab.VRt] at x ⊢
   obtain ⟨u,us',e,e1,e2⟩:=x
   exact ⟨u,us',e,h _ _ _ hxy e1,ih e2⟩
theorem lendO1_ok {c:Ctx} {E:Nat→Option Nat} {L:List AB} {w:World} (hs:SimH c E L w) (hc:c.wf) {R':RC} (hrd:∀ a u,w.cell? a=some u→¬c.M0 a.block a.off→R'.rd a u) {a b:AV} {v:Value} (h:lendO1 L a b) (hv:VR (rcOf c.M0 E L w) a v):VR R' b v:=by
 rcases h with ⟨y,y',rfl,rfl,hd⟩|⟨i,x,x',lo,n,rfl,hi,rfl,hd⟩
 ·simp only [VR] at hv ⊢
  exact hd _ _ _ (fun a u ha hr=>hrd a u (rd_cell hr ha).1 fun hm=>(rd_cell hr ha).2 (.inl hm)) hv
 ·simp only [VR] at hv ⊢
  obtain ⟨⟨ab,hab,har⟩,_⟩:=hv
  rw [hi] at hab
  cases hab
  refine hd _ _ _ (fun a u ha hr => ?_) har
  obtain ⟨r1,r2,r3⟩:=hr
  rcases r3 with r3|⟨m,hm,_⟩
  ·refine hrd a u r3 fun hm=>hs.bx.low i _ a.block hi ?_ (hc.sub _ _ hm)
   simp only [AB.boxes,List.mem_range'_1]
   exact ⟨r1,r2⟩
  ·rw [ha] at hm;cases hm
theorem lendO2_ok {c:Ctx} {E:Nat→Option Nat} {L:List AB} {w:World} (hs:SimH c E L w) (hc:c.wf) {R':RC} (hrd:∀ a u,w.cell? a=some u→¬c.M0 a.block a.off→R'.rd a u) {a b:AV} {v:Value} (h:lendO2 L a b) (hv:VR (rcOf c.M0 E L w) a v):VR R' b v:=by
 rcases h with h|⟨az,bs,rfl,rfl,h⟩
 ·exact lendO1_ok hs hc hrd h hv
 ·simp only [VR] at hv ⊢
  obtain ⟨us,e,h1⟩:=hv
  exact ⟨us,e,h.VRs (fun a b v h k=>lendO1_ok hs hc hrd h k) h1⟩
end Go.Ab
