/- PrimaryStrange: contracts. -/
import Derived.Test.YtolkmjfkkkiboaaGreatPrimaryStrangeCodP
set_option linter.unusedVariables false
set_option linter.unusedSimpArgs false
namespace Go.Proofs.YtolkmjfkkkiboaaGreat
open Go.Ab Go.RowKit Go.MapKept
attribute [local irreducible] ACalls AW ADraw Into fltB fnear
set_option maxRecDepth 100000
def cmO (p:Prim) (c:Cert) (src:Int):List Msg:=if putE p.dag c=7∧src≠p.id then wantO p src 8 (freshI (lateP p.late c) (lackI p.dag c)) else []
def coSt (p:Prim) (out:List Msg) (c:Cert) (src:Int) (i:Nat):AF×List AB:=([(0,.ptr 0 0),(2,.d (.int .i64 src)),(4,.ptr 2 0),(8,.d (.int .i64 i))],p.st out++[.cells (c.cs.map AV.d)])
set_option maxHeartbeats 8000000 in
theorem comes20_ok (p:Prim) (out:List Msg) (ho:out.length≤1000000) (c:Cert) (hok:okCert p.dag.nodes c) (hct:c.tiny) (hf:Fine p.dag p.late) (hroom:p.dag.certs.length+p.late.length<60000) (hlt:∀ x∈p.late,x.tiny) (hs:risingC p.late) (src:Int) :
  ACalls Tryz.prog 111 [.ptr 0 0,c.av,.d (.int .i64 src)] (p.st out) (fun av L=>av = .tup []∧∃ j,L=(inP p c).sj j (out++cmO p c src)):=by
 have hcl:=certsD_length p.late
 have hr:=hf.room
 have hfew:few p.late:=by unfold few;omega
 have hadd:=rAdd_ok p.dag hf.valid c hct (certFew_of hf.valid.nodes hok) hok
 have hpl:=hok.head.pars.1
 have hrd:=hok.head.round
 have hnn:=of_decide_eq_true hf.valid.nodes
 have hlk:(lackI p.dag c).length≤1000000:=by
  unfold lackI
  split
  ·exact Nat.zero_le _
  ·exact Nat.le_trans (List.length_filter_le ..) (by omega)
 have hfr:∀ l,(freshI l (lackI p.dag c)).length≤1000000:=fun l=>Nat.le_trans (List.length_filter_le ..) hlk
 refine acalls_seals2 ?_
 (refine acalls_go ttOk zOk foOk Tryz.func111 rfl Tryz.ntmps111 rfl true rfl ?_);(conv=>whnf)
 refine rdw ?_;repeat' ((with_reducible apply tw)<;>intro _)
 ((with_reducible refine draw_pl ttOk zOk foOk mixedOk pl111x1 ?_ ?_);(focus kernel_rfl);(conv=>whnf))
 repeat' (first|(first|((with_reducible first|apply rd_intro|apply gd_and);(focus ((conv=>whnf)<;>first|rfl|(intro K hK;(conv=>whnf);first|exact hK|exact z_wrap (by omega) hK)));conv=>whnf)|((with_reducible apply z_wrap);(focus omega);conv=>whnf)|((with_reducible first|apply mt_dec|apply mt_eq|apply mt_ne|apply mt_not|apply mt_any)<;>(intro _;conv=>whnf)))|((with_reducible apply rd_intro);(focus (intro K hK;(conv=>whnf);refine (hadd).mono ?_;rintro _ _ ⟨rfl,rfl⟩;(conv=>whnf);exact hK));(conv=>whnf))|((with_reducible apply gd_and);(focus ((conv=>whnf);intro K hK;(conv=>whnf);refine (hadd).mono ?_;rintro _ _ ⟨rfl,rfl⟩;(conv=>whnf);exact hK));(conv=>whnf))|(refine (hadd).mono ?_;rintro _ _ ⟨rfl,rfl⟩;(conv=>whnf))|fail)
 ·rename_i h0
  replace h0:putE p.dag c=0:=h0
  have hfp:Fine (putD p.dag c) p.late:=⟨putD_valid hf.valid hok (by omega),by have:=putD_len p.dag c;omega,fun x hx=>by rw [putD_nodes];exact hf.late x hx⟩
  have hag:=late20_ok (p.withDL (putD p.dag c,p.late)) out hfp
  refine hag.mono ?_
  rintro _ _ ⟨rfl,rfl⟩
  conv=>whnf
  refine rdw ?_;repeat' ((with_reducible apply tw)<;>intro _)
  refine ⟨2,[],_,_,_,Nat.le_refl _,rfl,rfl,rfl,rfl,false,?_⟩
  rw [inP,if_pos h0,cmO,if_neg (fun h=>by have:=h.1;omega),List.append_nil]
  rfl
 ·rename_i h0 h7
  replace h0:putE p.dag c≠0:=h0
  replace h7:putE p.dag c=7:=h7
  refine (isLate20_ok p out hfew c.digest).mono ?_
  rintro _ _ ⟨rfl,rfl⟩
  obtain ⟨b,hb⟩:∃ b,isLate p.late c.digest=b:=⟨_,rfl⟩
  rw [hb]
  have hout0:out++cmO p c src=if src=p.id then out else out++wantO p src 8 (freshI (lateP p.late c) (lackI p.dag c)):=by
   unfold cmO
   by_cases hsi:src=p.id
   ·rw [if_pos hsi,if_neg (fun h=>h.2 hsi),List.append_nil]
   ·rw [if_neg hsi,if_pos ⟨h7,hsi⟩]
  have hlak:=lacks20_ok p out hf.valid hfew c (by omega) ⟨by omega,by omega⟩
  have hwan:=wants20_ok p out ho 8 src (freshI p.late (lackI p.dag c)) (hfr _)
  cases b with
  | true =>
    have hlp:lateP p.late c=p.late:=by rw [lateP,if_neg (fun h=>by rw [hb] at h;exact absurd h.1 (by decide))]
    have hout:=hout0
    rw [hlp] at hout
    conv=>whnf
    refine rdw ?_;repeat' ((with_reducible apply tw)<;>intro _)
    (refine (hlak).mono ?_;rintro _ _ ⟨rfl,rfl⟩;(conv=>whnf))
    refine rdw ?_;repeat' ((with_reducible apply tw)<;>intro _)
    refine hwan.mono ?_
    rintro _ _ ⟨rfl,j,rfl⟩
    rw [inP,if_neg h0,if_pos h7,hlp,hout]
    cases j
    ·conv=>whnf
     refine rdw ?_;repeat' ((with_reducible apply tw)<;>intro _)
     refine ⟨2,[],_,_,_,Nat.le_refl _,rfl,rfl,rfl,rfl,false,rfl⟩
    ·conv=>whnf
     refine rdw ?_;repeat' ((with_reducible apply tw)<;>intro _)
     refine ⟨3,[],_,_,_,by show 2≤3;omega,rfl,rfl,rfl,rfl,true,rfl⟩
  | false =>
    conv=>whnf
    refine rdw ?_;repeat' ((with_reducible apply tw)<;>intro _)
    ·rename_i h256
     replace h256:((certsD p.late).length:Int)<256:=h256
     have hi:=lateI_le p.late c.digest
     have hlp:lateP p.late c=p.late.take (lateI p.late c.digest)++c :: p.late.drop (lateI p.late c.digest):=by rw [lateP,if_pos ⟨hb,by omega⟩]
     refine loop_go ttOk zOk foOk (σ:=Nat) (coSt p out c src) (fun i=>i≤lateI p.late c.digest) (fun i=>p.late.length - i) [0,2,4,8] ?_ ?_
     ·conv=>whnf
      exact ⟨0,rfl,rfl,Nat.zero_le _⟩
     ·intro i hii
      conv=>whnf
      ((with_reducible refine draw_pl ttOk zOk foOk mixedOk pl111x9 ?_ ?_);(focus kernel_rfl);(conv=>whnf))
      repeat' (first|(first|((with_reducible first|apply rd_intro|apply gd_and);(focus ((conv=>whnf)<;>first|rfl|(intro K hK;(conv=>whnf);first|exact hK|exact z_wrap (by omega) hK)));conv=>whnf)|((with_reducible apply z_wrap);(focus omega);conv=>whnf)|((with_reducible first|apply mt_dec|apply mt_eq|apply mt_ne|apply mt_not|apply mt_any)<;>(intro _;conv=>whnf)))|fail)
      ·rename_i k1
       replace k1:(i:Int)<((certsD p.late).length:Int):=k1
       refine Exists.elim (⟨_,List.getElem?_eq_getElem (by omega)⟩:∃ x,p.late[i]? = some x) fun x hx => ?_
       have hii2:=lateI_iff (d:=c.digest) hs hx
       repeat' (first|(first|((with_reducible first|apply rd_intro|apply gd_and);(focus ((conv=>whnf)<;>first|rfl|(intro K hK;(conv=>whnf);first|exact hK|exact z_wrap (by omega) hK)));conv=>whnf)|((with_reducible apply z_wrap);(focus omega);conv=>whnf)|((with_reducible first|apply mt_dec|apply mt_eq|apply mt_ne|apply mt_not|apply mt_any)<;>(intro _;conv=>whnf)))|((with_reducible apply rd_intro);(focus (intro K hK;(conv=>whnf);exact ⟨by omega,x.cs,certsD_at hx,hK⟩));(conv=>whnf))|((with_reducible apply rd_intro);(focus (intro K hK;(conv=>whnf);exact ix_map hx (by first|rfl|omega) hK));(conv=>whnf))|fail)
       ·rename_i k2
        replace k2:x.digest<c.digest:=k2
        have:=hii2.1 k2
        exact ⟨i+1,rfl,rfl,(show i+1≤lateI p.late c.digest by omega),(show p.late.length - (i+1)<p.late.length - i by omega)⟩
       ·rename_i k2
        replace k2:¬x.digest<c.digest:=k2
        have hie:i=lateI p.late c.digest:=by
         have:¬i<lateI p.late c.digest:=fun h=>k2 (hii2.2 h)
         omega
        subst hie
        clear hii
        have hris2:risingC (lateP p.late c):=lateP_rising hs c
        have hfew2:few (lateP p.late c):=by unfold few;have:=lateP_len p.late c;omega
        have hlak:=lacks20_ok { p with late:=lateP p.late c } out hf.valid hfew2 c (by omega) ⟨by omega,by omega⟩
        have hwan:=wants20_ok { p with late:=lateP p.late c } out ho 8 src (freshI (lateP p.late c) (lackI p.dag c)) (hfr _)
        have hcp1:=copyCerts_row (p.late.take (lateI p.late c.digest)) (by unfold tiny;simp;omega) (fun c hc=>hlt c (List.mem_of_mem_take hc))
        have hs1:List.drop (Int.toNat 0) (List.take ((lateI p.late c.digest:Int)).toNat (certsD p.late))=certsD (p.late.take (lateI p.late c.digest)):=by
         rw [show (Int.toNat 0)=0 from rfl,List.drop_zero,show ((lateI p.late c.digest:Int)).toNat=lateI p.late c.digest from rfl]
         simp [certsD]
        have hs2:List.drop ((lateI p.late c.digest:Int)).toNat (List.take ((certsD p.late).length:Int).toNat (certsD p.late))=certsD (p.late.drop (lateI p.late c.digest)):=by
         rw [show ((lateI p.late c.digest:Int)).toNat=lateI p.late c.digest from rfl,show ((certsD p.late).length:Int).toNat=(certsD p.late).length from rfl,List.take_length]
         simp [certsD]
        have hl1:=certsD_length (p.late.take (lateI p.late c.digest))
        have hl2:=certsD_length (p.late.drop (lateI p.late c.digest))
        have hl3:(p.late.take (lateI p.late c.digest)).length≤65536:=Nat.le_trans (List.length_take_le' ..) (by omega)
        have hl4:(p.late.drop (lateI p.late c.digest)).length≤65536:=by rw [List.length_drop];omega
        have happ:certsD (p.late.take (lateI p.late c.digest))++[[DV.int .i64 c.author,.int .i64 c.round,.sl 1 (nums c.bats),.sl 1 (nums c.pars),.int .i64 c.digest,.sl 1 (nums c.sigs)]]++certsD (p.late.drop (lateI p.late c.digest))=certsD (lateP p.late c):=by rw [hlp];simp [certsD,Cert.cs]
        ((with_reducible refine draw_pl ttOk zOk foOk mixedOk pl111x11 ?_ ?_);(focus kernel_rfl);(conv=>whnf))
        refine rdw ?_;repeat' ((with_reducible apply tw)<;>intro _)
        ((with_reducible apply rd_intro);(focus (intro K hK;(conv=>whnf);exact ⟨by omega,by omega,by omega,hK⟩));(conv=>whnf))
        refine rdw ?_;repeat' ((with_reducible apply tw)<;>intro _)
        rw [hs1]
        refine hcp1.mono ?_
        rintro _ _ ⟨rfl,rfl⟩
        conv=>whnf
        refine rdw ?_;repeat' ((with_reducible apply tw)<;>intro _)
        refine (copyCert_ok c hct).mono ?_
        rintro _ _ ⟨rfl,rfl⟩
        conv=>whnf
        refine rdw ?_;repeat' ((with_reducible apply tw)<;>intro _)
        refine ⟨by simp;omega,?_⟩
        conv=>whnf
        refine rdw ?_;repeat' ((with_reducible apply tw)<;>intro _)
        refine ⟨by omega,by omega,by omega,?_⟩
        conv=>whnf
        rw [hs2]
        refine ⟨by simp [certsD];omega,?_⟩
        conv=>whnf
        refine acalls_via [(0,15)] rfl ?_
        conv=>whnf
        rw [happ]
        refine hlak.mono ?_
        rintro _ _ ⟨rfl,rfl⟩
        conv=>whnf
        refine rdw ?_;repeat' ((with_reducible apply tw)<;>intro _)
        refine hwan.mono ?_
        rintro _ _ ⟨rfl,j,rfl⟩
        rw [inP,if_neg h0,if_pos h7,hout0]
        cases j
        ·conv=>whnf
         refine rdw ?_;repeat' ((with_reducible apply tw)<;>intro _)
         refine ⟨2,[],_,_,_,Nat.le_refl _,rfl,rfl,rfl,rfl,false,rfl⟩
        ·conv=>whnf
         refine rdw ?_;repeat' ((with_reducible apply tw)<;>intro _)
         refine ⟨3,[],_,_,_,by show 2≤3;omega,rfl,rfl,rfl,rfl,true,rfl⟩
      ·rename_i k1
       replace k1:¬(i:Int)<((certsD p.late).length:Int):=k1
       have hie:i=lateI p.late c.digest:=by omega
       subst hie
       clear hii
       have hris2:risingC (lateP p.late c):=lateP_rising hs c
       have hfew2:few (lateP p.late c):=by unfold few;have:=lateP_len p.late c;omega
       have hlak:=lacks20_ok { p with late:=lateP p.late c } out hf.valid hfew2 c (by omega) ⟨by omega,by omega⟩
       have hwan:=wants20_ok { p with late:=lateP p.late c } out ho 8 src (freshI (lateP p.late c) (lackI p.dag c)) (hfr _)
       have hcp1:=copyCerts_row (p.late.take (lateI p.late c.digest)) (by unfold tiny;simp;omega) (fun c hc=>hlt c (List.mem_of_mem_take hc))
       have hs1:List.drop (Int.toNat 0) (List.take ((lateI p.late c.digest:Int)).toNat (certsD p.late))=certsD (p.late.take (lateI p.late c.digest)):=by
        rw [show (Int.toNat 0)=0 from rfl,List.drop_zero,show ((lateI p.late c.digest:Int)).toNat=lateI p.late c.digest from rfl]
        simp [certsD]
       have hs2:List.drop ((lateI p.late c.digest:Int)).toNat (List.take ((certsD p.late).length:Int).toNat (certsD p.late))=certsD (p.late.drop (lateI p.late c.digest)):=by
        rw [show ((lateI p.late c.digest:Int)).toNat=lateI p.late c.digest from rfl,show ((certsD p.late).length:Int).toNat=(certsD p.late).length from rfl,List.take_length]
        simp [certsD]
       have hl1:=certsD_length (p.late.take (lateI p.late c.digest))
       have hl2:=certsD_length (p.late.drop (lateI p.late c.digest))
       have hl3:(p.late.take (lateI p.late c.digest)).length≤65536:=Nat.le_trans (List.length_take_le' ..) (by omega)
       have hl4:(p.late.drop (lateI p.late c.digest)).length≤65536:=by rw [List.length_drop];omega
       have happ:certsD (p.late.take (lateI p.late c.digest))++[[DV.int .i64 c.author,.int .i64 c.round,.sl 1 (nums c.bats),.sl 1 (nums c.pars),.int .i64 c.digest,.sl 1 (nums c.sigs)]]++certsD (p.late.drop (lateI p.late c.digest))=certsD (lateP p.late c):=by rw [hlp];simp [certsD,Cert.cs]
       ((with_reducible refine draw_pl ttOk zOk foOk mixedOk pl111x11 ?_ ?_);(focus kernel_rfl);(conv=>whnf))
       refine rdw ?_;repeat' ((with_reducible apply tw)<;>intro _)
       ((with_reducible apply rd_intro);(focus (intro K hK;(conv=>whnf);exact ⟨by omega,by omega,by omega,hK⟩));(conv=>whnf))
       refine rdw ?_;repeat' ((with_reducible apply tw)<;>intro _)
       rw [hs1]
       refine hcp1.mono ?_
       rintro _ _ ⟨rfl,rfl⟩
       conv=>whnf
       refine rdw ?_;repeat' ((with_reducible apply tw)<;>intro _)
       refine (copyCert_ok c hct).mono ?_
       rintro _ _ ⟨rfl,rfl⟩
       conv=>whnf
       refine rdw ?_;repeat' ((with_reducible apply tw)<;>intro _)
       refine ⟨by simp;omega,?_⟩
       conv=>whnf
       refine rdw ?_;repeat' ((with_reducible apply tw)<;>intro _)
       refine ⟨by omega,by omega,by omega,?_⟩
       conv=>whnf
       rw [hs2]
       refine ⟨by simp [certsD];omega,?_⟩
       conv=>whnf
       refine acalls_via [(0,15)] rfl ?_
       conv=>whnf
       rw [happ]
       refine hlak.mono ?_
       rintro _ _ ⟨rfl,rfl⟩
       conv=>whnf
       refine rdw ?_;repeat' ((with_reducible apply tw)<;>intro _)
       refine hwan.mono ?_
       rintro _ _ ⟨rfl,j,rfl⟩
       rw [inP,if_neg h0,if_pos h7,hout0]
       cases j
       ·conv=>whnf
        refine rdw ?_;repeat' ((with_reducible apply tw)<;>intro _)
        refine ⟨2,[],_,_,_,Nat.le_refl _,rfl,rfl,rfl,rfl,false,rfl⟩
       ·conv=>whnf
        refine rdw ?_;repeat' ((with_reducible apply tw)<;>intro _)
        refine ⟨3,[],_,_,_,by show 2≤3;omega,rfl,rfl,rfl,rfl,true,rfl⟩
    ·rename_i h256
     replace h256:¬((certsD p.late).length:Int)<256:=h256
     have hlp:lateP p.late c=p.late:=by rw [lateP,if_neg (fun h=>by have:=h.2;omega)]
     have hout:=hout0
     rw [hlp] at hout
     (refine (hlak).mono ?_;rintro _ _ ⟨rfl,rfl⟩;(conv=>whnf))
     refine rdw ?_;repeat' ((with_reducible apply tw)<;>intro _)
     refine hwan.mono ?_
     rintro _ _ ⟨rfl,j,rfl⟩
     rw [inP,if_neg h0,if_pos h7,hlp,hout]
     cases j
     ·conv=>whnf
      refine rdw ?_;repeat' ((with_reducible apply tw)<;>intro _)
      refine ⟨2,[],_,_,_,Nat.le_refl _,rfl,rfl,rfl,rfl,false,rfl⟩
     ·conv=>whnf
      refine rdw ?_;repeat' ((with_reducible apply tw)<;>intro _)
      refine ⟨3,[],_,_,_,by show 2≤3;omega,rfl,rfl,rfl,rfl,true,rfl⟩
 ·rename_i h0 h7
  replace h0:putE p.dag c≠0:=h0
  replace h7:putE p.dag c≠7:=h7
  refine ⟨2,[],_,_,_,Nat.le_refl _,rfl,rfl,rfl,rfl,false,?_⟩
  rw [inP,if_neg h0,if_neg h7,cmO,if_neg (fun h=>h7 h.1),List.append_nil]
  rfl
theorem rQuo_ok (n:Int) (hn:isN n=true):ACalls Tryz.prog 40 [.d (.int .i64 n)] [] (fun av L=>av = .d (.int .i64 (quo n))∧L=[]):=rQuorum_ok n hn
set_option maxHeartbeats 4000000 in
theorem certified20_ok (p:Prim) (out:List Msg) (ho:out.length≤100000) (hn:isN p.nodes=true) (ha:few p.acks) (hr:riseB p.acks 1 p.nodes) (hlt:∀ x∈p.late,x.tiny) (hsm:doneP p=true→(certMsg (certP p)).small)
  (hd:doneP p=true→okCert p.dag.nodes (certP p)∧(certP p).tiny∧Fine p.dag p.late∧p.dag.certs.length+p.late.length<60000∧risingC p.late):ACalls Tryz.prog 91 [.ptr 0 0] (p.st out) (fun av L=>av = .tup []∧∃ j,L=(certdP p).sj j (out++if doneP p then tellO (clearP p) (certMsg (certP p)) [] p.nodes.toNat else [])):=by
 have hnn:=of_decide_eq_true hn
 have hct:=rCount_ok p.nodes ⟨by omega,by omega⟩ p.acks ha
 have hcl:cntI p.acks p.nodes.toNat=p.acks.length:=cntI_all (by rw [show ((p.nodes.toNat:Nat):Int)=p.nodes by omega];exact hr)
 rw [hcl] at hct
 have hqu:=rQuo_ok p.nodes hn
 (refine acalls_go ttOk zOk foOk Tryz.func91 rfl Tryz.ntmps91 rfl false rfl ?_);(conv=>whnf)
 ((with_reducible refine draw_pl ttOk zOk foOk mixedOk pl91x0 ?_ ?_);(focus kernel_rfl);(conv=>whnf))
 repeat' (first|(first|((with_reducible first|apply rd_intro|apply gd_and);(focus ((conv=>whnf)<;>first|rfl|(intro K hK;(conv=>whnf);first|exact hK|exact z_wrap (by omega) hK)));conv=>whnf)|((with_reducible apply z_wrap);(focus omega);conv=>whnf)|((with_reducible first|apply mt_dec|apply mt_eq|apply mt_ne|apply mt_not|apply mt_any)<;>(intro _;conv=>whnf)))|((with_reducible apply rd_intro);(focus (intro K hK;(conv=>whnf);refine (hct).mono ?_;rintro _ _ ⟨rfl,rfl⟩;(conv=>whnf);exact hK));(conv=>whnf))|((with_reducible apply gd_and);(focus ((conv=>whnf);intro K hK;(conv=>whnf);refine (hct).mono ?_;rintro _ _ ⟨rfl,rfl⟩;(conv=>whnf);exact hK));(conv=>whnf))|((with_reducible apply rd_intro);(focus (intro K hK;(conv=>whnf);refine (hqu).mono ?_;rintro _ _ ⟨rfl,rfl⟩;(conv=>whnf);exact hK));(conv=>whnf))|((with_reducible apply gd_and);(focus ((conv=>whnf);intro K hK;(conv=>whnf);refine (hqu).mono ?_;rintro _ _ ⟨rfl,rfl⟩;(conv=>whnf);exact hK));(conv=>whnf))|(refine (hct).mono ?_;rintro _ _ ⟨rfl,rfl⟩;(conv=>whnf))|(refine (hqu).mono ?_;rintro _ _ ⟨rfl,rfl⟩;(conv=>whnf))|fail)
 ·rename_i h0
  replace h0:p.dig=0:=h0
  have hd:doneP p=false:=by simp [doneP,h0]
  refine ⟨rfl,false,?_⟩
  rw [certdP,hd]
  simp only [Bool.false_eq_true,if_false,List.append_nil]
  rfl
 ·rename_i h0 hq
  replace hq:(p.acks.length:Int)<quo p.nodes:=hq
  have hd:doneP p=false:=by simp [doneP,hq]
  refine ⟨rfl,false,?_⟩
  rw [certdP,hd]
  simp only [Bool.false_eq_true,if_false,List.append_nil]
  rfl
 ·rename_i h0 hq
  replace h0:p.dig≠0:=h0
  replace hq:¬(p.acks.length:Int)<quo p.nodes:=hq
  have hdn:doneP p=true:=by simp [doneP,h0];omega
  obtain ⟨hok,hct,hf,hroom,hris⟩:=hd hdn
  have htl:=tellO_len (clearP p) (certMsg (certP p)) [] p.nodes.toNat
  have htell:=all20_ok (clearP p) (by show 0≤p.nodes∧p.nodes≤16;omega) out (by omega) (certMsg (certP p)) (hsm hdn)
  have hin:=comes20_ok (clearP p) (out++tellO (clearP p) (certMsg (certP p)) [] p.nodes.toNat) (by rw [List.length_append];omega) (certP p) hok hct hf hroom hlt hris p.id
  rw [certdP,if_pos hdn,if_pos hdn]
  rw [cmO,if_neg (fun h=>h.2 rfl),List.append_nil] at hin
  ((with_reducible refine draw_pl ttOk zOk foOk mixedOk pl91x1 ?_ ?_);(focus kernel_rfl);(conv=>whnf))
  refine rdw ?_;repeat' ((with_reducible apply tw)<;>intro _)
  refine (acalls_nilsL [(0,7,1),(0,8,1),(0,10,1)] rfl (acalls_nw htell (.cons (.refl _) (.cons (.agg ?_) .nil)))).mono ?_
  ·repeat (first|exact .nil|refine .cons (.refl _) ?_|refine .cons (.nils _ (by decide)) ?_)
  ·rintro _ _ ⟨rfl,j,rfl⟩
   cases j
   all_goals
    conv=>whnf
    refine rdw ?_;repeat' ((with_reducible apply tw)<;>intro _)
    ((with_reducible refine draw_pl ttOk zOk foOk mixedOk pl91x6 ?_ ?_);(focus kernel_rfl);(conv=>whnf))
    refine rdw ?_;repeat' ((with_reducible apply tw)<;>intro _)
    refine hin.mono ?_
    rintro _ _ ⟨rfl,j,rfl⟩
    cases j
    all_goals
     conv=>whnf
     refine rdw ?_;repeat' ((with_reducible apply tw)<;>intro _)
     first
      | exact ⟨rfl,false,rfl⟩
      | exact ⟨rfl,true,rfl⟩
end Go.Proofs.YtolkmjfkkkiboaaGreat
