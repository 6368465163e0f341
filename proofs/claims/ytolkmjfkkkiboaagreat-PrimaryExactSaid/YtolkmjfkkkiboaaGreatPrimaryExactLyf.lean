/- PrimaryExact: abstract runs. -/
import Derived.Test.YtolkmjfkkkiboaaGreatPrimaryExactLy27
set_option linter.all false
namespace Go.Ab
open Go.RowKit
theorem It {n:Nat} (h:n<4503599627370496):∃ m p,Ieee.double.read (Ieee.double.nearest false n 0) = .number false m p/\∃ e:Nat,p = -(e:Int)/\m=n * 2 ^ e:=by
 by_cases h0:n=0
 ·subst h0;have key:∀ e:Nat,Ieee.double.leastPlace = -(e:Int)->∃ m p,Ieee.double.read (Ieee.double.nearest false 0 0) = .number false m p/\∃ e:Nat,p = -(e:Int)/\m=0 * 2 ^ e:=λe he=>⟨0,Ieee.double.leastPlace,?_,e,he,(Nat.zero_mul _).symm⟩;refine key 1074 ?_
  rotate_left
  ·simp [Ieee.Format.nearest,Ieee.Format.word,Ieee.Format.read,Ieee.Format.signWeight,Ieee.double,Ieee.Format.binade]
  ·simp [Ieee.Format.leastPlace,Ieee.double]
 ·have hl:n.log2<52:=(Nat.log2_lt h0).2 h;have fb:2 ^ n.log2<=n:=Nat.log2_self_le h0;have TK:n<2 ^ (n.log2+1):=Nat.lt_log2_self;obtain ⟨l,hle⟩:∃ l,n.log2=l:=⟨_,rfl⟩;rw [hle] at hl fb TK;obtain ⟨e,he⟩:∃ e,e+l=52:=⟨52 - l,oM⟩;have qS:Ieee.double.leastPlace = -1074:=by simp [Ieee.Format.leastPlace,Ieee.double]
  have DW:max ((0:Int)+l - Ieee.double.fractionBits) Ieee.double.leastPlace = -(e:Int):=by
   rw [qS];show max ((0:Int)+l - 52) (-1074)=_;omega
  rw [qS] at DW;obtain ⟨B,hB⟩:∃ B:Nat,B=2 ^ 52:=⟨_,rfl⟩;have hB0:0<B:=by rw [hB];exact Nat.two_pow_pos 52
  have hm1:B<=n * 2 ^ e:=by
   calc B=2 ^ l * 2 ^ e:=by rw [hB,<-Nat.pow_add,ZK,he]
    _<=n * 2 ^ e:=lT _ fb
  have hm2:n * 2 ^ e<B * 2:=by
   calc n * 2 ^ e<2 ^ (l+1) * 2 ^ e:=Nat.mul_lt_mul_of_pos_right TK (Nat.two_pow_pos e)
    _=B * 2:=by rw [hB,<-Nat.pow_add,<-Nat.pow_succ];congr 1;omega
  have hb:Ieee.double.binade=B:=by rw [hB];rfl
  have hi:Ieee.double.infRung=2047 * B:=by unfold Ieee.Format.infRung;rw [hb];rfl
  have hsw:Ieee.double.signWeight=2048 * B:=by
   rw [hB];show 2 ^ (11+52)=2048 * 2 ^ 52;rw [Nat.pow_add]
  obtain ⟨r,hr⟩:∃ r,n * 2 ^ e=B+r:=⟨n * 2 ^ e - B,oM⟩;have hrB:r<B:=oM;obtain ⟨q,hq⟩:∃ q,1074 - e=q:=⟨_,rfl⟩;have afr:Ieee.double.nearest false n 0=(q+1) * B+r:=by
   unfold Ieee.Format.nearest;rw [aR h0,hle];simp only [qS,DW];have e1:((0:Int) - -(e:Int)).toNat=e:=oM;have e2:(-(e:Int) - 0).toNat=0:=oM;have e3:(-(e:Int) - -1074).toNat=q:=oM;rw [e1,e2,e3];have hcut:Ieee.Toward.even.cut false (n <<< e) 0=n * 2 ^ e:=by
    simp [Ieee.Toward.cut,Nat.shiftLeft_eq,zfP]
   rw [hcut,hi,hb,hr];unfold Ieee.Format.word;rw [aR dC];have h1:=lT B (oM:q+2<=2047);have h2:(q+2) * B=q * B+2 * B:=qu ..;have h3:(q+1) * B=q * B+1 * B:=qu ..;rw [vd oM];omega
  refine ⟨n * 2 ^ e,-(e:Int),?_,e,rfl,rfl⟩;rw [afr,hr];unfold Ieee.Format.read;simp only [hsw,hb,hi,qS];have h1:=lT B (oM:q+2<=1076);have h2:(q+2) * B=(q+1) * B+1 * B:=qu (q+1) 1 B;have h4:(q+1) * B=q * B+1 * B:=qu ..;have bB:(q+1) * B+r<1076 * B:=oM;rw [Nat.div_eq_of_lt oM,zd3 (a:=(q+1) * B+r) (b:=2048 * B) oM,aR oM,bp oM];have r3:((q+1) * B+r) % B=r:=by rw [Nat.mul_comm,Nat.mul_add_mod,zd3 hrB]
  have r4:((q+1) * B+r) / B=q+1:=by rw [Nat.mul_comm,Nat.mul_add_div hB0,Nat.div_eq_of_lt hrB]
  rw [r3,r4];have r6:(-1074:Int)+((q+1 - 1:Nat):Int) = -(e:Int):=oM;rw [r6];rfl
theorem Iu {n:Int} (h:0<=n):bL .f64 n=Ieee.double.nearest false n.toNat 0:=by
 unfold bL FloatKind.nearest FloatKind.encode FloatKind.format Ieee.Format.write;rw [aP oM,show n.natAbs=n.toNat by omega]
theorem sK {a b:Int} (ha:0<=a/\a<4503599627370496) (hb:0<=b/\b<4503599627370496):FloatKind.f64.format.order (bL .f64 a) (bL .f64 b)=some (compare a b):=by
 obtain ⟨m,p,h1,e,rfl,hm⟩:=It (n:=a.toNat) oM;obtain ⟨m',p',h2,e',rfl,uY⟩:=It (n:=b.toNat) oM;show Ieee.double.order _ _=_;unfold Ieee.Format.order;rw [Iu ha.1,Iu hb.1,h1,h2];simp only [Ieee.Datum.order];obtain ⟨t,ht⟩:∃ t,max e e'=t:=⟨_,rfl⟩;have aiE:min (-(e:Int)) (-(e':Int)) = -(t:Int):=oM;rw [aiE];have t1:(-(e:Int) - -(t:Int)).toNat=t - e:=oM;have t2:(-(e':Int) - -(t:Int)).toNat=t - e':=oM;have s1:Ieee.signed false m (t - e)=a * 2 ^ t:=by
  have:m <<< (t - e)=a.toNat * 2 ^ t:=by
   rw [Nat.shiftLeft_eq,hm,Nat.mul_assoc,<-Nat.pow_add];congr 2;omega
  unfold Ieee.signed;rw [aR dC,this];have:(a.toNat:Int)=a:=oM;rw [Int.natCast_mul,this]
  norm_cast
 have s2:Ieee.signed false m' (t - e')=b * 2 ^ t:=by
  have:m' <<< (t - e')=b.toNat * 2 ^ t:=by
   rw [Nat.shiftLeft_eq,uY,Nat.mul_assoc,<-Nat.pow_add];congr 2;omega
  unfold Ieee.signed;rw [aR dC,this];have:(b.toNat:Int)=b:=oM;rw [Int.natCast_mul,this]
  norm_cast
 rw [t1,t2,s1,s2];congr 1;have hp:(0:Int)<2 ^ t:=Int.pow_pos dC;rcases zeX a b with h|h|h
 ·rw [zeD.2 h,zeD.2 (Int.mul_lt_mul_of_pos_right h hp)]
 ·subst h;simp
 ·rw [zeE.2 h,zeE.2 (Int.mul_lt_mul_of_pos_right h hp)]
def gL (n:Int):Prop:=0<=n/\n<4503599627370496
theorem FZ {a b:Int} (ha:gL a) (hb:gL b):eo .lss .f64 (bL .f64 a) (bL .f64 b)=decide (a<b):=by
 unfold eo;simp only [sK ha hb];rcases zeX a b with h|h|h
 ·rw [zeD.2 h,cz h];rfl
 ·subst h;simp
 ·rw [zeE.2 h,aP oM];rfl
theorem XE {a b:Int} (ha:gL a) (hb:gL b):eo .gtr .f64 (bL .f64 a) (bL .f64 b)=decide (a>b):=by
 unfold eo;simp only [sK ha hb];rcases zeX a b with h|h|h
 ·rw [zeD.2 h,aP oM];rfl
 ·subst h;simp
 ·rw [zeE.2 h,cz h];rfl
theorem XF {a b:Int} (ha:gL a) (hb:gL b):eo .eql .f64 (bL .f64 a) (bL .f64 b)=decide (a=b):=by
 unfold eo;simp only [sK ha hb];rcases zeX a b with h|h|h
 ·rw [zeD.2 h,aP oM];rfl
 ·subst h;simp
 ·rw [zeE.2 h,aP oM];rfl
theorem XG {a b:Int} (ha:gL a) (hb:gL b):eo .neq .f64 (bL .f64 a) (bL .f64 b)=decide (a≠b):=by
 unfold eo;simp only [sK ha hb];rcases zeX a b with h|h|h
 ·rw [zeD.2 h,cz oM];rfl
 ·subst h;simp
 ·rw [zeE.2 h,cz oM];rfl
theorem XH:bL .f64 0=0:=by decide +kernel
theorem TL:bL .f64 17=4625478292286210048:=by decide +kernel
end Go.Ab
