/- Part of the claim ModelPuts: N16, N17, N18, N19, N20, N21, N22. -/
import Derived.Test.YtaihjcpfjgpmoaaGreatDoorZD
import Derived.Test.YtaihjcpfjgpmoaaGreatDoorNB
set_option linter.unusedVariables false
set_option linter.unusedSimpArgs false
set_option maxRecDepth 100000
set_option maxHeartbeats 2000000
set_option exponentiation.threshold 2000
namespace Go.Proofs.YtaihjcpfjgpmoaaGreatDoor
open Go Go.DD Go.EE
def Mt(f:Nat→Nat):Nat:=f 0+2^64*f 1+2^128*f 2+2^192*f 3
theorem Mv{m:Nat}(hm:m<2^256):Mt (w4 m)=m:=by
 unfold Mt w4;simp only[Nat.reduceMul,Nat.reducePow,Nat.div_one];omega
theorem Ws{f:Nat→Nat}(hf:∀k,k<4→f k<2^64):∀k,k<4→f k=w4 (Mt f) k:=by
 have h0:=hf 0 (by decide);have h1:=hf 1 (by decide);have h2:=hf 2 (by decide);have h3:=hf 3 (by decide);unfold Mt w4;refine(A0 ?_ (A0 ?_ (A0 ?_ (A0 ?_ A9))))
 all_goals
  simp only[Nat.reduceMul,Nat.reducePow,Nat.div_one];omega
theorem C3(m k:Nat):w4 m k<2^64:=Nat.mod_lt _ (by decide)
def ca(a b:Nat):Nat→Nat|0=>0|i+1=>(w4 a i+w4 b i+ca a b i)/2^64
def sw(a b k:Nat):Nat:=(w4 a k+w4 b k+ca a b k)%2^64
def bo(a b:Nat):Nat→Nat|0=>0|i+1=>if w4 a i<w4 b i+bo a b i then 1 else 0
def dw(a b k:Nat):Nat:=(w4 a k+2^64 - w4 b k - bo a b k)%2^64
theorem rJ(a b:Nat):∀i,ca a b i≤1
 |0=>by simp[ca]
 |i+1=>by
  have:=rJ a b i
  have:=C3 a i
  have:=C3 b i
  simp only[ca];omega
theorem R3(a b:Nat):∀i,bo a b i≤1
 |0=>by simp[bo]
 |i+1=>by
  simp only[bo]
  split<;>omega
theorem AD0{a b:Nat}(ha:a<2^256)(hb:b<2^256):Mt (sw a b)+2^256*ca a b 4=a+b:=by
 have h0:=chain (a:=w4 a 0+w4 b 0) (c:=ca a b 0) (B:=2^64) (c':=ca a b 1) (r:=sw a b 0) rfl rfl;have h1:=chain (a:=w4 a 1+w4 b 1) (c:=ca a b 1) (B:=2^64) (c':=ca a b 2) (r:=sw a b 1) rfl rfl;have h2:=chain (a:=w4 a 2+w4 b 2) (c:=ca a b 2) (B:=2^64) (c':=ca a b 3) (r:=sw a b 2) rfl rfl;have h3:=chain (a:=w4 a 3+w4 b 3) (c:=ca a b 3) (B:=2^64) (c':=ca a b 4) (r:=sw a b 3) rfl rfl;have hz:ca a b 0=0:=rfl;have hA:=Mv ha;have hB:=Mv hb;unfold Mt at*;clear ha hb;generalize sw a b 0=s0 at*;generalize sw a b 1=s1 at*;generalize sw a b 2=s2 at*;generalize sw a b 3=s3 at*;omega
theorem Vl{x y c:Nat}(hx:x<2^64)(hy:y<2^64)(hc:c≤1):x+2^64*(if x<y+c then 1 else 0)=(x+2^64 - y - c)%2^64+y+c:=by
 split<;>omega
theorem zJ{a b:Nat}(ha:a<2^256)(hb:b<2^256):a+2^256*bo a b 4=Mt (dw a b)+b:=by
 have h0:w4 a 0+2^64*bo a b 1=dw a b 0+w4 b 0+bo a b 0:=Vl (C3 a 0) (C3 b 0) (R3 a b 0);have h1:w4 a 1+2^64*bo a b 2=dw a b 1+w4 b 1+bo a b 1:=Vl (C3 a 1) (C3 b 1) (R3 a b 1);have h2:w4 a 2+2^64*bo a b 3=dw a b 2+w4 b 2+bo a b 2:=Vl (C3 a 2) (C3 b 2) (R3 a b 2);have h3:w4 a 3+2^64*bo a b 4=dw a b 3+w4 b 3+bo a b 3:=Vl (C3 a 3) (C3 b 3) (R3 a b 3);have hz:bo a b 0=0:=rfl;have hA:=Mv ha;have hB:=Mv hb;unfold Mt at*;clear ha hb;generalize dw a b 0=s0 at*;generalize dw a b 1=s1 at*;generalize dw a b 2=s2 at*;generalize dw a b 3=s3 at*;omega
theorem Wr{f:Nat→Nat}(hf:∀k,k<4→f k<2^64):Mt f<2^256:=by
 have h0:=hf 0 (by decide);have h1:=hf 1 (by decide);have h2:=hf 2 (by decide);have h3:=hf 3 (by decide);unfold Mt;omega
theorem AKp(a b:Nat):∀k,k<4→sw a b k<2^64:=fun k _=>Nat.mod_lt _ (by decide)
theorem rU(a b:Nat):∀k,k<4→dw a b k<2^64:=fun k _=>Nat.mod_lt _ (by decide)
theorem AK5{a b:Nat}(ha:a<2^256)(hb:b<2^256):bo a b 4=if a<b then 1 else 0:=by
 have h1:=zJ ha hb;have h2:=Wr (rU a b);have h3:=R3 a b 4
 split<;>omega
def Ng(x:Av×Av):Av×Fin 2:=(⟨Mt (dw x.1.val x.2.val),Wr (rU _ _)⟩,⟨bo x.1.val x.2.val 4,by have:=R3 x.1.val x.2.val 4;omega⟩)
def Hr(x:Av×Av):Av×Fin 2:=(⟨Mt (sw x.1.val x.2.val),Wr (AKp _ _)⟩,⟨ca x.1.val x.2.val 4,by have:=rJ x.1.val x.2.val 4;omega⟩)
theorem Px{x:Av×Av}(h:x.2.val≤x.1.val):(Ng x).1.val=x.1.val - x.2.val:=by
 have h1:=zJ x.1.isLt x.2.isLt;have h2:=AK5 x.1.isLt x.2.isLt;rw[if_neg (by omega)]at h2
 show Mt _=_
 omega
theorem Vj{x:Av×Av}(h:x.1.val+x.2.val<2^256):(Hr x).1.val=x.1.val+x.2.val:=by
 have h1:=AD0 x.1.isLt x.2.isLt;have h2:=rJ x.1.val x.2.val 4
 show Mt _=_
 omega
def nV(x:Av):V:=Iz x.val
def ar4(x:Av×Av):List V:=[nV x.1,nV x.2]
def cV(r:Av×Fin 2):V:= .tup (.cons (nV r.1) (.cons (.int .u64 (r.2.val:Nat)) .nil))
def AR7:A7:=Bf ar4 (fun _=>True) (fun x=>decide (x.1.val<x.2.val)) .bool
theorem tE{a b:Nat}(ha:a<2^256)(hb:b<2^256):(((bo a b 4:Nat):Int)==1)=decide (a<b):=by
 rw[AK5 ha hb]
 split
 ·rename_i h;rw[decide_eq_true h];rfl
 ·rename_i h;rw[decide_eq_false h];rfl
theorem sJ:FOk Tryz.prog [] 221 AR7:=A8 fun⟨⟨a,ha⟩,⟨b,hb⟩⟩ _=>by
 show CP _ _ _ [Iz a,Iz b] _
 have hΓ:=Ad Tryz.f221.ntmps _ _ (FL.all (.cons fY .nil)) (HL.all .nil);refine Aw hΓ Tryz.func221 ?_;conv=>whnf
 refine A4 (ι:=Nat) (fun i=>[(2, .ref 0 []),(3, .ref 1 []),(5, .int .u64 (bo a b i:Nat)),(7, .int .i64 (i:Nat))]) (fun i=>[some (Iz a),some (Iz b)]) (fun i=>i≤4) (fun i=>4 - i) 0 [some 0,some 1] ?_ (fun i hi=>vo hΓ ?_)
 ·conv=>whnf
  repeat' ((first|apply Ap<;>intro _|apply An)<;>conv=>whnf)
  all_goals try exact⟨Ba⟩
 ·conv=>whnf
  apply Ap<;>intro h3<;>conv=>whnf
  ·have hin:i<4:=by
    have:((i:Nat):Int)<4:=by simpa using h3
    omega
   have hok:(⟨w4 a i,w4 b i,bo a b i⟩:W3).ok:=⟨C3 a i,C3 b i,by have:=R3 a b i;omega⟩;conv=>whnf
   repeat' ((first|apply Ap<;>intro _|apply An)<;>conv=>whnf)
   all_goals try exact⟨Bc⟩
   refine⟨⟨w4 a i,w4 b i,bo a b i⟩,⟨AE.refl _,AE.refl _,AE.refl _,trivial⟩,⟨hok⟩,fun r hr=>?_⟩;replace hr:r=(dw a b i,bo a b (i+1)):=hr;subst hr;conv=>whnf
   repeat' ((first|apply Ap<;>intro _|apply An)<;>conv=>whnf)
   refine⟨i+1,[some 0,some 1],?_⟩;conv=>whnf
   repeat' (apply An<;>conv=>whnf)
   all_goals try exact⟨Ba⟩
   ·exact⟨by rw[A3 (by omega) (by omega)];rfl⟩
  ·have hin:i=4:=by
    have:¬((i:Nat):Int)<4:=by simpa using h3
    omega
   subst hin;refine vo hΓ ?_;conv=>whnf
   repeat' ((first|apply Ap<;>intro _|apply An)<;>conv=>whnf)
   exact Ld.of (congrArg V.bool (tE ha hb))
def loX:Av:=⟨Lo,by decide⟩
def pX:Av:=⟨P,by decide⟩
def ARg:A7:=Bf (fun(_:Unit)=>[]) (fun _=>True) (fun _=>loX) nV
theorem sL:FOk Tryz.prog [] 222 ARg:=A8 fun _ _=>by
 have hΓ:=Ad Tryz.f222.ntmps _ _ (FL.all .nil) (HL.all .nil);refine Aw hΓ Tryz.func222 ?_;conv=>whnf
 repeat' ((first|apply Ap<;>intro _|apply An)<;>conv=>whnf)
 all_goals try exact⟨B9⟩
 ·refine⟨?_⟩;refine(A0 ?_ (A0 ?_ (A0 ?_ (A0 ?_ A9))));all_goals exact trivial
 ·refine Ld.row ?_;refine(A0 ?_ (A0 ?_ (A0 ?_ (A0 ?_ A9))));all_goals exact congrArg (V.int .u64) (by decide+kernel)
theorem tY:FOk Tryz.prog [] 251 ARg:=A8 fun _ _=>by
 have hΓ:=Ad Tryz.f251.ntmps _ _ (FL.all .nil) (HL.all .nil);refine Aw hΓ Tryz.func251 ?_;conv=>whnf
 repeat' ((first|apply Ap<;>intro _|apply An)<;>conv=>whnf)
 all_goals try exact⟨B9⟩
 ·refine⟨?_⟩;refine(A0 ?_ (A0 ?_ (A0 ?_ (A0 ?_ A9))));all_goals exact trivial
 ·refine Ld.row ?_;refine(A0 ?_ (A0 ?_ (A0 ?_ (A0 ?_ A9))));all_goals exact congrArg (V.int .u64) (by decide+kernel)
def fP:A7:=Bf (fun(_:Unit)=>[]) (fun _=>True) (fun _=>pX) nV
theorem kI:FOk Tryz.prog [] 202 fP:=A8 fun _ _=>by
 have hΓ:=Ad Tryz.f202.ntmps _ _ (FL.all .nil) (HL.all .nil);refine Aw hΓ Tryz.func202 ?_;conv=>whnf
 repeat' ((first|apply Ap<;>intro _|apply An)<;>conv=>whnf)
 all_goals try exact⟨B9⟩
 ·refine⟨?_⟩;refine(A0 ?_ (A0 ?_ (A0 ?_ (A0 ?_ A9))));all_goals exact trivial
 ·refine Ld.row ?_;refine(A0 ?_ (A0 ?_ (A0 ?_ (A0 ?_ A9))));all_goals exact congrArg (V.int .u64) (by decide+kernel)
def ARt:A7:=Bf ar4 (fun _=>True) Ng cV
theorem Ll:FOk Tryz.prog [] 201 ARt:=A8 fun⟨⟨a,ha⟩,⟨b,hb⟩⟩ _=>by
 show CP _ _ _ [Iz a,Iz b] _
 have hΓ:=Ad Tryz.f201.ntmps _ _ (FL.all (.cons fY .nil)) (HL.all .nil);refine Aw hΓ Tryz.func201 ?_;conv=>whnf
 refine A4 (ι:=Nat) (fun i=>[(2, .ref 0 []),(3, .ref 1 []),(4, .ref 2 []),(6, .int .u64 (bo a b i:Nat)),(7, .ref 3 []),(8, .int .i64 (i:Nat))]) (fun i=>[some (Iz a),some (Iz b),some (.row 1 4 fun _=> .int .u64 0),some (.row 1 4 (nv fun k=>if k<i then dw a b k else 0))]) (fun i=>i≤4) (fun i=>4 - i) 0 [some 0,some 1,some 2,some 3] ?_ (fun i hi=>vo hΓ ?_)
 ·conv=>whnf
  repeat' ((first|apply Ap<;>intro _|apply An)<;>conv=>whnf)
  all_goals try exact⟨Ba⟩
 ·conv=>whnf
  apply Ap<;>intro h3<;>conv=>whnf
  ·have hin:i<4:=by
    have:((i:Nat):Int)<4:=by simpa using h3
    omega
   have hok:(⟨w4 a i,w4 b i,bo a b i⟩:W3).ok:=⟨C3 a i,C3 b i,by have:=R3 a b i;omega⟩;conv=>whnf
   repeat' ((first|apply Ap<;>intro _|apply An)<;>conv=>whnf)
   all_goals try exact⟨B9⟩
   refine⟨⟨w4 a i,w4 b i,bo a b i⟩,⟨AE.refl _,AE.refl _,AE.refl _,trivial⟩,⟨hok⟩,fun r hr=>?_⟩;replace hr:r=(dw a b i,bo a b (i+1)):=hr;subst hr;conv=>whnf
   repeat' ((first|apply Ap<;>intro _|apply An)<;>conv=>whnf)
   all_goals try exact⟨B9⟩
   refine⟨i+1,[some 0,some 1,some 2,some 3],?_⟩;conv=>whnf
   repeat' (apply An<;>conv=>whnf)
   all_goals try exact⟨Ba⟩
   ·exact⟨by rw[A3 (by omega) (by omega)];rfl⟩
   exact⟨fun k _=>A5 (L2 (fun _=>0) (dw a b) i k rfl) trivial⟩
  ·have hin:i=4:=by
    have:¬((i:Nat):Int)<4:=by simpa using h3
    omega
   subst hin;refine vo hΓ ?_;conv=>whnf
   repeat' ((first|apply Ap<;>intro _|apply An)<;>conv=>whnf)
   all_goals try exact⟨B9⟩
   refine Ld.two (Ld.row fun k hk=>?_) (by simp) rfl (by simp[nV,Iz]) rfl;exact congrArg (V.int .u64) (congrArg Nat.cast ((if_pos hk).trans (Ws (rU a b) k hk)))
def AQu:A7:=Bf ar4 (fun _=>True) Hr cV
theorem Ny:FOk Tryz.prog [] 205 AQu:=A8 fun⟨⟨a,ha⟩,⟨b,hb⟩⟩ _=>by
 show CP _ _ _ [Iz a,Iz b] _
 have hΓ:=Ad Tryz.f205.ntmps _ _ (FL.all (.cons Vu .nil)) (HL.all .nil);refine Aw hΓ Tryz.func205 ?_;conv=>whnf
 refine A4 (ι:=Nat) (fun i=>[(2, .ref 0 []),(3, .ref 1 []),(4, .ref 2 []),(6, .int .u64 (ca a b i:Nat)),(7, .ref 3 []),(8, .int .i64 (i:Nat))]) (fun i=>[some (Iz a),some (Iz b),some (.row 1 4 fun _=> .int .u64 0),some (.row 1 4 (nv fun k=>if k<i then sw a b k else 0))]) (fun i=>i≤4) (fun i=>4 - i) 0 [some 0,some 1,some 2,some 3] ?_ (fun i hi=>vo hΓ ?_)
 ·conv=>whnf
  repeat' ((first|apply Ap<;>intro _|apply An)<;>conv=>whnf)
  all_goals try exact⟨Ba⟩
 ·conv=>whnf
  apply Ap<;>intro h3<;>conv=>whnf
  ·have hin:i<4:=by
    have:((i:Nat):Int)<4:=by simpa using h3
    omega
   have hok:(⟨w4 a i,w4 b i,ca a b i⟩:W3).ok:=⟨C3 a i,C3 b i,by have:=rJ a b i;omega⟩;conv=>whnf
   repeat' ((first|apply Ap<;>intro _|apply An)<;>conv=>whnf)
   all_goals try exact⟨B9⟩
   refine⟨⟨w4 a i,w4 b i,ca a b i⟩,⟨AE.refl _,AE.refl _,AE.refl _,trivial⟩,⟨hok⟩,fun r hr=>?_⟩;replace hr:r=(sw a b i,ca a b (i+1)):=hr;subst hr;conv=>whnf
   repeat' ((first|apply Ap<;>intro _|apply An)<;>conv=>whnf)
   all_goals try exact⟨B9⟩
   refine⟨i+1,[some 0,some 1,some 2,some 3],?_⟩;conv=>whnf
   repeat' (apply An<;>conv=>whnf)
   all_goals try exact⟨Ba⟩
   ·exact⟨by rw[A3 (by omega) (by omega)];rfl⟩
   exact⟨fun k _=>A5 (L2 (fun _=>0) (sw a b) i k rfl) trivial⟩
  ·have hin:i=4:=by
    have:¬((i:Nat):Int)<4:=by simpa using h3
    omega
   subst hin;refine vo hΓ ?_;conv=>whnf
   repeat' ((first|apply Ap<;>intro _|apply An)<;>conv=>whnf)
   all_goals try exact⟨B9⟩
   refine Ld.two (Ld.row fun k hk=>?_) (by simp) rfl (by simp[nV,Iz]) rfl;exact congrArg (V.int .u64) (congrArg Nat.cast ((if_pos hk).trans (Ws (AKp a b) k hk)))
theorem Wl:FOk Tryz.prog [] 209 AR7:=A8 fun⟨a,b⟩ _=>by
 show CP _ _ _ [nV a,nV b] fun v=>Ld v (.bool (decide (a.val<b.val)))
 obtain⟨x,hx⟩:∃x:Av×Av,x=(a,b):=⟨_,rfl⟩;have hd:((((Ng x).2.val:Nat):Int)==1)=decide (a.val<b.val):=by rw[hx];exact tE a.isLt b.isLt
 have hΓ:=Ad Tryz.f209.ntmps _ _ (FL.all (.cons Ll .nil)) (HL.all .nil);refine Aw hΓ Tryz.func209 ?_;conv=>whnf
 repeat' ((first|apply Ap<;>intro _|apply An)<;>conv=>whnf)
 all_goals try exact⟨B9⟩
 obtain⟨r,hu⟩:∃r,r=Ng x:=⟨_,rfl⟩;rw[←hu]at hd;rw[hx]at hu;refine⟨(a,b),⟨AE.refl _,AE.refl _,trivial⟩,⟨trivial⟩,fun rr hr=>?_⟩;replace hr:r=rr:=(hr.trans (hu.symm)).symm;subst hr;conv=>whnf
 repeat' ((first|apply Ap<;>intro _|apply An)<;>conv=>whnf)
 all_goals try exact⟨B0⟩
 exact Ld.of (congrArg V.bool hd)
def Ih(f:Nat→Nat):Nat→Nat|0=>0|n+1=>Ih f n+f n*2^(64*n)
def K2(f:Nat→Nat)(j v k:Nat):Nat:=if k=j then v else f k
theorem uN{f:Nat→Nat}{j v:Nat}:∀n,n≤j→Ih (K2 f j v) n=Ih f n
 |0,_=>rfl
 |n+1,h=>by
  rw[Ih,Ih,uN n (by omega),K2,if_neg (by omega)]
theorem Sn{f:Nat→Nat}{j v:Nat}:∀n,j<n→Ih (K2 f j v) n+f j*2^(64*j)=Ih f n+v*2^(64*j)
 |0,h=>absurd h (by omega)
 |n+1,h=>by
  by_cases hj:j=n
  ·subst hj;rw[Ih,Ih,uN j (Nat.le_refl _),K2,if_pos rfl];omega
  ·have:=Sn (f:=f) (j:=j) (v:=v) n (by omega)
   rw[Ih,Ih,show K2 f j v n=f n from if_neg (by omega)];omega
theorem uO{f:Nat→Nat}(hf:∀k,f k<2^64):∀n,Ih f n<2^(64*n)
 |0=>by simp[Ih]
 |n+1=>by
  have h1:=uO hf n;have h2:=Nat.mul_le_mul_right (2^(64*n)) (show f n≤2^64 - 1 by have:=hf n;omega);rw[Ih,Nat.mul_succ,Nat.pow_add];rw[Nat.sub_mul,Nat.one_mul]at h2;have h3:2^(64*n)≤2^64*2^(64*n):=Nat.le_mul_of_pos_left _ (by decide);rw[Nat.mul_comm (2^(64*n))];omega
theorem uM(f:Nat→Nat)(k:Nat):∀n,k<n→∃R,Ih f n=Ih f k+2^(64*k)*(f k+2^64*R)
 |0,h=>absurd h (by omega)
 |n+1,h=>by
  by_cases hk:k=n
  ·subst hk;exact⟨0,by rw[Ih,Nat.mul_zero,Nat.add_zero,Nat.mul_comm]⟩
  ·obtain⟨R,hR⟩:=uM f k n (by omega);refine⟨R+f n*2^(64*(n - k - 1)),?_⟩;have e:2^(64*n)=2^(64*k)*(2^64*2^(64*(n - k - 1))):=by rw[←Nat.pow_add,←Nat.pow_add];congr 1;omega
   rw[Ih,hR,e];simp only[Nat.mul_add]
   have e2:f n*(2^(64*k)*(2^64*2^(64*(n - k - 1))))=2^(64*k)*(2^64*(f n*2^(64*(n - k - 1)))):=by
    generalize 2^(64*k)=x;generalize 2^(64*(n - k - 1))=y;generalize 2^64=z;rw[Nat.mul_left_comm,Nat.mul_left_comm (f n)]
   omega
theorem AD9{f:Nat→Nat}(hf:∀k,f k<2^64){n k:Nat}(hk:k<n):f k=w4 (Ih f n) k:=by
 obtain⟨R,hR⟩:=uM f k n hk;rw[w4,hR,Nat.add_mul_div_left _ _ (Nat.two_pow_pos _),Nat.div_eq_of_lt (uO hf k),Nat.zero_add,Nat.add_mul_mod_self_left,Nat.mod_eq_of_lt (hf k)]
theorem Yh(m i:Nat):m%2^(64*(i+1))=m%2^(64*i)+2^(64*i)*w4 m i:=by
 rw[Nat.mul_succ,Nat.pow_add,Nat.mod_mul];rfl
theorem lM{x y f c:Nat}(hx:x<2^64)(hy:y<2^64)(hf:f<2^64)(hc:c<2^64):x*y/2^64+(f+x*y%2^64)/2^64+((f+x*y%2^64)%2^64+c)/2^64<2^64∧
  ((f+x*y%2^64)%2^64+c)%2^64+2^64*(x*y/2^64+(f+x*y%2^64)/2^64+((f+x*y%2^64)%2^64+c)/2^64)=f+c+x*y:=by
 have hp:x*y≤(2^64 - 1)*(2^64 - 1):=Nat.mul_le_mul (by omega) (by omega);generalize x*y=p at*;omega
structure PO(a b n i:Nat)(f:Nat→Nat):Prop where
 h1:i≤4
 h2:∀k,f k<2^64
 h3:∀k,i+4≤k→f k=0
 h5:Ih f n=(a%2^(64*i))*b
structure PI(a b n i k:Nat)(f:Nat→Nat)(c:Nat):Prop where
 h1:k≤4
 h2:∀j,f j<2^64
 h3:∀j,i+4≤j→f j=0
 h4:c<2^64
 h5:Ih f n+c*2^(64*(i+k))=(a%2^(64*i))*b+w4 a i*2^(64*i)*(b%2^(64*k))
theorem dM:∀n,Ih (fun _=>0) n=0
 |0=>rfl
 |n+1=>by rw[Ih,dM n,Nat.zero_mul]
theorem qT(a b n:Nat):PO a b n 0 fun _=>0:=⟨by decide,fun _=>by decide,fun _ _=>rfl,by rw[dM,Nat.mul_zero,Nat.pow_zero,Nat.mod_one,Nat.zero_mul]⟩
theorem qR{a b n i:Nat}{f:Nat→Nat}(h:PO a b n i f):PI a b n i 0 f 0:=⟨by decide,h.h2,h.h3,by decide,by rw[h.h5,Nat.zero_mul,Nat.mul_zero,Nat.pow_zero,Nat.mod_one,Nat.mul_zero]⟩
theorem qQ{a b n i k:Nat}{f:Nat→Nat}{c s c':Nat}(h:PI a b n i k f c)(hk:k<4)(hn:i+k<n)(hs:s<2^64)(hc:c'<2^64)(he:s+2^64*c'=f (i+k)+c+w4 a i*w4 b k):PI a b n i (k+1) (K2 f (i+k) s) c' where
 h1:=hk
 h2:=fun j=>by unfold K2;split;exact hs;exact h.h2 j
 h3:=fun j hj=>by unfold K2;rw[if_neg (by omega)];exact h.h3 j hj
 h4:=hc
 h5:=by
  have h1:=h.h5;have h2:=Sn (f:=f) (j:=i+k) (v:=s) n hn;have h3:=congrArg (·*2^(64*(i+k))) he;simp only[Nat.add_mul]at h3;rw[Yh,show 64*(i+(k+1))=64*(i+k)+64 by omega,Nat.pow_add,Nat.mul_add (w4 a i*2^(64*i))]
  have e1:w4 a i*2^(64*i)*(2^(64*k)*w4 b k)=w4 a i*w4 b k*2^(64*(i+k)):=by
   rw[show 64*(i+k)=64*i+64*k by omega,Nat.pow_add];generalize 2^(64*i)=x;generalize 2^(64*k)=y;simp only[Nat.mul_assoc,Nat.mul_comm,Nat.mul_left_comm]
  have e2:c'*(2^(64*(i+k))*2^64)=2^64*c'*2^(64*(i+k)):=by
   generalize 2^(64*(i+k))=x;generalize 2^64=z;simp only[Nat.mul_assoc,Nat.mul_comm,Nat.mul_left_comm]
  rw[e1,e2];omega
theorem qS{a b n i:Nat}{f:Nat→Nat}{c:Nat}(hb:b<2^256)(h:PI a b n i 4 f c)(hi:i<4)(hn:i+4<n):PO a b n (i+1) (K2 f (i+4) c) where
 h1:=hi
 h2:=fun j=>by unfold K2;split;exact h.h4;exact h.h2 j
 h3:=fun j hj=>by unfold K2;rw[if_neg (by omega)];exact h.h3 j (by omega)
 h5:=by
  have h1:=h.h5;have h2:=Sn (f:=f) (j:=i+4) (v:=c) n hn;rw[h.h3 (i+4) (Nat.le_refl _),Nat.zero_mul]at h2;rw[Yh,Nat.add_mul];rw[Nat.mod_eq_of_lt (show b<2^(64*4)from hb)]at h1;rw[Nat.mul_comm (2^(64*i)) (w4 a i)];omega
theorem xX{a b n:Nat}{f:Nat→Nat}(ha:a<2^256)(h:PO a b n 4 f):Ih f n=a*b:=by
 rw[h.h5,Nat.mod_eq_of_lt (show a<2^(64*4)from ha)]
theorem ASv{m k:Nat}(hm:m<2^256)(hk:4≤k):w4 m k=0:=by
 have:(2:Nat)^256≤2^(64*k):=Nat.pow_le_pow_right (by decide) (by omega)
 rw[w4,Nat.div_eq_of_lt (by omega)]
structure Pd where
 k:Nat
 f:Nat→Nat
 c:Nat
def w8V(m:Nat):V:= .row 1 8 (nv (w4 m))
def ARx:A7:=Bf ar4 (fun _=>True) (fun x=>x.1.val*x.2.val) w8V
theorem Z0{f:Nat→Nat}{j s:Nat}{z:Int}(hz:z=(j:Nat)){v:V}(hv:v= .int .u64 (s:Nat))(k:Nat):(if k=z.toNat then v else nv f k)=nv (K2 f j s) k:=by
 subst hz;rw[Int.toNat_natCast];unfold nv K2
 by_cases h:k=j
 ·rw[if_pos h,if_pos h,hv]
 ·rw[if_neg h,if_neg h]
theorem Wq{x y:Nat}(h:x+y<2^64):IntKind.u64.wrap (((x:Nat):Int)+(y:Nat))=((x+y:Nat):Int):=by rw[←Int.natCast_add,Ao _ h]
theorem AAp:FOk Tryz.prog [] 204 ARx:=A8 fun⟨⟨a,ha⟩,⟨b,hb⟩⟩ _=>by
 show CP _ _ _ [Iz a,Iz b] fun v=>Ld v (w8V (a*b))
 have hΓ:=Ad Tryz.f204.ntmps _ _ (FL.all (.cons Vz (.cons Vu .nil))) (HL.all .nil);refine Aw hΓ Tryz.func204 ?_;conv=>whnf
 refine A4 (ι:=Pd) (fun x=>[(2, .ref 0 []),(3, .ref 1 []),(4, .ref 2 []),(5, .ref 3 []),(6, .int .i64 (x.k:Nat))]) (fun x=>[some (Iz a),some (Iz b),some (.row 1 8 fun _=> .int .u64 0),some (.row 1 8 (nv x.f))]) (fun x=>PO a b 8 x.k x.f) (fun x=>4 - x.k) ⟨0,fun _=>0,0⟩ [some 0,some 1,some 2,some 3] ?_ (fun i hi=>vo hΓ ?_)
 ·conv=>whnf
  repeat' ((first|apply Ap<;>intro _|apply An)<;>conv=>whnf)
  all_goals try first|exact⟨Ba⟩|exact⟨qT a b 8⟩
 ·have hi4:=hi.h1;conv=>whnf
  apply Ap<;>intro h3<;>conv=>whnf
  ·have hin:i.k<4:=by
    have:((i.k:Nat):Int)<4:=by simpa using h3
    omega
   refine A4 (ι:=Pd) (fun x=>[(2, .ref 0 []),(3, .ref 1 []),(4, .ref 2 []),(5, .ref 3 []),(6, .int .i64 (i.k:Nat)),(7, .int .u64 (x.c:Nat)),(8, .int .i64 (x.k:Nat))]) (fun x=>[some (Iz a),some (Iz b),some (.row 1 8 fun _=> .int .u64 0),some (.row 1 8 (nv x.f))]) (fun x=>PI a b 8 i.k x.k x.f x.c) (fun x=>4 - x.k) ⟨0,i.f,0⟩ [some 0,some 1,some 2,some 3] ?_ (fun x hx=>vo hΓ ?_)
   ·conv=>whnf
    repeat' ((first|apply Ap<;>intro _|apply An)<;>conv=>whnf)
    all_goals try first|exact⟨Ba⟩|exact⟨qR hi⟩
   ·have hk4:=hx.h1;conv=>whnf
    apply Ap<;>intro h4<;>conv=>whnf
    ·have hkn:x.k<4:=by
      have:((x.k:Nat):Int)<4:=by simpa using h4
      omega
     have hat:IntKind.i64.wrap ((i.k:Int)+(x.k:Int))=((i.k+x.k:Nat):Int):=by rw[A3 (by omega) (by omega)];omega
     have hst:=lM (C3 a i.k) (C3 b x.k) (hx.h2 (i.k+x.k)) hx.h4;obtain⟨p,hp⟩:∃p,p=w4 a i.k*w4 b x.k:=⟨_,rfl⟩;have hpl:p/2^64<2^64:=Nat.div_lt_of_lt_mul (by rw[hp];exact Nat.mul_lt_mul'' (C3 a i.k) (C3 b x.k));rw[←hp]at hst;conv=>whnf
     repeat' ((first|apply Ap<;>intro _|apply An)<;>conv=>whnf)
     all_goals try first|exact⟨Bc⟩|exact⟨by rw[hat];omega⟩
     refine⟨(w4 a i.k,w4 b x.k),⟨AE.refl _,AE.refl _,trivial⟩,⟨C3 a i.k,C3 b x.k⟩,fun r hr=>?_⟩;replace hr:r=(p/2^64,p%2^64):=by rw[hp];exact hr
     subst hr;conv=>whnf
     repeat' ((first|apply Ap<;>intro _|apply An)<;>conv=>whnf)
     all_goals try first|exact⟨Bc⟩|exact⟨by rw[hat];omega⟩
     have hfj:x.f (IntKind.i64.wrap ((i.k:Int)+(x.k:Int))).toNat=x.f (i.k+x.k):=by rw[hat,Int.toNat_natCast]
     obtain⟨s1,hs1⟩:∃s1,s1=(x.f (i.k+x.k)+p%2^64)%2^64:=⟨_,rfl⟩;obtain⟨c1,hc1⟩:∃c1,c1=(x.f (i.k+x.k)+p%2^64)/2^64:=⟨_,rfl⟩;obtain⟨s2,hs2⟩:∃s2,s2=(s1+x.c)%2^64:=⟨_,rfl⟩;obtain⟨c2,hc2⟩:∃c2,c2=(s1+x.c)/2^64:=⟨_,rfl⟩;rw[←hs1,←hc1,←hs2,←hc2]at hst;have hs1l:s1<2^64:=hs1▸Nat.mod_lt _ (by decide);have hs2l:s2<2^64:=hs2▸Nat.mod_lt _ (by decide);refine⟨⟨p%2^64,x.f (i.k+x.k),0⟩,⟨AE.refl _,AE.of (congrArg (fun n:Nat=>V.int .u64 (n:Int)) hfj),AE.of rfl,trivial⟩,⟨⟨Nat.mod_lt _ (by decide),hx.h2 _,Nat.zero_le 1⟩⟩,fun r hr=>?_⟩
     replace hr:r=(s1,c1):=hr.trans (by
      show((p%2^64+x.f (i.k+x.k)+0)%2^64,(p%2^64+x.f (i.k+x.k)+0)/2^64)=(s1,c1)
      rw[Nat.add_zero,Nat.add_comm,hs1,hc1])
     subst hr;conv=>whnf
     repeat' ((first|apply Ap<;>intro _|apply An)<;>conv=>whnf)
     all_goals try exact⟨Bc⟩
     refine⟨⟨s1,x.c,0⟩,⟨AE.refl _,AE.refl _,AE.of rfl,trivial⟩,⟨⟨hs1l,hx.h4,Nat.zero_le 1⟩⟩,fun r hr=>?_⟩
     replace hr:r=(s2,c2):=hr.trans (by
      show((s1+x.c+0)%2^64,(s1+x.c+0)/2^64)=(s2,c2)
      rw[Nat.add_zero,hs2,hc2])
     subst hr;conv=>whnf
     repeat' ((first|apply Ap<;>intro _|apply An)<;>conv=>whnf)
     all_goals try first|exact⟨Bc⟩|exact⟨by rw[hat];omega⟩|exact⟨fun _ _=>trivial⟩
     refine⟨⟨x.k+1,K2 x.f (i.k+x.k) s2,p/2^64+c1+c2⟩,[some 0,some 1,some 2,some 3],?_⟩;conv=>whnf
     repeat' (apply An<;>conv=>whnf)
     all_goals try exact⟨Ba⟩
     ·refine⟨?_⟩
      show IntKind.u64.wrap (IntKind.u64.wrap (((p/2^64:Nat):Int)+(c1:Nat))+(c2:Nat))=_
      rw[Wq (by omega),Wq (by omega)]
     ·exact⟨by rw[A3 (by omega) (by omega)];rfl⟩
     ·exact⟨fun k _=>A5 (Z0 hat rfl k) trivial⟩
     ·refine⟨⟨?_,?_⟩⟩
      ·exact qQ hx hkn (by omega) hs2l hst.1 (by rw[←hp];exact hst.2)
      ·show 4 - (x.k+1)<4 - x.k
       omega
    ·have hkn:x.k=4:=by
      have:¬((x.k:Nat):Int)<4:=by simpa using h4
      omega
     have hx4:PI a b 8 i.k 4 x.f x.c:=hkn▸hx;have hat:IntKind.i64.wrap ((i.k:Int)+4)=((i.k+4:Nat):Int):=by rw[A3 (by omega) (by omega)];omega
     refine vo hΓ ?_;conv=>whnf
     repeat' ((first|apply Ap<;>intro _|apply An)<;>conv=>whnf)
     all_goals try first|exact⟨Bc⟩|exact⟨by rw[hat];omega⟩
     refine vo hΓ ?_;conv=>whnf
     refine⟨⟨i.k+1,K2 x.f (i.k+4) x.c,0⟩,[some 0,some 1,some 2,some 3],?_⟩;conv=>whnf
     repeat' (apply An<;>conv=>whnf)
     all_goals try exact⟨Ba⟩
     ·exact⟨by rw[A3 (by omega) (by omega)];rfl⟩
     ·exact⟨fun k _=>A5 (Z0 hat rfl k) trivial⟩
     ·refine⟨⟨?_,?_⟩⟩
      ·exact qS hb hx4 hin (by omega)
      ·show 4 - (i.k+1)<4 - i.k
       omega
  ·have hin:i.k=4:=by
    have:¬((i.k:Nat):Int)<4:=by simpa using h3
    omega
   have hi5:PO a b 8 4 i.f:=hin▸hi;have hv:=xX ha hi5;refine vo hΓ ?_;conv=>whnf
   repeat' ((first|apply Ap<;>intro _|apply An)<;>conv=>whnf)
   all_goals try exact⟨B9⟩
   refine Ld.row fun k hk=>congrArg (V.int .u64) (congrArg Nat.cast ?_);rw[←hv];exact AD9 hi5.h2 hk
def Wc(m:Nat):Nat→List UInt8|0=>[]|k+1=>Wc m k++[UInt8.ofNat (Hh m k)]
theorem Ff(m:Nat):∀k,(Wc m k).length=k
 |0=>rfl
 |k+1=>by simp[Wc,Ff m k]
structure PS(m c i:Nat)(f:Nat→Nat)(x:Nat):Prop where
 h1:i≤9
 h2:∀k,f k<2^64
 h4:x≤1
 h5:Ih f 9+x*2^(64*i)=m+c%2^(64*i)
theorem AE9{m c i:Nat}{f:Nat→Nat}{x s x':Nat}(h:PS m c i f x)(hi:i<9)(hs:s<2^64)(hx:x'≤1)(he:s+2^64*x'=f i+w4 c i+x):PS m c (i+1) (K2 f i s) x' where
 h1:=hi
 h2:=fun j=>by unfold K2;split;exact hs;exact h.h2 j
 h4:=hx
 h5:=by
  have h1:=h.h5;have h2:=Sn (f:=f) (j:=i) (v:=s) 9 hi;have h3:=congrArg (·*2^(64*i)) he;simp only[Nat.add_mul]at h3;rw[Yh,Nat.mul_succ,Nat.pow_add,Nat.mul_comm (2^(64*i)) (w4 c i)]
  have e2:x'*(2^(64*i)*2^64)=2^64*x'*2^(64*i):=by
   generalize 2^(64*i)=x;generalize 2^64=z;simp only[Nat.mul_assoc,Nat.mul_comm,Nat.mul_left_comm]
  rw[e2];omega
theorem AJm{V x m c Q A B:Nat}(h1:V+x*(Q*B)=m+c)(hm:m<Q)(hc:c<A)(hA:A≤Q)(hB:2≤B)(hx:x≤1):V=m+c:=by
 have h2:=Nat.mul_le_mul_left Q hB
 have:x=0∨x=1:=by omega
 rcases this with h0|h0
 ·rw[h0]at h1;omega
 ·rw[h0,Nat.one_mul]at h1;omega
theorem ALh{m c:Nat}{f:Nat→Nat}{x:Nat}(hm:m<2^256*2^256)(hc:c<2^256)(h:PS m c 9 f x):Ih f 9=m+c:=by
 have h1:=h.h5;have h3:c<2^(64*9):=Nat.lt_of_lt_of_le hc (Nat.pow_le_pow_right (by decide) (by decide));rw[Nat.mod_eq_of_lt h3,show 64*9=256+256+64 from rfl,Nat.pow_add,Nat.pow_add]at h1;exact AJm h1 hm hc (Nat.le_mul_of_pos_left _ (Nat.two_pow_pos _)) (by decide) h.h4
def AWc:A7:=Bf (fun(x:Av×Av×Av)=>[nV x.1,nV x.2.1,nV x.2.2]) (fun _=>True) (fun x=>Wc (x.1.val*x.2.1.val+x.2.2.val) 72) (Bl false)
theorem AJ9{f:Nat→Nat}{j s:Nat}{w:V}(k:Nat):(if k=j then V.int .u64 (s:Nat)else if k=j then w else nv f k)=nv (K2 f j s) k:=by
 unfold nv K2
 by_cases h:k=j
 ·rw[if_pos h,if_pos h]
 ·rw[if_neg h,if_neg h,if_neg h]
theorem AG9:FOk Tryz.prog [] 247 AWc:=A8 fun⟨⟨a,ha⟩,⟨b,hb⟩,⟨c,hc⟩⟩ _=>by
 show CP _ _ _ [Iz a,Iz b,Iz c] fun v=>Ld v (Bl false (Wc (a*b+c) 72))
 have hΓ:=Ad Tryz.f247.ntmps _ _ (FL.all (.cons Vz (.cons Vu .nil))) (HL.all .nil);refine Aw hΓ Tryz.func247 ?_;conv=>whnf
 refine A4 (ι:=Pd) (fun x=>[(3, .ref 0 []),(4, .ref 1 []),(5, .ref 2 []),(7, .ref 3 []),(20, .int .i64 (x.k:Nat))]) (fun x=>[some (Iz a),some (Iz b),some (Iz c),some (.row 1 9 (nv x.f))]) (fun x=>PO a b 9 x.k x.f) (fun x=>4 - x.k) ⟨0,fun _=>0,0⟩ [some 0,some 1,some 2,some 3] ?_ (fun i hi=>vo hΓ ?_)
 ·conv=>whnf
  repeat' ((first|apply Ap<;>intro _|apply An)<;>conv=>whnf)
  all_goals try first|exact⟨Ba⟩|exact⟨qT a b 9⟩
 ·have hi4:=hi.h1;conv=>whnf
  apply Ap<;>intro h3<;>conv=>whnf
  ·have hin:i.k<4:=by
    have:((i.k:Nat):Int)<4:=by simpa using h3
    omega
   refine A4 (ι:=Pd) (fun x=>[(3, .ref 0 []),(4, .ref 1 []),(5, .ref 2 []),(7, .ref 3 []),(8, .int .i64 (i.k:Nat)),(9, .int .u64 (x.c:Nat)),(20, .int .i64 (i.k:Nat)),(23, .int .i64 (x.k:Nat))]) (fun x=>[some (Iz a),some (Iz b),some (Iz c),some (.row 1 9 (nv x.f))]) (fun x=>PI a b 9 i.k x.k x.f x.c) (fun x=>4 - x.k) ⟨0,i.f,0⟩ [some 0,some 1,some 2,some 3] ?_ (fun x hx=>vo hΓ ?_)
   ·conv=>whnf
    repeat' ((first|apply Ap<;>intro _|apply An)<;>conv=>whnf)
    all_goals try first|exact⟨Ba⟩|exact⟨qR hi⟩
   ·have hk4:=hx.h1;conv=>whnf
    apply Ap<;>intro h4<;>conv=>whnf
    ·have hkn:x.k<4:=by
      have:((x.k:Nat):Int)<4:=by simpa using h4
      omega
     obtain⟨ik,hik⟩:∃ik,ik=i.k:=⟨_,rfl⟩;obtain⟨xk,hxk⟩:∃xk,xk=x.k:=⟨_,rfl⟩;rw[←hik,←hxk]at hx⊢;rw[←hik]at hin;rw[←hxk]at hkn;have hst:=lM (C3 a ik) (C3 b xk) (hx.h2 (ik+xk)) hx.h4;obtain⟨p,hp⟩:∃p,p=w4 a ik*w4 b xk:=⟨_,rfl⟩;have hpl:p/2^64<2^64:=Nat.div_lt_of_lt_mul (by rw[hp];exact Nat.mul_lt_mul'' (C3 a ik) (C3 b xk));rw[←hp]at hst;obtain⟨s1,hs1⟩:∃s1,s1=(x.f (ik+xk)+p%2^64)%2^64:=⟨_,rfl⟩;obtain⟨c1,hc1⟩:∃c1,c1=(x.f (ik+xk)+p%2^64)/2^64:=⟨_,rfl⟩;obtain⟨s2,hs2⟩:∃s2,s2=(s1+x.c)%2^64:=⟨_,rfl⟩;obtain⟨c2,hc2⟩:∃c2,c2=(s1+x.c)/2^64:=⟨_,rfl⟩;rw[←hs1,←hc1,←hs2,←hc2]at hst;have hs1l:s1<2^64:=hs1▸Nat.mod_lt _ (by decide);have hs2l:s2<2^64:=hs2▸Nat.mod_lt _ (by decide);have hnx:=qQ hx hkn (by omega) hs2l hst.1 (by rw[←hp];exact hst.2);have hfl:=hx.h2 (ik+xk);obtain⟨y,hy⟩:∃y,y=xk+1:=⟨_,rfl⟩;obtain⟨q,hq⟩:∃q,q=K2 x.f (ik+xk) s2:=⟨_,rfl⟩;rw[←hy,←hq]at hnx;obtain⟨fj,hfj⟩:∃fj,fj=x.f (ik+xk):=⟨_,rfl⟩;rw[←hfj]at hs1 hc1 hfl;have hc4:=hx.h4;have hym:4 - y<4 - xk:=by omega
     have hm1:(fj+p%2^64+0)%2^64=s1:=by rw[Nat.add_zero,hs1]
     have hm2:(fj+p%2^64+0)/2^64=c1:=by rw[Nat.add_zero,hc1]
     have hm3:(s1+x.c+0)%2^64=s2:=by rw[Nat.add_zero,hs2]
     have hm4:(s1+x.c+0)/2^64=c2:=by rw[Nat.add_zero,hc2]
     have hw2:IntKind.u64.wrap (IntKind.u64.wrap (((p/2^64:Nat):Int)+(c1:Nat))+(c2:Nat))=((p/2^64+c1+c2:Nat):Int):=by rw[Wq (by omega),Wq (by omega)]
     have hkk:=hst.1;clear hs1 hc1 hs2 hc2 hst hx hi hik hxk hi4 hk4;have hik4:ik=0∨ik=1∨ik=2∨ik=3:=by omega
     have hxk4:xk=0∨xk=1∨xk=2∨xk=3:=by omega
     rcases hik4 with rfl|rfl|rfl|rfl<;>rcases hxk4 with rfl|rfl|rfl|rfl
     all_goals
      conv=>whnf
      repeat' ((first|apply Ap<;>intro _|apply An)<;>conv=>whnf)
      all_goals try first|exact⟨Bc⟩|exact⟨by decide⟩
      refine⟨(_,_),⟨AE.refl _,AE.refl _,trivial⟩,⟨C3 _ _,C3 _ _⟩,fun r hr=>?_⟩;replace hr:r=(p/2^64,p%2^64):=by rw[hp];exact hr
      subst hr;conv=>whnf
      repeat' ((first|apply Ap<;>intro _|apply An)<;>conv=>whnf)
      all_goals try first|exact⟨Bc⟩|exact⟨by decide⟩
      refine⟨⟨fj,p%2^64,0⟩,⟨AE.of (congrArg (fun n:Nat=>V.int .u64 (n:Int)) hfj.symm),AE.refl _,AE.of rfl,trivial⟩,⟨⟨hfl,Nat.mod_lt _ (by decide),Nat.zero_le 1⟩⟩,fun r hr=>?_⟩;replace hr:r=(s1,c1):=hr.trans (by rw[←hm1,←hm2]);subst hr;conv=>whnf
      repeat' ((first|apply Ap<;>intro _|apply An)<;>conv=>whnf)
      all_goals try first|exact⟨Bc⟩|exact⟨by decide⟩
      refine⟨⟨s1,x.c,0⟩,⟨AE.refl _,AE.refl _,AE.of rfl,trivial⟩,⟨⟨hs1l,hc4,Nat.zero_le 1⟩⟩,fun r hr=>?_⟩;replace hr:r=(s2,c2):=hr.trans (by rw[←hm3,←hm4]);subst hr;conv=>whnf
      repeat' ((first|apply Ap<;>intro _|apply An)<;>conv=>whnf)
      all_goals try first|exact⟨Bc⟩|exact⟨by decide⟩|exact⟨fun _ _=>trivial⟩
      refine⟨⟨y,q,p/2^64+c1+c2⟩,[some 0,some 1,some 2,some 3],?_⟩;conv=>whnf
      repeat' (apply An<;>conv=>whnf)
      all_goals try first|exact⟨Ba⟩|exact⟨hw2⟩|exact⟨by rw[hy];rfl⟩|exact⟨⟨hnx,hym⟩⟩
      exact⟨fun k _=>A5 (by rw[hq];exact AJ9 k) trivial⟩
    ·have hkn:x.k=4:=by
      have:¬((x.k:Nat):Int)<4:=by simpa using h4
      omega
     have hx4:PI a b 9 i.k 4 x.f x.c:=hkn▸hx;have hat:IntKind.i64.wrap ((i.k:Int)+4)=((i.k+4:Nat):Int):=by rw[A3 (by omega) (by omega)];omega
     refine vo hΓ ?_;conv=>whnf
     repeat' ((first|apply Ap<;>intro _|apply An)<;>conv=>whnf)
     all_goals try first|exact⟨Bc⟩|exact⟨by rw[hat];omega⟩
     refine vo hΓ ?_;conv=>whnf
     refine⟨⟨i.k+1,K2 x.f (i.k+4) x.c,0⟩,[some 0,some 1,some 2,some 3],?_⟩;conv=>whnf
     repeat' (apply An<;>conv=>whnf)
     all_goals try exact⟨Ba⟩
     ·exact⟨by rw[A3 (by omega) (by omega)];rfl⟩
     ·exact⟨fun k _=>A5 (Z0 hat rfl k) trivial⟩
     ·refine⟨⟨?_,?_⟩⟩
      ·exact qS hb hx4 hin (by omega)
      ·show 4 - (i.k+1)<4 - i.k
       omega
  ·have hin:i.k=4:=by
    have:¬((i.k:Nat):Int)<4:=by simpa using h3
    omega
   have hi5:PO a b 9 4 i.f:=hin▸hi;have hv:=xX ha hi5;have hm:a*b<2^256*2^256:=Nat.mul_lt_mul'' ha hb;have hps:PS (a*b) c 0 i.f 0:=⟨by decide,hi5.h2,by decide,by rw[hv,Nat.mul_zero,Nat.pow_zero,Nat.mod_one]⟩;generalize a*b=m at*;refine vo hΓ ?_;conv=>whnf
   refine A4 (ι:=Pd) (fun x=>[(5, .ref 0 []),(7, .ref 1 []),(15, .int .u64 (x.c:Nat)),(75, .int .i64 (x.k:Nat))]) (fun x=>[some (Iz c),some (.row 1 9 (nv x.f))]) (fun x=>PS m c x.k x.f x.c) (fun x=>9 - x.k) ⟨0,i.f,0⟩ [some 2,some 3] ?_ (fun x hx=>vo hΓ ?_)
   ·conv=>whnf
    repeat' ((first|apply Ap<;>intro _|apply An)<;>conv=>whnf)
    all_goals try first|exact⟨Ba⟩|exact⟨hps⟩
   ·have hx9:=hx.h1;have hxc:x.c≤1:=hx.h4;conv=>whnf
    apply Ap<;>intro h4<;>conv=>whnf
    ·have hkn:x.k<9:=by
      have:((x.k:Nat):Int)<9:=by simpa using h4
      omega
     obtain⟨s,hs⟩:∃s,s=(x.f x.k+w4 c x.k+x.c)%2^64:=⟨_,rfl⟩;obtain⟨c',hc'⟩:∃c',c'=(x.f x.k+w4 c x.k+x.c)/2^64:=⟨_,rfl⟩;have hfl:=hx.h2 x.k;have hwl:=C3 c x.k;have hnx:=AE9 (s:=s) (x':=c') hx hkn (hs▸Nat.mod_lt _ (by decide)) (by omega) (by omega);conv=>whnf
     apply Ap<;>intro h5<;>conv=>whnf
     ·have hk4:x.k<4:=by
       have:((x.k:Nat):Int)<4:=by simpa using h5
       omega
      conv=>whnf
      repeat' ((first|apply Ap<;>intro _|apply An)<;>conv=>whnf)
      all_goals try exact⟨Bc⟩
      refine⟨⟨x.f x.k,w4 c x.k,x.c⟩,⟨AE.refl _,AE.refl _,AE.refl _,trivial⟩,⟨⟨hfl,hwl,hxc⟩⟩,fun r hr=>?_⟩;replace hr:r=(s,c'):=hr.trans (by rw[hs,hc']);subst hr;conv=>whnf
      repeat' ((first|apply Ap<;>intro _|apply An)<;>conv=>whnf)
      all_goals try exact⟨B9⟩
      refine⟨⟨x.k+1,K2 x.f x.k s,c'⟩,[some 0,some 1],?_⟩;conv=>whnf
      repeat' (apply An<;>conv=>whnf)
      all_goals try exact⟨Ba⟩
      ·exact⟨by rw[A3 (by omega) (by omega)];rfl⟩
      ·exact⟨fun k _=>A5 (Z0 rfl rfl k) trivial⟩
      ·refine⟨⟨hnx,?_⟩⟩
       show 9 - (x.k+1)<9 - x.k
       omega
     ·have hk4:¬x.k<4:=by
       have:¬((x.k:Nat):Int)<4:=by simpa using h5
       omega
      have hw0:w4 c x.k=0:=ASv hc (by omega);rw[hw0]at hs hc';conv=>whnf
      repeat' ((first|apply Ap<;>intro _|apply An)<;>conv=>whnf)
      all_goals try exact⟨Bc⟩
      refine⟨⟨x.f x.k,0,x.c⟩,⟨AE.refl _,AE.of rfl,AE.refl _,trivial⟩,⟨⟨hfl,Nat.two_pow_pos 64,hxc⟩⟩,fun r hr=>?_⟩;replace hr:r=(s,c'):=hr.trans (by rw[hs,hc']);subst hr;conv=>whnf
      repeat' ((first|apply Ap<;>intro _|apply An)<;>conv=>whnf)
      all_goals try exact⟨B9⟩
      refine⟨⟨x.k+1,K2 x.f x.k s,c'⟩,[some 0,some 1],?_⟩;conv=>whnf
      repeat' (apply An<;>conv=>whnf)
      all_goals try exact⟨Ba⟩
      ·exact⟨by rw[A3 (by omega) (by omega)];rfl⟩
      ·exact⟨fun k _=>A5 (Z0 rfl rfl k) trivial⟩
      ·refine⟨⟨hnx,?_⟩⟩
       show 9 - (x.k+1)<9 - x.k
       omega
    ·have hkn:x.k=9:=by
      have:¬((x.k:Nat):Int)<9:=by simpa using h4
      omega
     have hx9:PS m c 9 x.f x.c:=hkn▸hx;have hv:=ALh hm hc hx9;have hwf:∀k,k<9→x.f k=w4 (m+c) k:=fun k hk=>by rw[←hv];exact AD9 hx.h2 hk
     generalize m+c=M at*;refine vo hΓ ?_;conv=>whnf
     refine A4 (ι:=Nat) (fun i=>[(7, .ref 0 []),(18,U5 1 (Wc M i)),(95, .int .i64 (i:Nat))]) (fun i=>[some (.row 1 9 (nv (w4 M))),some (G1 (Wc M i))]) (fun i=>i≤72) (fun i=>72 - i) 0 [some 1,none] ?_ (fun j hj=>vo hΓ ?_)
     ·conv=>whnf
      repeat' ((first|apply Ap<;>intro _|apply An)<;>conv=>whnf)
      all_goals try first|exact⟨Bc⟩|exact⟨fun k hk=>A5 (congrArg (fun n:Nat=>V.int .u64 (n:Int)) (hwf k hk)) trivial⟩
     ·have hll:=Ff M j;conv=>whnf
      apply Ap<;>intro h6<;>conv=>whnf
      ·have hjn:j<72:=by
        have:((j:Nat):Int)<72:=by simpa using h6
        omega
       have e1:=Fo (i:=j) (by omega);have e2:=Hz (i:=j) (by omega);conv=>whnf
       repeat' ((first|apply Ap<;>intro _|apply An)<;>conv=>whnf)
       all_goals try first|exact⟨Bc⟩|exact⟨by rw[e1];omega⟩|exact⟨by rw[e2];omega⟩
       refine Or.inl ?_;conv=>whnf
       repeat' ((first|apply Ap<;>intro _|apply An)<;>conv=>whnf)
       all_goals try first|exact⟨Ah⟩|exact⟨⟨by show(_+_)*1≤_;omega,by omega⟩⟩
       have hcs:(Wc M (j+1)).length=(Wc M j).length+1:=by rw[Wc,List.length_append];rfl
       refine⟨j+1,[some 0,some 3],?_⟩;conv=>whnf
       repeat' (apply An<;>conv=>whnf)
       all_goals try first|exact⟨Ah⟩|exact⟨⟨rfl,hcs.symm,hcs.symm⟩⟩|exact⟨hcs.symm⟩|exact⟨fun k _=>Aa _ trivial⟩
       ·exact⟨by rw[A3 (by omega) (by omega)];rfl⟩
       ·refine⟨?_⟩;rw[hcs];refine F0 (fun k hk=>if_pos hk) ?_;refine(if_neg (Nat.lt_irrefl _)).trans ?_;rw[Nat.sub_self,UInt8.toNat_ofNat',Nat.mod_eq_of_lt (show Hh M j<2^8 from Nat.mod_lt _ (by decide)),←R5,←e2,←Int.toNat_natCast (j/8),←e1];rfl
      ·have hjn:j=72:=by
        have:¬((j:Nat):Int)<72:=by simpa using h6
        omega
       subst hjn;refine vo hΓ ?_;conv=>whnf
       repeat' (apply An<;>conv=>whnf)
       ·exact⟨by omega⟩
       ·exact⟨fun _ _=>Bg _ _⟩
       ·refine Ld.imm fun k hk=>?_;rw[Nat.zero_add]
theorem ANp{w b:Nat}(hw:w<2^64)(hb:b≤1):Ag .or .u64 (Ch .u64 (w:Nat) 1) (b:Nat)=(((2*w+b)%2^64:Nat):Int):=by
 have h1:Ch .u64 (w:Nat) 1=(((w%2^63)<<<1:Nat):Int):=by
  rw[Ch,show((1:Int).toNat)=1 from rfl,show min 1 IntKind.u64.bits=1 from rfl,Nat.shiftLeft_eq,IntKind.wrap_u64];omega
 have h2:(w%2^63)<<<1<2^64:=by rw[Nat.shiftLeft_eq];omega
 rw[h1,G2 _ _ h2 (by omega),←Nat.shiftLeft_add_eq_or_of_lt (show b<2^1 by omega),Nat.shiftLeft_eq]
 congr 1
 omega
def sb(a b:Nat):Nat→Nat|0=>b|i+1=>w4 a i/2^63
def sh(a b k:Nat):Nat:=(2*w4 a k+sb a b k)%2^64
theorem ASk{a b:Nat}(hb:b≤1):∀i,sb a b i≤1
 |0=>hb
 |i+1=>by have:=C3 a i;simp only[sb];omega
theorem AOk{a b:Nat}(ha:a<Lo)(hb:b≤1):Mt (sh a b)=2*a+b:=by
 have hL:Lo<2^253:=by decide
 have hA:=Mv (m:=a) (by omega);have l0:=C3 a 0;have l1:=C3 a 1;have l2:=C3 a 2
 have l3:w4 a 3<2^63:=by
  show a/2^(64*3)%2^64<_
  simp only[Nat.reduceMul,Nat.reducePow]at*;omega
 have e0:sh a b 0=(2*w4 a 0+b)%2^64:=rfl;have e1:sh a b 1=(2*w4 a 1+w4 a 0/2^63)%2^64:=rfl;have e2:sh a b 2=(2*w4 a 2+w4 a 1/2^63)%2^64:=rfl;have e3:sh a b 3=(2*w4 a 3+w4 a 2/2^63)%2^64:=rfl;unfold Mt at*;rw[e0,e1,e2,e3];clear e0 e1 e2 e3 hL ha;generalize w4 a 0=a0 at*;generalize w4 a 1=a1 at*;generalize w4 a 2=a2 at*;generalize w4 a 3=a3 at*;omega
theorem AKn(a b:Nat):∀k,k<4→sh a b k<2^64:=fun k _=>Nat.mod_lt _ (by decide)
def AWi:A7:=Bf (fun(x:Fin Lo×Fin 2)=>[Iz x.1.val, .int .u64 (x.2.val:Nat)]) (fun _=>True) (fun x=>(2*x.1.val+x.2.val)%Lo) Iz
theorem AGe:FOk Tryz.prog [] 260 AWi:=A8 fun⟨⟨a,ha⟩,⟨b,hb⟩⟩ _=>by
 show CP _ _ _ [Iz a, .int .u64 (b:Nat)] fun v=>Ld v (Iz ((2*a+b)%Lo))
 have hb1:b≤1:=by omega
 have hval:=AOk ha hb1;obtain⟨S,hS⟩:∃S:Av,S.val=2*a+b:=⟨⟨Mt (sh a b),Wr (AKn a b)⟩,hval⟩;have hw:∀k,k<4→sh a b k=w4 S.val k:=fun k hk=>by rw[hS,←hval];exact Ws (AKn a b) k hk
 have hS2:S.val<2*Lo:=by omega
 rw[←hS];have hΓ:=Ad Tryz.f260.ntmps _ _ (FL.all (.cons sJ (.cons sL (.cons fY .nil)))) (HL.all .nil);refine Aw hΓ Tryz.func260 ?_;conv=>whnf
 refine A4 (ι:=Nat) (fun i=>[(1, .int .u64 (sb a b i:Nat)),(2, .ref 0 []),(4, .ref 1 []),(9, .int .i64 (i:Nat))]) (fun i=>[some (.row 1 4 (nv fun k=>if k<i then sh a b k else w4 a k)),some (.row 1 4 fun _=> .int .u64 0)]) (fun i=>i≤4) (fun i=>4 - i) 0 [some 0,some 1] ?_ (fun i hi=>vo hΓ ?_)
 ·conv=>whnf
  repeat' ((first|apply Ap<;>intro _|apply An)<;>conv=>whnf)
  all_goals try exact⟨Ba⟩
 ·conv=>whnf
  apply Ap<;>intro h3<;>conv=>whnf
  ·have hin:i<4:=by
    have:((i:Nat):Int)<4:=by simpa using h3
    omega
   have hor:Ag .or .u64 (Ch .u64 ((if i<i then sh a b i else w4 a i:Nat):Int) 1) (sb a b i:Nat)=((sh a b i:Nat):Int):=by
    rw[if_neg (Nat.lt_irrefl i)];exact ANp (C3 a i) (ASk hb1 i)
   have hsr:Bt .u64 ((if i<i then sh a b i else w4 a i:Nat):Int) 63=((sb a b (i+1):Nat):Int):=by
    rw[if_neg (Nat.lt_irrefl i)];exact E0 _ 63 (by decide)
   conv=>whnf
   repeat' ((first|apply Ap<;>intro _|apply An)<;>conv=>whnf)
   all_goals try first|exact⟨Bc⟩|exact⟨by decide⟩
   refine⟨i+1,[some 0,some 1],?_⟩;conv=>whnf
   repeat' (apply An<;>conv=>whnf)
   all_goals try first|exact⟨Ba⟩|exact⟨hsr⟩
   ·exact⟨by rw[A3 (by omega) (by omega)];rfl⟩
   exact⟨fun k _=>A5 (L2 (w4 a) (sh a b) i k (congrArg (V.int .u64) hor)) trivial⟩
  ·have hin:i=4:=by
    have:¬((i:Nat):Int)<4:=by simpa using h3
    omega
   subst hin;refine vo hΓ ?_;conv=>whnf
   repeat' ((first|apply Ap<;>intro _|apply An)<;>conv=>whnf)
   all_goals try exact⟨B9⟩
   refine⟨(),trivial,⟨trivial⟩,fun r hr=>?_⟩;subst hr;conv=>whnf
   repeat' ((first|apply Ap<;>intro _|apply An)<;>conv=>whnf)
   all_goals try exact⟨B0⟩
   refine⟨(S,loX),⟨AE.row (fun k hk=>congrArg (V.int .u64) (congrArg Nat.cast ((if_pos hk).trans (hw k hk)))),AE.refl _,trivial⟩,⟨trivial⟩,fun r hr=>?_⟩;subst hr;conv=>whnf
   repeat' ((first|apply Ap<;>intro _|apply An)<;>conv=>whnf)
   all_goals try exact⟨B9⟩
   ·rename_i hc;replace hc:S.val<Lo:=of_decide_eq_true hc;rw[Nat.mod_eq_of_lt hc];exact Ld.row fun k hk=>congrArg (V.int .u64) (congrArg Nat.cast ((if_pos hk).trans (hw k hk)))
   ·rename_i hc;replace hc:¬S.val<Lo:=of_decide_eq_false hc;have hdl:=Px (x:=(S,loX)) (by show Lo≤S.val;omega)
    have hmod:S.val%Lo=Mt (dw S.val Lo):=by
     rw[Nat.mod_eq_sub_mod (by omega),Nat.mod_eq_of_lt (by omega)];exact hdl.symm
    rw[hmod];refine⟨(),trivial,⟨trivial⟩,fun r hr=>?_⟩;subst hr;conv=>whnf
    repeat' ((first|apply Ap<;>intro _|apply An)<;>conv=>whnf)
    all_goals try exact⟨B0⟩
    refine A4 (ι:=Nat) (fun i=>[(2, .ref 0 []),(4, .ref 1 []),(6, .int .u64 (bo S.val Lo i:Nat)),(29,Iz Lo),(30, .int .i64 (i:Nat))]) (fun i=>[some (.row 1 4 (nv fun k=>if k<i then dw S.val Lo k else w4 S.val k)),some (.row 1 4 fun _=> .int .u64 0)]) (fun i=>i≤4) (fun i=>4 - i) 0 [some 0,some 1] ?_ (fun i hi=>vo hΓ ?_)
    ·conv=>whnf
     repeat' ((first|apply Ap<;>intro _|apply An)<;>conv=>whnf)
     all_goals try first|exact⟨Bc⟩|exact⟨fun k hk=>A5 (congrArg (V.int .u64) (congrArg Nat.cast ((if_pos hk).trans ((hw k hk).trans (if_neg (Nat.not_lt_zero k)).symm)))) trivial⟩|exact⟨fun _ _=>rfl⟩
    ·conv=>whnf
     apply Ap<;>intro h4<;>conv=>whnf
     ·have hin:i<4:=by
       have:((i:Nat):Int)<4:=by simpa using h4
       omega
      have hok:(⟨w4 S.val i,w4 Lo i,bo S.val Lo i⟩:W3).ok:=⟨C3 _ i,C3 _ i,R3 _ _ i⟩;conv=>whnf
      repeat' ((first|apply Ap<;>intro _|apply An)<;>conv=>whnf)
      all_goals try exact⟨B9⟩
      refine⟨⟨w4 S.val i,w4 Lo i,bo S.val Lo i⟩,⟨AE.of (congrArg (V.int .u64) (congrArg Nat.cast (if_neg (Nat.lt_irrefl i)))),AE.refl _,AE.refl _,trivial⟩,⟨hok⟩,fun r hr=>?_⟩;replace hr:r=(dw S.val Lo i,bo S.val Lo (i+1)):=hr;subst hr;conv=>whnf
      repeat' ((first|apply Ap<;>intro _|apply An)<;>conv=>whnf)
      all_goals try exact⟨B9⟩
      refine⟨i+1,[some 0,some 1],?_⟩;conv=>whnf
      repeat' (apply An<;>conv=>whnf)
      all_goals try exact⟨Ba⟩
      ·exact⟨by rw[A3 (by omega) (by omega)];rfl⟩
      exact⟨fun k _=>A5 (L2 (w4 S.val) (dw S.val Lo) i k rfl) trivial⟩
     ·have hin:i=4:=by
       have:¬((i:Nat):Int)<4:=by simpa using h4
       omega
      subst hin;refine vo hΓ ?_;conv=>whnf
      repeat' ((first|apply Ap<;>intro _|apply An)<;>conv=>whnf)
      all_goals try exact⟨B9⟩
      exact Ld.row fun k hk=>congrArg (V.int .u64) (congrArg Nat.cast ((if_pos hk).trans (Ws (rU S.val Lo) k hk)))
def L7:List UInt8→Nat|[]=>0|c::l=>c.toNat+256*L7 l
theorem Tq:∀l:List UInt8,L7 l<2^(8*l.length)
 |[]=>by simp[L7]
 |c::l=>by
  have h:=Tq l;have hc:=c.toNat_lt;rw[L7,List.length_cons,Nat.mul_succ,Nat.pow_add];omega
theorem P6:∀(l:List UInt8) (k:Nat),Hh (L7 l) k=(l.getD k 0).toNat
 |[],k=>by
  show 0/2^(8*k)%256=_
  rw[Nat.zero_div];rfl
 |c::l,0=>by
  have hc:=c.toNat_lt
  show(c.toNat+256*L7 l)/2^0%256=c.toNat
  omega
 |c::l,k+1=>by
  have hc:=c.toNat_lt;have h:=P6 l k
  show(c.toNat+256*L7 l)/2^(8*(k+1))%256=(l.getD k 0).toNat
  rw[←h,Hh,show 8*(k+1)=8+8*k by omega,Nat.pow_add,←Nat.div_div_eq_div_mul]
  congr 2
  omega
theorem sT(m:Nat):∀n k,k<n→(Wc m n).getD k 0=UInt8.ofNat (Hh m k)
 |0,_,h=>absurd h (by omega)
 |n+1,k,h=>by
  rw[Wc,List.getD_eq_getElem?_getD]
  by_cases hk:k<n
  ·rw[List.getElem?_append_left (by rw[Ff];exact hk),←List.getD_eq_getElem?_getD];exact sT m n k hk
  ·obtain rfl:k=n:=by omega
   rw[List.getElem?_append_right (by rw[Ff];exact Nat.le_refl _),Ff,Nat.sub_self];rfl
theorem gK(m n:Nat):L7 (Wc m n)=m%2^(8*n):=by
 have h1:=eN (a:=L7 (Wc m n)) (b:=m) n fun k hk=>by
  rw[P6,sT m n k hk,UInt8.toNat_ofNat'];exact Nat.mod_eq_of_lt (Nat.mod_lt _ (by decide))
 rw[←h1]
 have:=Tq (Wc m n)
 rw[Ff]at this;exact(Nat.mod_eq_of_lt this).symm
theorem AQb{e i:Nat}:Ag .and .u8 (Bt .u8 ((Hh e (i/8):Nat):Int) ((i%8:Nat):Int)) 1=((e/2^i%2:Nat):Int):=by
 have h:=ALt (e:=e) (i:=i);have hb:∀(x:Fin 256) (r:Fin 8),Ag .and .u8 (Bt .u8 ((x.val:Nat):Int) ((r.val:Nat):Int)) 1=0∨Ag .and .u8 (Bt .u8 ((x.val:Nat):Int) ((r.val:Nat):Int)) 1=1:=by decide+kernel
 have h2:=hb ⟨Hh e (i/8),Nat.mod_lt _ (by decide)⟩ ⟨i%8,Nat.mod_lt _ (by decide)⟩;have h3:e/2^i%2<2:=Nat.mod_lt _ (by decide);unfold Jm at h
 rcases h2 with h2|h2
 ·replace h2:Ag .and .u8 (Bt .u8 ((Hh e (i/8):Nat):Int) ((i%8:Nat):Int)) 1=0:=h2;rw[h2]at h⊢
  have:=of_decide_eq_false (h.symm.trans (by decide))
  omega
 ·replace h2:Ag .and .u8 (Bt .u8 ((Hh e (i/8):Nat):Int) ((i%8:Nat):Int)) 1=1:=h2;rw[h2]at h⊢
  have:=of_decide_eq_true (h.symm.trans (by decide))
  omega
theorem mE(x n k L:Nat)(hk:k<n):x/2^(n - (k+1))%L=(2*(x/2^(n - k)%L)+x/2^(n - 1 - k)%2)%L:=by
 have e:2^(n - k)=2^(n - 1 - k)*2:=by rw[←Nat.pow_succ];congr 1;omega
 rw[show n - (k+1)=n - 1 - k by omega,e,←Nat.div_div_eq_div_mul];generalize x/2^(n - 1 - k)=y;have h1:=Nat.div_add_mod y 2
 have h2:(2*(y/2%L)+y%2)%L=(2*(y/2)+y%2)%L:=by
  rw[Nat.add_mod,Nat.mul_mod,Nat.mod_mod,←Nat.mul_mod,←Nat.add_mod]
 rw[h2,h1]
theorem APz:Lo<2^256:=by decide
def AWe:A7:=Bf (fun(a:By)=>[a.v]) (fun a=>a.ok∧a.l.length≤100) (fun a=>L7 a.l%Lo) Iz
theorem sM:FOk Tryz.prog [] 246 AWe:=A8 fun a ⟨ha,hn⟩=>by
 refine CP.by1 ha ?_;generalize a.l=l at hn;generalize a.b=b
 show CP _ _ _ [Bl b l] fun v=>Ld v (Iz (L7 l%Lo))
 have hbl:=P6 l;have hlt:=Tq l;generalize hN:L7 l=N at*;obtain⟨n,hnn⟩:∃n,n=l.length:=⟨_,rfl⟩;have h0:N/2^(8*l.length - 0)%Lo=0:=by rw[Nat.sub_zero,Nat.div_eq_of_lt hlt];rfl
 have hΓ:=Ad Tryz.f246.ntmps _ _ (FL.all (.cons AGe .nil)) (HL.all .nil);refine Aw hΓ Tryz.func246 ?_;conv=>whnf
 refine A4 (ι:=Nat) (fun k=>[(0,Bl b l),(2, .ref 0 []),(3, .ref 1 []),(4, .int .i64 (8*(l.length:Nat) - 1 - (k:Nat)))]) (fun k=>[some (.row 1 4 fun _=> .int .u64 0),some (Iz (N/2^(8*l.length - k)%Lo))]) (fun k=>k≤8*l.length) (fun k=>8*l.length - k) 0 [some 0,some 1] ?_ (fun i hi=>vo hΓ ?_)
 ·conv=>whnf
  repeat' ((first|apply Ap<;>intro _|apply An)<;>conv=>whnf)
  all_goals try exact⟨Ba⟩
  ·exact⟨by rw[A3 (x:=8*_) (by omega) (by omega),A3 (by omega) (by omega)];omega⟩
  ·rw[h0];exact⟨fun k _=>A5 (congrArg (V.int .u64) (show(0:Int)=((w4 0 k:Nat):Int) by rw[w4,Nat.zero_div];rfl)) trivial⟩
 ·conv=>whnf
  apply Ap<;>intro h3<;>conv=>whnf
  ·have hin:i<8*l.length:=by
    have:(0:Int)≤8*(l.length:Nat) - 1 - (i:Nat):=by simpa using h3
    omega
   obtain⟨j,hj⟩:∃j,j=8*l.length - 1 - i:=⟨_,rfl⟩;have hji:(8:Int)*(l.length:Nat) - 1 - (i:Nat)=(j:Nat):=by omega
   have e1:IntKind.i64.wrap (Int.tdiv (8*(l.length:Nat) - 1 - (i:Nat)) 8)=((j/8:Nat):Int):=by rw[hji];exact Fo (by omega)
   have e2:Int.tmod (8*(l.length:Nat) - 1 - (i:Nat)) 8=((j%8:Nat):Int):=by rw[hji,Int.tmod_eq_emod_of_nonneg (by omega)];omega
   have hb:Ag .and .u8 (Bt .u8 (((l.getD (IntKind.i64.wrap (Int.tdiv (8*(l.length:Nat) - 1 - (i:Nat)) 8)).toNat 0).toNat:Nat):Int) (Int.tmod (8*(l.length:Nat) - 1 - (i:Nat)) 8)) 1=((N/2^j%2:Nat):Int):=by
    rw[e1,e2,Int.toNat_natCast,←hbl];exact AQb
   have hnx:=mE N (8*l.length) i Lo hin;rw[←hj]at hnx;conv=>whnf
   repeat' ((first|apply Ap<;>intro _|apply An)<;>conv=>whnf)
   all_goals try first|exact⟨Bc⟩|exact⟨by rw[e1];omega⟩|exact⟨fun _ _=>trivial⟩
   obtain⟨y,hy⟩:∃y,y=N/2^(8*l.length - (i+1))%Lo:=⟨_,rfl⟩;rw[←hy]at hnx;have hb2:N/2^j%2<2:=Nat.mod_lt _ (by decide);refine⟨(⟨N/2^(8*l.length - i)%Lo,Nat.mod_lt _ (by decide)⟩,⟨N/2^j%2,hb2⟩),⟨AE.refl _,AE.of (congrArg (V.int .u64) ?_),trivial⟩,⟨trivial⟩,fun r hr=>?_⟩
   ·refine(congrArg IntKind.u64.wrap hb).trans ?_;exact Ao _ (Nat.lt_trans hb2 (by decide))
   replace hr:y=r:=(hr.trans hnx.symm).symm;subst hr;conv=>whnf
   repeat' ((first|apply Ap<;>intro _|apply An)<;>conv=>whnf)
   all_goals try exact⟨B9⟩
   refine⟨i+1,[some 0,some 1],?_⟩;rw[←hy];conv=>whnf
   repeat' (apply An<;>conv=>whnf)
   all_goals try exact⟨Ba⟩
   ·exact⟨by rw[A3 (by omega) (by omega)];omega⟩
  ·have hin:i=8*l.length:=by
    have:¬(0:Int)≤8*(l.length:Nat) - 1 - (i:Nat):=by simpa using h3
    omega
   subst hin;refine vo hΓ ?_;conv=>whnf
   repeat' ((first|apply Ap<;>intro _|apply An)<;>conv=>whnf)
   all_goals try exact⟨B9⟩
   rw[Nat.sub_self,Nat.pow_zero,Nat.div_one];exact Ld.refl _
def sX(m:Nat):Av:=⟨m%Lo,Nat.lt_trans (Nat.mod_lt _ (by decide)) APz⟩
def AR3:A7:=Bf (fun(m:Av)=>[Cb m.val]) (fun _=>True) (fun m=>decide (m.val<Lo)) .bool
theorem AFz:FOk Tryz.prog [] 168 AR3:=A8 fun m _=>by
 have hΓ:=Ad Tryz.f168.ntmps _ _ (FL.all (.cons tW (.cons sJ (.cons sL .nil)))) (HL.all .nil);refine Aw hΓ Tryz.func168 ?_;conv=>whnf
 repeat' ((first|apply Ap<;>intro _|apply An)<;>conv=>whnf)
 all_goals try exact⟨B9⟩
 refine⟨m.val,⟨AE.refl _,trivial⟩,⟨trivial⟩,fun rr hr=>?_⟩;replace hr:m.val=rr:=(hr.trans (rfl)).symm;subst hr;conv=>whnf
 repeat' ((first|apply Ap<;>intro _|apply An)<;>conv=>whnf)
 all_goals try exact⟨B0⟩
 refine⟨(),trivial,⟨trivial⟩,fun r hr=>?_⟩;subst hr;conv=>whnf
 repeat' ((first|apply Ap<;>intro _|apply An)<;>conv=>whnf)
 all_goals try exact⟨B0⟩
 refine⟨(m,loX),⟨AE.refl _,AE.refl _,trivial⟩,⟨trivial⟩,fun r hr=>?_⟩;subst hr;conv=>whnf
 repeat' ((first|apply Ap<;>intro _|apply An)<;>conv=>whnf)
 all_goals try exact⟨B9⟩
 exact Ld.refl _
def AWm:A7:=Bf (fun(l:List UInt8)=>[arrV 64 l]) (fun l=>l.length=64) (fun l=>L7 l%Lo) Cb
theorem AGh:FOk Tryz.prog [] 223 AWm:=A8 fun l hl=>by
 replace hl:l.length=64:=hl;have hΓ:=Ad Tryz.f223.ntmps _ _ (FL.all (.cons sM (.cons tX .nil))) (HL.all .nil);refine Aw hΓ Tryz.func223 ?_;conv=>whnf
 repeat' ((first|apply Ap<;>intro _|apply An)<;>conv=>whnf)
 all_goals try exact⟨B9⟩
 refine⟨.of true l,⟨AE.imm' hl.symm (fun k hk=>?_),trivial⟩,⟨trivial,by show l.length≤100;omega⟩,fun r hr=>?_⟩
 ·show bf l (0+k)=bf l k
  rw[Nat.zero_add]
 obtain⟨y,hy⟩:∃y,y=L7 l%Lo:=⟨_,rfl⟩;rw[←hy];replace hr:y=r:=(hr.trans hy.symm).symm;subst hr;conv=>whnf
 repeat' ((first|apply Ap<;>intro _|apply An)<;>conv=>whnf)
 all_goals try exact⟨B9⟩
 refine⟨y,⟨AE.refl _,trivial⟩,⟨trivial⟩,fun r hr=>?_⟩;subst hr;conv=>whnf
 repeat' ((first|apply Ap<;>intro _|apply An)<;>conv=>whnf)
 all_goals try exact⟨B0⟩
 exact Ld.refl _
theorem AHs{a b c:Nat}(ha:a<2^256)(hb:b<2^256)(hc:c<2^256):L7 (Wc (a*b+c) 72)=a*b+c:=by
 rw[gK];refine Nat.mod_eq_of_lt ?_;have h1:a*b<2^256*2^256:=Nat.mul_lt_mul'' ha hb;have h2:2^256*2^256*2^64=2^(8*72):=by rw[←Nat.pow_add,←Nat.pow_add]
 rw[←h2];omega
def AW4:A7:=Bf (fun(x:Av×Av×Av)=>[Cb x.1.val,Cb x.2.1.val,Cb x.2.2.val]) (fun _=>True) (fun x=>(x.1.val*x.2.1.val+x.2.2.val)%Lo) Cb
theorem AG4:FOk Tryz.prog G 199 AW4:=A8 fun⟨a,b,c⟩ _=>by
 show CP _ _ _ [Cb a.val,Cb b.val,Cb c.val] fun v=>Ld v (Cb ((a.val*b.val+c.val)%Lo))
 obtain⟨y,hy⟩:∃y,y=(a.val*b.val+c.val)%Lo:=⟨_,rfl⟩;obtain⟨l,hll⟩:∃l,l=Wc (a.val*b.val+c.val) 72:=⟨_,rfl⟩;have Ar:l.length=72:=by rw[hll];exact Ff _ _
 have hly:y=L7 l%Lo:=by rw[hy,hll,AHs a.isLt b.isLt c.isLt]
 rw[←hy];have hΓ:=Ab Tryz.f199.ntmps _ _ [] (.cons (tW.g) (.cons (AG9.g) (.cons (sM.g) (.cons (tX.g) .nil)))) .nil;refine Aw hΓ Tryz.func199 ?_;conv=>whnf
 repeat' ((first|apply Ap<;>intro _|apply An)<;>conv=>whnf)
 all_goals try exact⟨B9⟩
 refine⟨a.val,⟨AE.refl _,trivial⟩,⟨trivial⟩,fun rr hr=>?_⟩;replace hr:a.val=rr:=(hr.trans (rfl)).symm;subst hr;conv=>whnf
 repeat' ((first|apply Ap<;>intro _|apply An)<;>conv=>whnf)
 all_goals try exact⟨B0⟩
 refine⟨b.val,⟨AE.refl _,trivial⟩,⟨trivial⟩,fun rr hr=>?_⟩;replace hr:b.val=rr:=(hr.trans (rfl)).symm;subst hr;conv=>whnf
 repeat' ((first|apply Ap<;>intro _|apply An)<;>conv=>whnf)
 all_goals try exact⟨B0⟩
 refine⟨c.val,⟨AE.refl _,trivial⟩,⟨trivial⟩,fun rr hr=>?_⟩;replace hr:c.val=rr:=(hr.trans (rfl)).symm;subst hr;conv=>whnf
 repeat' ((first|apply Ap<;>intro _|apply An)<;>conv=>whnf)
 all_goals try exact⟨B0⟩
 refine⟨(a,b,c),⟨AE.refl _,AE.refl _,AE.refl _,trivial⟩,⟨trivial⟩,fun rr hr=>?_⟩;replace hr:l=rr:=(hr.trans (hll.symm)).symm;subst hr;conv=>whnf
 repeat' ((first|apply Ap<;>intro _|apply An)<;>conv=>whnf)
 all_goals try exact⟨B0⟩
 refine⟨.of false l,⟨AE.refl _,trivial⟩,⟨trivial,by show l.length≤100;omega⟩,fun rr hr=>?_⟩;replace hr:y=rr:=(hr.trans hly.symm).symm;subst hr;conv=>whnf
 repeat' ((first|apply Ap<;>intro _|apply An)<;>conv=>whnf)
 all_goals try exact⟨B9⟩
 refine⟨y,⟨AE.refl _,trivial⟩,⟨trivial⟩,fun r hr=>?_⟩;subst hr;conv=>whnf
 repeat' ((first|apply Ap<;>intro _|apply An)<;>conv=>whnf)
 all_goals try exact⟨B0⟩
 exact Ld.refl _
end Go.Proofs.YtaihjcpfjgpmoaaGreatDoor
