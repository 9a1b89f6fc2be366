/- Part of the claim ModelPuts: N27, N28, N29, N30, N31, N32, N33. -/
import Derived.Test.YtaihjcpfjgpmoaaGreatDoorDC
import Derived.Test.YtaihjcpfjgpmoaaGreatDoorND
set_option linter.unusedVariables false
set_option linter.unusedSimpArgs false
set_option maxRecDepth 100000
set_option maxHeartbeats 2000000
namespace Go.Proofs.YtaihjcpfjgpmoaaGreatDoor
open Go Go.DD Go.EE
theorem AS0(x:Fp):x.val<2^256:=Nat.lt_trans x.isLt (Nat.lt_trans nJ (by decide))
def fN(x:Fp):Av:=⟨x.val,AS0 x⟩
def nF(x:Fp):V:=nV (fN x)
def mS(a:Av):Nat→Av|0=>a|i+1=>if(mS a i).val<P then mS a i else(Ng (mS a i,pX)).1
theorem ABr(a:Av):∀i,i≤3→(mS a i).val%P=a.val%P∧((mS a i).val<P∨(mS a i).val+i*P<3*P)
 |0,_=>by
  have h:=a.isLt;have hP:2^256<3*P:=by decide
  refine⟨rfl, .inr ?_⟩
  show a.val+0*P<3*P
  omega
 |i+1,hi=>by
  obtain⟨h1,h2⟩:=ABr a i (by omega);unfold mS
  by_cases h:(mS a i).val<P
  ·rw[if_pos h];exact⟨h1, .inl h⟩
  ·rw[if_neg h];have hs:=Px (x:=(mS a i,pX)) (by show P≤(mS a i).val;omega);have hs2:(Ng (mS a i,pX)).1.val=(mS a i).val - P:=hs;rw[hs2];refine⟨by rw[←h1];exact(Nat.mod_eq_sub_mod (by omega)).symm,?_⟩
   rcases h2 with h2|h2
   ·exact absurd h2 h
   ·right
    rw[Nat.succ_mul];omega
theorem ANg(a:Av):mS a 3=fN (Fin.ofNat P a.val):=by
 obtain⟨h1,h2⟩:=ABr a 3 (Nat.le_refl _);have h3:(mS a 3).val<P:=by omega
 refine Fin.ext ?_
 show _=a.val%P
 rw[←h1,Nat.mod_eq_of_lt h3]
def AW8:A7:=Bf (fun(a:Av)=>[nV a]) (fun _=>True) (fun a=>Fin.ofNat P a.val) nF
theorem Vx:FOk Tryz.prog [] 206 AW8:=A8 fun a _=>by
 show CP _ _ _ [nV a] fun v=>Ld v (nV (fN (Fin.ofNat P a.val)))
 rw[←ANg];have hΓ:=Ad Tryz.f206.ntmps _ _ (FL.all (.cons Wl (.cons kI (.cons Ll .nil)))) (HL.all .nil);refine Aw hΓ Tryz.func206 ?_;conv=>whnf
 refine A4 (ι:=Nat) (fun i=>[(1, .ref 0 []),(2, .ref 1 []),(3, .int .i64 (i:Nat))]) (fun i=>[some (nV (mS a i)),some (.row 1 4 fun _=> .int .u64 0)]) (fun i=>i≤3) (fun i=>3 - i) 0 [some 0,some 1] ?_ (fun i hi=>vo hΓ ?_)
 ·conv=>whnf
  repeat' ((first|apply Ap<;>intro _|apply An)<;>conv=>whnf)
  all_goals try exact⟨Ba⟩
 ·conv=>whnf
  apply Ap<;>intro h3<;>conv=>whnf
  ·have hin:i<3:=by
    have:((i:Nat):Int)<3:=by simpa using h3
    omega
   have hm:mS a (i+1)=if(mS a i).val<P then mS a i else(Ng (mS a i,pX)).1:=rfl;generalize mS a i=m at*;conv=>whnf
   repeat' ((first|apply Ap<;>intro _|apply An)<;>conv=>whnf)
   all_goals try exact⟨B9⟩
   refine⟨(),trivial,⟨trivial⟩,fun r hr=>?_⟩;subst hr;conv=>whnf
   repeat' ((first|apply Ap<;>intro _|apply An)<;>conv=>whnf)
   all_goals try exact⟨B0⟩
   refine⟨(m,pX),⟨AE.refl _,AE.refl _,trivial⟩,⟨trivial⟩,fun rr hr=>?_⟩;subst hr;conv=>whnf
   repeat' ((first|apply Ap<;>intro _|apply An)<;>conv=>whnf)
   all_goals try exact⟨B9⟩
   ·rename_i hc
    have hc:¬m.val<P:=by
     have h:(!decide (m.val<P))=true:=hc;simpa using h
    rw[if_neg hc]at hm;refine⟨(),trivial,⟨trivial⟩,fun r hr=>?_⟩;subst hr;conv=>whnf
    repeat' ((first|apply Ap<;>intro _|apply An)<;>conv=>whnf)
    all_goals try exact⟨B0⟩
    obtain⟨r,hr0⟩:∃r,r=Ng (m,pX):=⟨_,rfl⟩;rw[←hr0]at hm;refine⟨(m,pX),⟨AE.refl _,AE.refl _,trivial⟩,⟨trivial⟩,fun rr hr=>?_⟩;replace hr:r=rr:=(hr.trans (hr0.symm)).symm;subst hr;conv=>whnf
    repeat' ((first|apply Ap<;>intro _|apply An)<;>conv=>whnf)
    all_goals try exact⟨B0⟩
    refine⟨i+1,[some 0,some 1],?_⟩;rw[hm];conv=>whnf
    repeat' (apply An<;>conv=>whnf)
    all_goals try exact⟨Ba⟩
    all_goals exact⟨by rw[A3 (by omega) (by omega)];rfl⟩
   ·rename_i hc
    have hc:m.val<P:=by
     have h:(!decide (m.val<P))=false:=hc;simpa using h
    rw[if_pos hc]at hm;refine⟨i+1,[some 0,some 1],?_⟩;rw[hm];conv=>whnf
    repeat' (apply An<;>conv=>whnf)
    all_goals try exact⟨Ba⟩
    all_goals exact⟨by rw[A3 (by omega) (by omega)];rfl⟩
  ·have hin:i=3:=by
    have:¬((i:Nat):Int)<3:=by simpa using h3
    omega
   subst hin;refine vo hΓ ?_;conv=>whnf
   repeat' ((first|apply Ap<;>intro _|apply An)<;>conv=>whnf)
   all_goals try exact⟨B9⟩
   exact Ld.refl _
def arF(x:Fp×Fp):List V:=[nF x.1,nF x.2]
theorem S5(x:Fp):(Fin.ofNat P (fN x).val:Fp)=x:=Fin.ext (Nat.mod_eq_of_lt x.isLt)
theorem AEg{x y:Fp}:(Fin.ofNat P (Hr (fN x,fN y)).1.val:Fp)=x+y:=by
 have h1:=x.isLt;have h2:=y.isLt;have h3:=nJ;have h:(Hr (fN x,fN y)).1.val=x.val+y.val:=Vj (by show x.val+y.val<_;omega);rw[h];rfl
def AQs:A7:=Bf arF (fun _=>True) (fun x=>x.1+x.2) nF
theorem kD:FOk Tryz.prog [] 208 AQs:=A8 fun⟨x,y⟩ _=>by
 show CP _ _ _ [nV (fN x),nV (fN y)] fun v=>Ld v (nF (x+y))
 rw[←AEg];have hΓ:=Ad Tryz.f208.ntmps _ _ (FL.all (.cons Ny (.cons Vx .nil))) (HL.all .nil);refine Aw hΓ Tryz.func208 ?_;conv=>whnf
 repeat' ((first|apply Ap<;>intro _|apply An)<;>conv=>whnf)
 all_goals try exact⟨B9⟩
 refine⟨(fN x),⟨AE.refl _,trivial⟩,⟨trivial⟩,fun rr hr=>?_⟩;replace hr:x=rr:=(hr.trans (S5 x)).symm;subst hr;conv=>whnf
 repeat' ((first|apply Ap<;>intro _|apply An)<;>conv=>whnf)
 all_goals try exact⟨B0⟩
 refine⟨(fN y),⟨AE.refl _,trivial⟩,⟨trivial⟩,fun rr hr=>?_⟩;replace hr:y=rr:=(hr.trans (S5 y)).symm;subst hr;conv=>whnf
 repeat' ((first|apply Ap<;>intro _|apply An)<;>conv=>whnf)
 all_goals try exact⟨B0⟩
 obtain⟨r,hr0⟩:∃r,r=Hr (fN x,fN y):=⟨_,rfl⟩;rw[←hr0];refine⟨(fN x,fN y),⟨AE.refl _,AE.refl _,trivial⟩,⟨trivial⟩,fun rr hr=>?_⟩;replace hr:r=rr:=(hr.trans (hr0.symm)).symm;subst hr;conv=>whnf
 repeat' ((first|apply Ap<;>intro _|apply An)<;>conv=>whnf)
 all_goals try exact⟨B0⟩
 obtain⟨z,hz⟩:∃z:Fp,z=Fin.ofNat P r.1.val:=⟨_,rfl⟩;rw[←hz];refine⟨r.1,⟨AE.refl _,trivial⟩,⟨trivial⟩,fun rr hr=>?_⟩;replace hr:z=rr:=(hr.trans (hz.symm)).symm;subst hr;conv=>whnf
 repeat' ((first|apply Ap<;>intro _|apply An)<;>conv=>whnf)
 all_goals try exact⟨B0⟩
 exact Ld.refl _
theorem AJj{x y:Fp}:(Fin.ofNat P (Ng ((Hr (fN x,pX)).1,fN y)).1.val:Fp)=x - y:=by
 have h1:=x.isLt;have h2:=y.isLt;have h3:=nJ;have e1:(Hr (fN x,pX)).1.val=x.val+P:=Vj (by show x.val+P<_;omega);have e2:=Px (x:=((Hr (fN x,pX)).1,fN y)) (by show y.val≤(Hr (fN x,pX)).1.val;rw[e1];omega);have e3:(Ng ((Hr (fN x,pX)).1,fN y)).1.val=x.val+P - y.val:=by rw[e2,e1];rfl
 rw[e3];refine Fin.ext ?_;rw[Fin.sub_def]
 show(x.val+P - y.val)%P=(P - y.val+x.val)%P
 congr 1
 omega
def ARr:A7:=Bf arF (fun _=>True) (fun x=>x.1 - x.2) nF
theorem Rk:FOk Tryz.prog [] 207 ARr:=A8 fun⟨x,y⟩ _=>by
 show CP _ _ _ [nV (fN x),nV (fN y)] fun v=>Ld v (nF (x - y))
 rw[←AJj];have hΓ:=Ad Tryz.f207.ntmps _ _ (FL.all (.cons Ny (.cons Vx (.cons kI (.cons Ll .nil))))) (HL.all .nil);refine Aw hΓ Tryz.func207 ?_;conv=>whnf
 repeat' ((first|apply Ap<;>intro _|apply An)<;>conv=>whnf)
 all_goals try exact⟨B9⟩
 refine⟨(fN x),⟨AE.refl _,trivial⟩,⟨trivial⟩,fun rr hr=>?_⟩;replace hr:x=rr:=(hr.trans (S5 x)).symm;subst hr;conv=>whnf
 repeat' ((first|apply Ap<;>intro _|apply An)<;>conv=>whnf)
 all_goals try exact⟨B0⟩
 refine⟨(),trivial,⟨trivial⟩,fun r hr=>?_⟩;subst hr;conv=>whnf
 repeat' ((first|apply Ap<;>intro _|apply An)<;>conv=>whnf)
 all_goals try exact⟨B0⟩
 obtain⟨r,hr0⟩:∃r,r=Hr (fN x,pX):=⟨_,rfl⟩;rw[←hr0];refine⟨(fN x,pX),⟨AE.refl _,AE.refl _,trivial⟩,⟨trivial⟩,fun rr hr=>?_⟩;replace hr:r=rr:=(hr.trans (hr0.symm)).symm;subst hr;conv=>whnf
 repeat' ((first|apply Ap<;>intro _|apply An)<;>conv=>whnf)
 all_goals try exact⟨B0⟩
 refine⟨(fN y),⟨AE.refl _,trivial⟩,⟨trivial⟩,fun rr hr=>?_⟩;replace hr:y=rr:=(hr.trans (S5 y)).symm;subst hr;conv=>whnf
 repeat' ((first|apply Ap<;>intro _|apply An)<;>conv=>whnf)
 all_goals try exact⟨B0⟩
 obtain⟨s,hs0⟩:∃s,s=Ng (r.1,fN y):=⟨_,rfl⟩;rw[←hs0];refine⟨(r.1,fN y),⟨AE.refl _,AE.refl _,trivial⟩,⟨trivial⟩,fun rr hr=>?_⟩;replace hr:s=rr:=(hr.trans (hs0.symm)).symm;subst hr;conv=>whnf
 repeat' ((first|apply Ap<;>intro _|apply An)<;>conv=>whnf)
 all_goals try exact⟨B0⟩
 obtain⟨z,hz⟩:∃z:Fp,z=Fin.ofNat P s.1.val:=⟨_,rfl⟩;rw[←hz];refine⟨s.1,⟨AE.refl _,trivial⟩,⟨trivial⟩,fun rr hr=>?_⟩;replace hr:z=rr:=(hr.trans (hz.symm)).symm;subst hr;conv=>whnf
 repeat' ((first|apply Ap<;>intro _|apply An)<;>conv=>whnf)
 all_goals try exact⟨B0⟩
 exact Ld.refl _
structure Mu where
 i:Nat
 lo:Av
 hi:Av
structure MI(m:Nat)(x:Mu):Prop where
 i:x.i≤3
 v:(x.lo.val+2^256*x.hi.val)%P=m%P
 b1:x.i=1→x.hi.val≤38
 b2:x.i=2→x.hi.val=0∨(x.hi.val=1∧x.lo.val≤1443)
 b3:x.i=3→x.hi.val=0
def mF(x:Mu):Bool:=decide (x.i=0)||decide (x.hi.val≠0)
def Q2(m:Nat):Av:=⟨m%2^256,Nat.mod_lt _ (by decide)⟩
def H7(x:Fin (2^64)):Av:=⟨x.val,Nat.lt_trans x.isLt (by decide)⟩
def G0(x:Mu):Mu:=⟨x.i+1,(Hr (x.lo,Q2 (x.hi.val*38))).1,H7 ⟨(x.hi.val*38/2^256+(Hr (x.lo,Q2 (x.hi.val*38))).2.val)%2^64,Nat.mod_lt _ (by decide)⟩⟩
theorem ANj(x:Mu):(G0 x).lo.val+2^256*(G0 x).hi.val=x.lo.val+38*x.hi.val∧(G0 x).hi.val=x.hi.val*38/2^256+(Hr (x.lo,Q2 (x.hi.val*38))).2.val:=by
 have h1:(Hr (x.lo,Q2 (x.hi.val*38))).1.val+2^256*(Hr (x.lo,Q2 (x.hi.val*38))).2.val=x.lo.val+x.hi.val*38%2^256:=AD0 x.lo.isLt (Q2 _).isLt;have h2:=(Hr (x.lo,Q2 (x.hi.val*38))).2.isLt;have h3:=x.hi.isLt;have h4:(G0 x).hi.val=(x.hi.val*38/2^256+(Hr (x.lo,Q2 (x.hi.val*38))).2.val)%2^64:=rfl;have h5:(G0 x).lo.val=(Hr (x.lo,Q2 (x.hi.val*38))).1.val:=rfl;rw[h5,h4]
 generalize(Hr (x.lo,Q2 (x.hi.val*38))).1.val=s at*
 generalize(Hr (x.lo,Q2 (x.hi.val*38))).2.val=c at*
 generalize x.hi.val=h at*;generalize x.lo.val=l at*;omega
theorem AHv{m:Nat}{x:Mu}(h:MI m x)(hm:mF x=true):MI m (G0 x)∧3 - (G0 x).i<3 - x.i:=by
 obtain⟨hi,hv,b1,b2,b3⟩:=h;obtain⟨e1,e2⟩:=ANj x;have hl:=x.lo.isLt;have hl2:=(G0 x).lo.isLt;have hh:=x.hi.isLt;have e3:(G0 x).i=x.i+1:=rfl
 have hmod:(x.lo.val+38*x.hi.val)%P=(x.lo.val+2^256*x.hi.val)%P:=by
  have hP:2^256=38+P*2:=by decide
  generalize x.lo.val=l;generalize x.hi.val=h;rw[hP,Nat.add_mul,Nat.mul_assoc,←Nat.add_assoc,Nat.add_mul_mod_self_left]
 have hi3:x.i<3:=by
  rcases Nat.lt_or_ge x.i 3 with h|h
  ·exact h
  ·have h0:=b3 (by omega);unfold mF at hm;rw[h0]at hm
   have:¬x.i=0:=by omega
   simp[this]at hm
 refine⟨⟨by omega,by rw[e1,hmod,hv],fun h=>?_,fun h=>?_,fun h=>?_⟩,by omega⟩
 ·clear hmod hv b1 b2 b3
  generalize(G0 x).hi.val=h' at*
  generalize(G0 x).lo.val=l' at*
  generalize x.hi.val=h0 at*;omega
 ·have:=b1 (by omega)
  clear hmod hv b1 b2 b3 e2
  generalize(G0 x).hi.val=h' at*
  generalize(G0 x).lo.val=l' at*
  generalize x.hi.val=h0 at*;omega
 ·have h5:=b2 (by omega);clear hmod hv b1 b2 b3 e2;unfold mF at hm
  have h6:x.hi.val≠0:=by
   intro h0;rw[h0]at hm
   have:¬x.i=0:=by omega
   simp[this]at hm
  generalize(G0 x).hi.val=h' at*
  generalize(G0 x).lo.val=l' at*
  generalize x.hi.val=h0 at*;omega
def mu0(m:Nat):Mu:=⟨0,Q2 m,⟨m/2^256%2^256,Nat.mod_lt _ (by decide)⟩⟩
theorem AHw{m:Nat}(hm:m<2^256*2^256):MI m (mu0 m):=by
 refine⟨Nat.zero_le 3,?_,(fun h=>absurd (show(0:Nat)=1 from h) (by decide)),(fun h=>absurd (show(0:Nat)=2 from h) (by decide)),(fun h=>absurd (show(0:Nat)=3 from h) (by decide))⟩
 congr 1
 show m%2^256+2^256*(m/2^256%2^256)=m
 rw[Nat.mod_eq_of_lt (Nat.div_lt_of_lt_mul hm)];exact Nat.mod_add_div _ _
theorem ANi{m:Nat}{x:Mu}(h:MI m x)(hm:mF x=false):(Fin.ofNat P x.lo.val:Fp)=Fin.ofNat P m:=by
 have h0:x.hi.val=0:=by
  unfold mF at hm;simp at hm
  exact congrArg Fin.val hm.2
 refine Fin.ext ?_
 show x.lo.val%P=m%P
 rw[←h.v,h0,Nat.mul_zero,Nat.add_zero]
theorem qJ{m k:Nat}(hk:k<4):w4 (Q2 m).val k=w4 m k:=by
 have e:2^256=2^(64*k)*(2^64*2^(192 - 64*k)):=by rw[←Nat.pow_add,←Nat.pow_add];congr 1;omega
 show m%2^256/2^(64*k)%2^64=m/2^(64*k)%2^64
 rw[e,Nat.mod_mul_right_div_self,Nat.mod_mul_right_mod]
theorem AJu{m k:Nat}(hk:k<4):w4 (m/2^256%2^256) k=w4 m (4+k):=by
 have h:=qJ (m:=m/2^256) hk;refine h.trans ?_
 show m/2^256/2^(64*k)%2^64=m/2^(64*(4+k))%2^64
 rw[Nat.div_div_eq_div_mul,←Nat.pow_add,Nat.mul_add]
theorem qK(v:Fin (2^64))(k:Nat)(hk:k<4):w4 (H7 v).val k=if k=0 then v.val else 0:=by
 have h:=v.isLt
 show v.val/2^(64*k)%2^64=_
 by_cases h0:k=0
 ·subst h0;rw[if_pos rfl,Nat.mul_zero,Nat.pow_zero,Nat.div_one];exact Nat.mod_eq_of_lt h
 ·rw[if_neg h0]
  have:2^64≤2^(64*k):=Nat.pow_le_pow_right (by decide) (by omega)
  rw[Nat.div_eq_of_lt (by omega)]
theorem AI6{v:Fin (2^64)}{f:Nat→V}(h0:f 0= .int .u64 (v.val:Nat))(h1:∀k,k<4→k≠0→f k= .int .u64 0):∀k,k<4→f k=nv (w4 (H7 v).val) k:=fun k hk=>by
 unfold nv;rw[qK v k hk]
 by_cases h:k=0
 ·subst h;rw[if_pos rfl];exact h0
 ·rw[if_neg h];exact h1 k hk h
theorem Od{v:Fin (2^64)}{f:Nat→V}(h0:f 0= .int .u64 (v.val:Nat))(h1:f 1= .int .u64 0)(h2:f 2= .int .u64 0)(h3:f 3= .int .u64 0):∀k,k<4→f k=nv (w4 (H7 v).val) k:=
 AI6 h0 fun k hk hk0=>by
  match k,hk with
  |0,_=>exact absurd rfl hk0
  |1,_=>exact h1
  |2,_=>exact h2
  |3,_=>exact h3
theorem AHq{m:Nat}{f:Nat→V}(h:∀k,k<4→f k= .int .u64 (w4 m k:Nat)):∀k,k<4→f k=nv (w4 (Q2 m).val) k:=fun k hk=>by
 unfold nv;rw[qJ hk];exact h k hk
theorem ANf{i:Nat}{lo:Av}{v:Fin (2^64)}:(!(((v.val:Nat):Int)==0))=mF ⟨i+1,lo,H7 v⟩:=by
 have:¬(⟨i+1,lo,H7 v⟩:Mu).i=0:=by show¬i+1=0;omega
 have h2:(⟨i+1,lo,H7 v⟩:Mu).hi.val=v.val:=rfl;unfold mF;rw[decide_eq_false this,Bool.false_or,h2,Bool.eq_iff_iff];simp
theorem AP1{p c:Nat}:IntKind.u64.wrap (((w4 p 4:Nat):Int)+(c:Nat))=(((p/2^256+c)%2^64:Nat):Int):=by
 rw[IntKind.wrap_u64,show w4 p 4=p/2^256%2^64 from rfl];generalize p/2^256=q;omega
theorem tG(v:Fin (2^64))(k:Nat)(hk:k<4)(h:k≠0):V.int .u64 0=nv (w4 (H7 v).val) k:=by
 unfold nv;rw[qK v k hk,if_neg h];rfl
theorem AKi(v:Fin (2^64)):V.int .u64 (v.val:Nat)=nv (w4 (H7 v).val) 0:=by
 unfold nv;rw[qK v 0 (by decide),if_pos rfl]
def ARa:A7:=Bf arF (fun _=>True) (fun x=>x.1*x.2) nF
theorem ABt{x y:Fp}{m:Nat}(h:m=(fN x).val*(fN y).val):(Fin.ofNat P m:Fp)=x*y:=by
 refine Fin.ext ?_;rw[val_mul,h];rfl
theorem Js:FOk Tryz.prog G 155 ARa:=A8 fun⟨x,y⟩ _=>by
 show CP _ _ _ [nV (fN x),nV (fN y)] fun v=>Ld v (nF (x*y))
 obtain⟨m,hm⟩:∃m,m=(fN x).val*(fN y).val:=⟨_,rfl⟩;have hml:m<2^256*2^256:=by rw[hm];exact Nat.mul_lt_mul'' (fN x).isLt (fN y).isLt
 have hmz:=AHw hml;rw[←ABt hm];have hΓ:=Ab Tryz.f155.ntmps _ _ [(8, .one 0 (.one 1 (.one 3 (.many (.cons 2 (.one 4 (.one 5 (.one 6 (.one 7 (.done))))) (.cons 6 (.one 2 (.one 4 (.one 5 (.one 7 (.done))))) (.nil)))))))] (.cons (AAp.g) (.cons (Ny.g) (.cons (Vx.g) .nil))) .nil;refine Aw hΓ Tryz.func155 ?_;conv=>whnf
 repeat' ((first|apply Ap<;>intro _|apply An)<;>conv=>whnf)
 all_goals try exact⟨B9⟩
 refine⟨(fN x,fN y),⟨AE.refl _,AE.refl _,trivial⟩,⟨trivial⟩,fun rr hr=>?_⟩;replace hr:m=rr:=(hr.trans (hm.symm)).symm;subst hr;conv=>whnf
 repeat' ((first|apply Ap<;>intro _|apply An)<;>conv=>whnf)
 all_goals try exact⟨B0⟩
 clear hm;refine A4 (ι:=Mu) (fun x=>[(4, .ref 0 []),(6, .ref 1 []),(7, .ref 2 []),(8, .bool (mF x))]) (fun x=>[some (.row 1 4 fun _=> .int .u64 0),some (nV x.lo),some (nV x.hi)]) (fun x=>MI m x) (fun x=>3 - x.i) (mu0 m) [some 2,some 4,some 5] ?_ (fun i hi=>vo hΓ ?_)
 ·conv=>whnf
  repeat' ((first|apply Ap<;>intro _|apply An)<;>conv=>whnf)
  all_goals try first|exact⟨Bc⟩|exact⟨fun _ _=>rfl⟩|exact⟨hmz⟩
  ·refine⟨?_⟩;refine(A0 ?_ (A0 ?_ (A0 ?_ (A0 ?_ A9))));all_goals exact A5 (congrArg (V.int .u64) (congrArg Nat.cast (qJ (by decide)).symm)) trivial
  ·have hw:∀k,k<4→V.int .u64 ((w4 m (4+k):Nat):Int)=V.int .u64 ((w4 (m/2^256%2^256) k:Nat):Int):=fun k hk=>by rw[AJu hk]
   exact⟨A0 (A5 (hw 3 (by decide)) trivial) (A0 (A5 (hw 2 (by decide)) trivial) (A0 (A5 (hw 1 (by decide)) trivial) (A0 (A5 (hw 0 (by decide)) trivial) A9)))⟩
 ·conv=>whnf
  apply Ap<;>intro h3<;>conv=>whnf
  ·have hmu:=AHv hi h3;conv=>whnf
   repeat' ((first|apply Ap<;>intro _|apply An)<;>conv=>whnf)
   all_goals try first|exact⟨B9⟩|exact⟨A0 trivial (A0 trivial (A0 trivial (A0 trivial A9)))⟩
   obtain⟨p,hp⟩:∃p,p=i.hi.val*38:=⟨_,rfl⟩;obtain⟨r,hr0⟩:∃r,r=Hr (i.lo,Q2 p):=⟨_,rfl⟩;obtain⟨v,hv⟩:∃v:Fin (2^64),v=⟨(p/2^256+r.2.val)%2^64,Nat.mod_lt _ (by decide)⟩:=⟨_,rfl⟩;have hw:IntKind.u64.wrap (((w4 p 4:Nat):Int)+(r.2.val:Nat))=((v.val:Nat):Int):=by rw[hv];exact AP1
   have hnx:G0 i=⟨i.i+1,r.1,H7 v⟩:=by rw[hv,hr0,hp];rfl
   rw[hnx]at hmu;refine⟨(i.hi,H7 38),⟨AE.refl _,AE.row (Od (v:=38) rfl rfl rfl rfl),trivial⟩,⟨trivial⟩,fun rr hr=>?_⟩;replace hr:p=rr:=(hr.trans hp.symm).symm;subst hr;conv=>whnf
   repeat' ((first|apply Ap<;>intro _|apply An)<;>conv=>whnf)
   all_goals try first|exact⟨B9⟩|exact⟨A0 trivial (A0 trivial (A0 trivial (A0 trivial A9)))⟩
   refine⟨(i.lo,Q2 p),⟨AE.refl _,AE.row (AHq (A0 rfl (A0 rfl (A0 rfl (A0 rfl A9))))),trivial⟩,⟨trivial⟩,fun rr hr=>?_⟩;replace hr:r=rr:=(hr.trans hr0.symm).symm;subst hr;conv=>whnf
   repeat' ((first|apply Ap<;>intro _|apply An)<;>conv=>whnf)
   all_goals try first|exact⟨B9⟩|exact⟨A0 trivial (A0 trivial (A0 trivial (A0 trivial A9)))⟩
   all_goals try exact trivial
   all_goals
    refine⟨⟨i.i+1,r.1,H7 v⟩,[some 0,some 1,some 2],?_⟩;conv=>whnf
    repeat' (apply An<;>conv=>whnf)
   all_goals try first|exact⟨Ba⟩|exact⟨hmu⟩
   all_goals first
    |exact⟨(congrArg (fun z:Int=> !(z==0)) hw).trans ANf⟩
    |exact⟨A0 (A5 (tG v 3 (by decide) (by decide)) trivial) (A0 (A5 (tG v 2 (by decide) (by decide)) trivial) (A0 (A5 (tG v 1 (by decide) (by decide)) trivial) (A0 (A5 ((congrArg (V.int .u64) hw).trans (AKi v)) trivial) A9)))⟩
    |exact trivial
  ·have he:=ANi hi h3;rw[←he];refine vo hΓ ?_;conv=>whnf
   repeat' ((first|apply Ap<;>intro _|apply An)<;>conv=>whnf)
   all_goals try exact⟨B9⟩
   obtain⟨z,hz⟩:∃z:Fp,z=Fin.ofNat P i.lo.val:=⟨_,rfl⟩;rw[←hz];refine⟨i.lo,⟨AE.refl _,trivial⟩,⟨trivial⟩,fun rr hr=>?_⟩;replace hr:z=rr:=(hr.trans (hz.symm)).symm;subst hr;conv=>whnf
   repeat' ((first|apply Ap<;>intro _|apply An)<;>conv=>whnf)
   all_goals try exact⟨B0⟩
   exact Ld.refl _
theorem yS{e i:Nat}:((Ag .and .u64 (Bt .u64 ((w4 e (i/64):Nat):Int) ((i%64:Nat):Int)) 1)==1)=Jm e i:=by
 have h0:=C3 e (i/64);have h1:w4 e (i/64)/2^(i%64)<2^64:=Nat.lt_of_le_of_lt (Nat.div_le_self _ _) h0
 have h2:w4 e (i/64)/2^(i%64)%2=e/2^i%2:=by
  have e1:(2:Nat)^i=2^(64*(i/64))*2^(i%64):=by rw[←Nat.pow_add];congr 1;omega
  have e2:(2:Nat)^64=2^(i%64)*(2*2^(63 - i%64)):=by rw[←Nat.pow_succ',←Nat.pow_add];congr 1;omega
  rw[e1,←Nat.div_div_eq_div_mul];unfold w4;generalize e/2^(64*(i/64))=x;rw[e2,Nat.mod_mul_right_div_self,Nat.mod_mul_right_mod]
 have h3:Ag .and .u64 (((w4 e (i/64)/2^(i%64):Nat)):Int) 1=((w4 e (i/64)/2^(i%64)%2:Nat):Int):=by
  have h:=Sl (w4 e (i/64)/2^(i%64)) 1 h1 (by decide);rw[show((1:Nat):Int)=1 from rfl]at h;rw[h,Nat.and_one_is_mod]
 rw[E0 _ _ (by omega),h3,h2,Jm,Bool.eq_iff_iff,beq_iff_eq,decide_eq_true_eq];omega
def pw(a:Fp)(e:Nat):Nat→Fp|0=>1|k+1=>if Jm e (255 - k)then pw a e k*pw a e k*a else pw a e k*pw a e k
theorem ACi(a:Fp){e:Nat}(he:e<2^256):∀k,k≤256→(pw a e k).val=a.val^(e/2^(256 - k))%P
 |0,_=>by
  rw[Nat.div_eq_of_lt (by simpa using he),Nat.pow_zero];exact(by decide:(1:Fp).val=1%P)
 |k+1,hk=>by
  have ih:=ACi a he k (by omega)
  have hsq:(pw a e k*pw a e k).val=a.val^(2*(e/2^(256 - k)))%P:=by
   rw[val_mul,ih,←Nat.mul_mod,←Nat.pow_add]
   congr 2
   omega
  rw[jL (by omega),pw]
  by_cases h:Jm e (255 - k)=true
  ·rw[if_pos h,if_pos h,val_mul,hsq,Nat.pow_succ,Nat.mod_mul_mod]
  ·rw[if_neg h,if_neg h,hsq,Nat.add_zero]
theorem ANy(a:Fp){e:Nat}(he:e<2^256):pw a e 256=La a e:=by
 refine Fin.ext ?_;rw[ACi a he 256 (Nat.le_refl _),Lt a he,Nat.sub_self,Nat.pow_zero,Nat.div_one]
theorem Zb{x:Fp}{v:Fin (2^64)}(h:x.val=v.val):nF x=nV (H7 v):=congrArg nV (Fin.ext h)
theorem iG{x:Fp}(v:Fin (2^64))(h:x.val=v.val)(k:Nat)(hk:k<4)(h0:k≠0):V.int .u64 0=nv (w4 (fN x).val) k:=(tG v k hk h0).trans (congrFun (V.row.inj (Zb h)).2.2 k).symm
theorem AJe{x:Fp}(v:Fin (2^64))(h:x.val=v.val):V.int .u64 (v.val:Nat)=nv (w4 (fN x).val) 0:=(AKi v).trans (congrFun (V.row.inj (Zb h)).2.2 0).symm
theorem Gp{x:Fp}(v:Fin (2^64)){f:Nat→V}(h:x.val=v.val)(h0:f 0= .int .u64 (v.val:Nat))(h1:f 1= .int .u64 0)(h2:f 2= .int .u64 0)(h3:f 3= .int .u64 0):∀k,k<4→f k=nv (w4 (fN x).val) k:=fun k hk=>(Od h0 h1 h2 h3 k hk).trans (congrFun (V.row.inj (Zb h)).2.2 k).symm
theorem Tj{i:Nat}(h:i<1000):IntKind.i64.wrap (Int.tdiv (i:Int) 64)=((i/64:Nat):Int):=by
 rw[Int.tdiv_eq_ediv_of_nonneg (by omega),A3 (by omega) (by omega)];omega
theorem Tl{i:Nat}(h:i<1000):IntKind.u64.wrap (Int.tmod (i:Int) 64)=((i%64:Nat):Int):=by
 rw[Int.tmod_eq_emod_of_nonneg (by omega),IntKind.wrap_u64];omega
def ARk:A7:=Bf (fun(x:Fp×Av)=>[nF x.1,nV x.2]) (fun _=>True) (fun x=>La x.1 x.2.val) nF
theorem kL:FOk Tryz.prog G 203 ARk:=A8 fun⟨a,e⟩ _=>by
 show CP _ _ _ [nF a,nV e] fun v=>Ld v (nF (La a e.val))
 have h1:(pw a e.val 0).val=(1:Fin (2^64)).val:=by show(1:Fp).val=_;decide
 rw[←ANy a e.isLt];have hΓ:=Ab Tryz.f203.ntmps _ _ [] (.cons (Js) .nil) .nil;refine Aw hΓ Tryz.func203 ?_;conv=>whnf
 repeat' ((first|apply Ap<;>intro _|apply An)<;>conv=>whnf)
 all_goals try exact⟨B9⟩
 refine A4 (ι:=Nat) (fun k=>[(2, .ref 0 []),(3, .ref 1 []),(4, .ref 2 []),(5, .ref 3 []),(6, .int .i64 (255 - (k:Int)))]) (fun k=>[some (nF a),some (nV e),some (.row 1 4 fun _=> .int .u64 0),some (nF (pw a e.val k))]) (fun k=>k≤256) (fun k=>256 - k) 0 [some 0,some 1,some 2,some 3] ?_ (fun i hi=>vo hΓ ?_)
 ·conv=>whnf
  repeat' ((first|apply Ap<;>intro _|apply An)<;>conv=>whnf)
  all_goals try exact⟨Ba⟩
  exact⟨A0 (A5 (iG 1 h1 3 (by decide) (by decide)) trivial) (A0 (A5 (iG 1 h1 2 (by decide) (by decide)) trivial) (A0 (A5 (iG 1 h1 1 (by decide) (by decide)) trivial) (A0 (A5 (Eq.trans rfl (AJe 1 h1)) trivial) A9)))⟩
 ·conv=>whnf
  apply Ap<;>intro h3<;>conv=>whnf
  ·have hin:i<256:=by
    have:(0:Int)≤255 - (i:Int):=by simpa using h3
    omega
   have hn:(255:Int) - (i:Int)=((255 - i:Nat):Int):=by omega
   have hp:pw a e.val (i+1)=if Jm e.val (255 - i)then pw a e.val i*pw a e.val i*a else pw a e.val i*pw a e.val i:=rfl;have e1:IntKind.i64.wrap (Int.tdiv (255 - (i:Int)) 64)=(((255 - i)/64:Nat):Int):=by rw[hn];exact Tj (by omega)
   have e2:IntKind.u64.wrap (Int.tmod (255 - (i:Int)) 64)=(((255 - i)%64:Nat):Int):=by rw[hn];exact Tl (by omega)
   have hb:(Ag .and .u64 (Bt .u64 ((w4 e.val (IntKind.i64.wrap (Int.tdiv (255 - (i:Int)) 64)).toNat:Nat):Int) (IntKind.u64.wrap (Int.tmod (255 - (i:Int)) 64))) 1==1)=Jm e.val (255 - i):=by rw[e1,e2,Int.toNat_natCast];exact yS
   generalize pw a e.val i=p at*;conv=>whnf
   repeat' ((first|apply Ap<;>intro _|apply An)<;>conv=>whnf)
   all_goals try first|exact⟨B9⟩|exact⟨by rw[e1];omega⟩|exact⟨by rw[e2];omega⟩
   refine⟨(p,p),⟨AE.refl _,AE.refl _,trivial⟩,⟨trivial⟩,fun rr hr=>?_⟩;replace hr:p*p=rr:=(hr.trans (rfl)).symm;subst hr;conv=>whnf
   repeat' ((first|apply Ap<;>intro _|apply An)<;>conv=>whnf)
   all_goals try exact⟨B0⟩
   ·rename_i hc;rw[if_pos (hb.symm.trans hc)]at hp;refine⟨(p*p,a),⟨AE.refl _,AE.refl _,trivial⟩,⟨trivial⟩,fun rr hr=>?_⟩;replace hr:p*p*a=rr:=(hr.trans (rfl)).symm;subst hr;conv=>whnf
    repeat' ((first|apply Ap<;>intro _|apply An)<;>conv=>whnf)
    all_goals try exact⟨B0⟩
    refine⟨i+1,[some 0,some 1,some 2,some 3],?_⟩;rw[hp];conv=>whnf
    repeat' (apply An<;>conv=>whnf)
    all_goals try exact⟨Ba⟩
    all_goals exact⟨by rw[A3 (by omega) (by omega)];omega⟩
   ·rename_i hc;rw[if_neg (by rw[hb.symm.trans hc];decide)]at hp;refine⟨i+1,[some 0,some 1,some 2,some 3],?_⟩;rw[hp];conv=>whnf
    repeat' (apply An<;>conv=>whnf)
    all_goals try exact⟨Ba⟩
    all_goals exact⟨by rw[A3 (by omega) (by omega)];omega⟩
  ·have hin:i=256:=by
    have:¬(0:Int)≤255 - (i:Int):=by simpa using h3
    omega
   subst hin;refine vo hΓ ?_;conv=>whnf
   repeat' ((first|apply Ap<;>intro _|apply An)<;>conv=>whnf)
   all_goals try exact⟨B9⟩
   exact Ld.refl _
theorem AHe(a:Fp):La a (P - 2)=inv a:=by
 refine Fin.ext ?_;rw[Lt a (by decide)]
 show _=Oh P 255 a.val (P - 2)
 exact(Jb P 255 _ _ (by decide+kernel)).symm
theorem ANr:(Ng (pX,H7 2)).1.val=P - 2:=Px (x:=(pX,H7 2)) (by decide)
def AR5:A7:=Bf (fun(x:Fp)=>[nF x]) (fun _=>True) inv nF
theorem Ri:FOk Tryz.prog G 154 AR5:=A8 fun x _=>by
 obtain⟨r,hr0⟩:∃r,r=Ng (pX,H7 2):=⟨_,rfl⟩;have hv:La x r.1.val=inv x:=by rw[hr0,ANr];exact AHe x
 obtain⟨z,hz⟩:∃z,z=inv x:=⟨_,rfl⟩;rw[←hz]at hv⊢;have hΓ:=Ab Tryz.f154.ntmps _ _ [] (.cons (kI.g) (.cons (Ll.g) (.cons (kL) .nil))) .nil;refine Aw hΓ Tryz.func154 ?_;conv=>whnf
 repeat' ((first|apply Ap<;>intro _|apply An)<;>conv=>whnf)
 all_goals try exact⟨B9⟩
 refine⟨(),trivial,⟨trivial⟩,fun r hr=>?_⟩;subst hr;conv=>whnf
 repeat' ((first|apply Ap<;>intro _|apply An)<;>conv=>whnf)
 all_goals try exact⟨B0⟩
 all_goals try exact⟨A0 trivial (A0 trivial (A0 trivial (A0 trivial A9)))⟩
 refine⟨(pX,H7 2),⟨AE.refl _,AE.row (Od (v:=2) rfl rfl rfl rfl),trivial⟩,⟨trivial⟩,fun rr hr=>?_⟩;replace hr:r=rr:=(hr.trans hr0.symm).symm;subst hr;conv=>whnf
 repeat' ((first|apply Ap<;>intro _|apply An)<;>conv=>whnf)
 all_goals try exact⟨B9⟩
 refine⟨(x,r.1),⟨AE.refl _,AE.refl _,trivial⟩,⟨trivial⟩,fun rr hr=>?_⟩;replace hr:z=rr:=(hr.trans (hv)).symm;subst hr;conv=>whnf
 repeat' ((first|apply Ap<;>intro _|apply An)<;>conv=>whnf)
 all_goals try exact⟨B0⟩
 exact Ld.refl _
theorem lC(a i:Nat):w4 (a/2) i=a/2^(64*i)/2%2^64:=by
 unfold w4;rw[Nat.div_div_eq_div_mul,Nat.mul_comm 2,←Nat.div_div_eq_div_mul]
theorem AN6(a i:Nat):Ag .or .u64 (Bt .u64 (w4 a i:Nat) 1) (Ch .u64 (w4 a (i+1):Nat) 63)=((w4 (a/2) i:Nat):Int):=by
 have h0:=C3 a i;have h1:Bt .u64 (w4 a i:Nat) 1=((w4 a i/2:Nat):Int):=E0 _ 1 (by decide);have h2:=U2 (x:=w4 a i/2) (y:=w4 a (i+1)) (t:=63) (by omega) (by decide);rw[h1,show(63:Int)=((63:Nat):Int)from rfl,h2,lC]
 congr 1
 have e:w4 a (i+1)=a/2^(64*i)/2^64%2^64:=by unfold w4;rw[Nat.div_div_eq_div_mul,←Nat.pow_add,Nat.mul_succ]
 rw[e,w4];generalize a/2^(64*i)=A;omega
theorem AN5{a:Nat}(ha:a<2^256):Bt .u64 (w4 a 3:Nat) 1=((w4 (a/2) 3:Nat):Int):=by
 have h1:Bt .u64 (w4 a 3:Nat) 1=((w4 a 3/2:Nat):Int):=E0 _ 1 (by decide);rw[h1,lC,w4]
 have:a/2^(64*3)<2^64:=Nat.div_lt_of_lt_mul (Nat.lt_of_lt_of_le ha (by decide))
 generalize a/2^(64*3)=A at*
 congr 1
 omega
def Gi(a:Av):Av:=⟨a.val/2,Nat.lt_of_le_of_lt (Nat.div_le_self _ _) a.isLt⟩
def AW1:A7:=Bf (fun(a:Av)=>[nV a]) (fun _=>True) Gi nV
theorem AG1:FOk Tryz.prog [] 250 AW1:=A8 fun⟨a,ha⟩ _=>by
 show CP _ _ _ [Iz a] fun v=>Ld v (Iz (a/2))
 have hw:=AN6 a;have h3:=AN5 ha;have hΓ:=Ad Tryz.f250.ntmps _ _ (FL.all .nil) (HL.all .nil);refine Aw hΓ Tryz.func250 ?_;conv=>whnf
 refine A4 (ι:=Nat) (fun i=>[(1, .ref 0 []),(2, .ref 1 []),(3, .ref 2 []),(4, .int .i64 (i:Nat))]) (fun i=>[some (Iz a),some (.row 1 4 fun _=> .int .u64 0),some (.row 1 4 (nv fun k=>if k<i then w4 (a/2) k else 0))]) (fun i=>i≤4) (fun i=>4 - i) 0 [some 0,some 1,some 2] ?_ (fun i hi=>vo hΓ ?_)
 ·conv=>whnf
  repeat' ((first|apply Ap<;>intro _|apply An)<;>conv=>whnf)
  all_goals try exact⟨Ba⟩
 ·rcases Nat.lt_or_ge i 4 with h5|h5
  ·obtain⟨y,hy⟩:∃y,y=i+1:=⟨_,rfl⟩;obtain rfl|rfl|rfl|rfl:i=0∨i=1∨i=2∨i=3:=by omega
   all_goals
    conv=>whnf
    repeat' (first|(apply Ap<;>intro hp<;>first|(exfalso;revert hp;simp;done)|conv=>whnf)|(apply An<;>conv=>whnf))
    all_goals try first|exact⟨B9⟩|exact⟨by decide⟩
    refine⟨y,[some 0,some 1,some 2],?_⟩;subst hy;conv=>whnf
    repeat' (apply An<;>conv=>whnf)
    all_goals try exact⟨Ba⟩
   all_goals
    refine⟨?_⟩;refine(A0 ?_ (A0 ?_ (A0 ?_ (A0 ?_ A9))))
   all_goals first
    |exact A5 rfl trivial
    |exact A5 (congrArg (V.int .u64) (hw 0)) trivial
    |exact A5 (congrArg (V.int .u64) (hw 1)) trivial
    |exact A5 (congrArg (V.int .u64) (hw 2)) trivial
    |exact A5 (congrArg (V.int .u64) h3) trivial
  ·obtain rfl:i=4:=by omega
   conv=>whnf
   repeat' (first|(apply Ap<;>intro hp<;>first|(exfalso;revert hp;simp;done)|conv=>whnf)|(apply An<;>conv=>whnf))
   refine vo hΓ ?_;conv=>whnf
   repeat' ((first|apply Ap<;>intro _|apply An)<;>conv=>whnf)
   all_goals try exact⟨B9⟩
   exact Ld.row fun k hk=>congrArg (V.int .u64) (congrArg Nat.cast (if_pos hk))
theorem AO3{a b:Av}:De 4 (nv (w4 a.val)) (nv (w4 b.val))=decide (a=b):=by
 rw[Bool.eq_iff_iff,decide_eq_true_eq,De,List.all_eq_true]
 constructor
 ·intro h;have h4:∀k,k<4→w4 a.val k=w4 b.val k:=fun k hk=>Int.ofNat.inj (eq_of_beq (h k (List.mem_range.2 hk)));refine Fin.ext ?_;rw[←Mv a.isLt,←Mv b.isLt];unfold Mt;rw[h4 0 (by decide),h4 1 (by decide),h4 2 (by decide),h4 3 (by decide)]
 ·rintro rfl k _
  exact beq_self_eq_true _
theorem Se{a b:Fp}:De 4 (nv (w4 (fN a).val)) (nv (w4 (fN b).val))=decide (a=b):=by
 rw[AO3];refine decide_eq_decide.2 ⟨fun h=>Fin.ext (congrArg (fun x:Av=>x.val) h),fun h=>by rw[h]⟩
def xJ(r:Fp):Fp:=if r.val%2=1 then 0 - r else r
def L0(a:Fp):Fp×Bool:=if Cv a*Cv a=a then(xJ (Cv a),true)else(0,false)
def AWf:A7:=Bf (fun(x:Fp)=>[nF x]) (fun _=>True) L0 (fun r=> .tup (.cons (nF r.1) (.cons (.bool r.2) .nil)))
theorem cM{m:Nat}:((Ag .and .u64 ((w4 m 0:Nat):Int) 1)==1)=decide (m%2=1):=by
 have h:=yS (e:=m) (i:=0)
 have h1:Bt .u64 ((w4 m (0/64):Nat):Int) ((0%64:Nat):Int)=((w4 m 0:Nat):Int):=by
  rw[E0 _ _ (by decide),Nat.zero_div,Nat.zero_mod,Nat.pow_zero,Nat.div_one]
 rw[h1]at h;rw[h,Jm,Nat.pow_zero,Nat.div_one]
theorem AM1:(Gi (Gi (Gi (Hr (pX,H7 3)).1))).val=(P+3)/8:=by
 have h:(Hr (pX,H7 3)).1.val=P+3:=Vj (x:=(pX,H7 3)) (by decide)
 show(Hr (pX,H7 3)).1.val/2/2/2=_
 rw[h];omega
theorem AM2:(Gi (Gi (Ng (pX,H7 1)).1)).val=(P - 1)/4:=by
 have h:(Ng (pX,H7 1)).1.val=P - 1:=Px (x:=(pX,H7 1)) (by decide)
 show(Ng (pX,H7 1)).1.val/2/2=_
 rw[h];omega
theorem M0(k:Nat):V.int .u64 0=nv (w4 (fN 0).val) k:=by
 show V.int .u64 0=V.int .u64 ((0/2^(64*k)%2^64:Nat):Int)
 rw[Nat.zero_div];rfl
theorem AGb:FOk Tryz.prog G 210 AWf:=A8 fun x _=>by
 show CP _ _ _ [nF x] fun v=>Ld v (.tup (.cons (nF (L0 x).1) (.cons (.bool (L0 x).2) .nil)))
 obtain⟨e,he⟩:∃e,e=Hr (pX,H7 3):=⟨_,rfl⟩;obtain⟨f,hf⟩:∃f,f=Ng (pX,H7 1):=⟨_,rfl⟩;obtain⟨r1,hr1⟩:∃r1,r1=La x ((P+3)/8):=⟨_,rfl⟩;have hv1:La x (Gi (Gi (Gi e.1))).val=r1:=by rw[he,AM1,hr1]
 obtain⟨i,hi⟩:∃i,i=i2:=⟨_,rfl⟩;have hv2:La 2 (Gi (Gi f.1)).val=i:=by rw[hf,AM2,hi];rfl
 have hB0:L0 x=if Cv x*Cv x=x then(xJ (Cv x),true)else(0,false):=rfl;have hroot:Cv x=if r1*r1=x then r1 else r1*i:=by rw[hr1,hi];rfl
 have hΓ:=Ab Tryz.f210.ntmps _ _ [] (.cons (Vx.g) (.cons (Ny.g) (.cons (kI.g) (.cons (kL) (.cons (AG1.g) (.cons (Js) (.cons (Ll.g) (.cons (Rk.g) .nil)))))))) .nil;refine Aw hΓ Tryz.func210 ?_;conv=>whnf
 repeat' ((first|apply Ap<;>intro _|apply An)<;>conv=>whnf)
 all_goals try exact⟨B9⟩
 refine⟨(fN x),⟨AE.refl _,trivial⟩,⟨trivial⟩,fun rr hr=>?_⟩;replace hr:x=rr:=(hr.trans (S5 x)).symm;subst hr;conv=>whnf
 repeat' ((first|apply Ap<;>intro _|apply An)<;>conv=>whnf)
 all_goals try exact⟨B0⟩
 refine⟨(),trivial,⟨trivial⟩,fun r hr=>?_⟩;subst hr;conv=>whnf
 repeat' ((first|apply Ap<;>intro _|apply An)<;>conv=>whnf)
 all_goals try exact⟨B0⟩
 all_goals try exact⟨A0 trivial (A0 trivial (A0 trivial (A0 trivial A9)))⟩
 refine⟨(pX,H7 3),⟨AE.refl _,AE.row (Od (v:=3) rfl rfl rfl rfl),trivial⟩,⟨trivial⟩,fun rr hr=>?_⟩;replace hr:e=rr:=(hr.trans he.symm).symm;subst hr;conv=>whnf
 repeat' ((first|apply Ap<;>intro _|apply An)<;>conv=>whnf)
 all_goals try exact⟨B9⟩
 refine⟨e.1,⟨AE.refl _,trivial⟩,⟨trivial⟩,fun r hr=>?_⟩;subst hr;conv=>whnf
 repeat' ((first|apply Ap<;>intro _|apply An)<;>conv=>whnf)
 all_goals try exact⟨B0⟩
 refine⟨(Gi e.1),⟨AE.refl _,trivial⟩,⟨trivial⟩,fun r hr=>?_⟩;subst hr;conv=>whnf
 repeat' ((first|apply Ap<;>intro _|apply An)<;>conv=>whnf)
 all_goals try exact⟨B0⟩
 refine⟨(Gi (Gi e.1)),⟨AE.refl _,trivial⟩,⟨trivial⟩,fun r hr=>?_⟩;subst hr;conv=>whnf
 repeat' ((first|apply Ap<;>intro _|apply An)<;>conv=>whnf)
 all_goals try exact⟨B0⟩
 refine⟨(x,Gi (Gi (Gi e.1))),⟨AE.refl _,AE.refl _,trivial⟩,⟨trivial⟩,fun rr hr=>?_⟩;replace hr:r1=rr:=(hr.trans (hv1)).symm;subst hr;conv=>whnf
 repeat' ((first|apply Ap<;>intro _|apply An)<;>conv=>whnf)
 all_goals try exact⟨B0⟩
 refine⟨(r1,r1),⟨AE.refl _,AE.refl _,trivial⟩,⟨trivial⟩,fun rr hr=>?_⟩;replace hr:r1*r1=rr:=(hr.trans (rfl)).symm;subst hr;conv=>whnf
 repeat' ((first|apply Ap<;>intro _|apply An)<;>conv=>whnf)
 all_goals try exact⟨B0⟩
 ·exact⟨fun _ _=>rfl⟩
 ·exact⟨fun _ _=>rfl⟩
 ·rename_i hc
  have hc:¬r1*r1=x:=by
   have h:=(congrArg (fun b=> !b) (Se (a:=r1*r1) (b:=x))).symm.trans hc;simpa using h
  rw[if_neg hc]at hroot;obtain⟨r3,hr3⟩:∃r3,r3=r1*i:=⟨_,rfl⟩;rw[←hr3]at hroot;have hB:=hB0;rw[hroot]at hB;refine⟨(),trivial,⟨trivial⟩,fun r hr=>?_⟩;subst hr;conv=>whnf
  repeat' ((first|apply Ap<;>intro _|apply An)<;>conv=>whnf)
  all_goals try exact⟨B0⟩
  all_goals try exact⟨A0 trivial (A0 trivial (A0 trivial (A0 trivial A9)))⟩
  refine⟨(pX,H7 1),⟨AE.refl _,AE.row (Od (v:=1) rfl rfl rfl rfl),trivial⟩,⟨trivial⟩,fun rr hr=>?_⟩;replace hr:f=rr:=(hr.trans hf.symm).symm;subst hr;conv=>whnf
  repeat' ((first|apply Ap<;>intro _|apply An)<;>conv=>whnf)
  all_goals try exact⟨B9⟩
  all_goals try exact⟨A0 trivial (A0 trivial (A0 trivial (A0 trivial A9)))⟩
  refine⟨f.1,⟨AE.refl _,trivial⟩,⟨trivial⟩,fun r hr=>?_⟩;subst hr;conv=>whnf
  repeat' ((first|apply Ap<;>intro _|apply An)<;>conv=>whnf)
  all_goals try exact⟨B0⟩
  refine⟨(Gi f.1),⟨AE.refl _,trivial⟩,⟨trivial⟩,fun r hr=>?_⟩;subst hr;conv=>whnf
  repeat' ((first|apply Ap<;>intro _|apply An)<;>conv=>whnf)
  all_goals try exact⟨B0⟩
  all_goals try exact⟨A0 trivial (A0 trivial (A0 trivial (A0 trivial A9)))⟩
  refine⟨(2,Gi (Gi f.1)),⟨AE.row (Gp 2 (show(2:Fp).val=(2:Fin (2^64)).val by decide) rfl rfl rfl rfl),AE.refl _,trivial⟩,⟨trivial⟩,fun rr hr=>?_⟩;replace hr:i=rr:=(hr.trans hv2).symm;subst hr;conv=>whnf
  repeat' ((first|apply Ap<;>intro _|apply An)<;>conv=>whnf)
  all_goals try exact⟨B9⟩
  refine⟨(r1,i),⟨AE.refl _,AE.refl _,trivial⟩,⟨trivial⟩,fun rr hr=>?_⟩;replace hr:r3=rr:=(hr.trans (hr3.symm)).symm;subst hr;conv=>whnf
  repeat' ((first|apply Ap<;>intro _|apply An)<;>conv=>whnf)
  all_goals try exact⟨B0⟩
  refine⟨(r3,r3),⟨AE.refl _,AE.refl _,trivial⟩,⟨trivial⟩,fun rr hr=>?_⟩;replace hr:r3*r3=rr:=(hr.trans (rfl)).symm;subst hr;conv=>whnf
  repeat' ((first|apply Ap<;>intro _|apply An)<;>conv=>whnf)
  all_goals try exact⟨B0⟩
  ·exact⟨fun _ _=>rfl⟩
  ·exact⟨fun _ _=>rfl⟩
  ·rename_i hc
   have hc:¬r3*r3=x:=by
    have h:=(congrArg (fun b=> !b) (Se (a:=r3*r3) (b:=x))).symm.trans hc;simpa using h
   rw[show L0 x=(0,false) by rw[hB,if_neg hc]];exact Ld.two (Ld.row fun k _=>M0 k) (by simp) rfl (by simp[nF,nV,Iz]) rfl
  ·rename_i hc ho
   have hc:r3*r3=x:=by
    have h:=(congrArg (fun b=> !b) (Se (a:=r3*r3) (b:=x))).symm.trans hc;simpa using h
   have ho:r3.val%2=1:=of_decide_eq_true (cM.symm.trans ho);all_goals try exact⟨A0 trivial (A0 trivial (A0 trivial (A0 trivial A9)))⟩
   refine⟨(0,r3),⟨AE.row (fun k _=>M0 k),AE.refl _,trivial⟩,⟨trivial⟩,fun rr hr=>?_⟩;obtain⟨z,hz⟩:∃z,z=0 - r3:=⟨_,rfl⟩;replace hr:z=rr:=(hr.trans hz.symm).symm;subst hr;conv=>whnf
   repeat' ((first|apply Ap<;>intro _|apply An)<;>conv=>whnf)
   all_goals try exact⟨B9⟩
   rw[show L0 x=(z,true) by rw[hB,if_pos hc,xJ,if_pos ho,hz]];exact Ld.refl _
  ·rename_i hc ho
   have hc:r3*r3=x:=by
    have h:=(congrArg (fun b=> !b) (Se (a:=r3*r3) (b:=x))).symm.trans hc;simpa using h
   have ho:¬r3.val%2=1:=of_decide_eq_false (cM.symm.trans ho);rw[show L0 x=(r3,true) by rw[hB,if_pos hc,xJ,if_neg ho]];exact Ld.refl _
 ·rename_i hc
  have hc:r1*r1=x:=by
   have h:=(congrArg (fun b=> !b) (Se (a:=r1*r1) (b:=x))).symm.trans hc;simpa using h
  rw[if_pos hc]at hroot;have hB:=hB0;rw[hroot]at hB;refine⟨(r1,r1),⟨AE.refl _,AE.refl _,trivial⟩,⟨trivial⟩,fun rr hr=>?_⟩;replace hr:r1*r1=rr:=(hr.trans (rfl)).symm;subst hr;conv=>whnf
  repeat' ((first|apply Ap<;>intro _|apply An)<;>conv=>whnf)
  all_goals try exact⟨B0⟩
  ·exact⟨fun _ _=>rfl⟩
  ·exact⟨fun _ _=>rfl⟩
  ·rename_i hc
   have hc:¬r1*r1=x:=by
    have h:=(congrArg (fun b=> !b) (Se (a:=r1*r1) (b:=x))).symm.trans hc;simpa using h
   rw[show L0 x=(0,false) by rw[hB,if_neg hc]];exact Ld.two (Ld.row fun k _=>M0 k) (by simp) rfl (by simp[nF,nV,Iz]) rfl
  ·rename_i hc ho
   have hc:r1*r1=x:=by
    have h:=(congrArg (fun b=> !b) (Se (a:=r1*r1) (b:=x))).symm.trans hc;simpa using h
   have ho:r1.val%2=1:=of_decide_eq_true (cM.symm.trans ho);all_goals try exact⟨A0 trivial (A0 trivial (A0 trivial (A0 trivial A9)))⟩
   refine⟨(0,r1),⟨AE.row (fun k _=>M0 k),AE.refl _,trivial⟩,⟨trivial⟩,fun rr hr=>?_⟩;obtain⟨z,hz⟩:∃z,z=0 - r1:=⟨_,rfl⟩;replace hr:z=rr:=(hr.trans hz.symm).symm;subst hr;conv=>whnf
   repeat' ((first|apply Ap<;>intro _|apply An)<;>conv=>whnf)
   all_goals try exact⟨B9⟩
   rw[show L0 x=(z,true) by rw[hB,if_pos hc,xJ,if_pos ho,hz]];exact Ld.refl _
  ·rename_i hc ho
   have hc:r1*r1=x:=by
    have h:=(congrArg (fun b=> !b) (Se (a:=r1*r1) (b:=x))).symm.trans hc;simpa using h
   have ho:¬r1.val%2=1:=of_decide_eq_false (cM.symm.trans ho);rw[show L0 x=(r1,true) by rw[hB,if_pos hc,xJ,if_neg ho]];exact Ld.refl _
def eV(p:Ex P):V:= .st (.cons (nF p.x) (.cons (nF p.y) (.cons (nF p.z) (.cons (nF p.t) .nil))))
theorem AVn:(0 - 121665:Fp)*inv 121666=dP:=by decide+kernel
def fDF:A7:=Bf (fun(_:Unit)=>[]) (fun _=>True) (fun _=>dP) nF
theorem oX:FOk Tryz.prog G 156 fDF:=A8 fun _ _=>by
 obtain⟨d,hd⟩:∃d,d=dP:=⟨_,rfl⟩;obtain⟨u,hu⟩:∃u:Fp,u=0 - 121665:=⟨_,rfl⟩;obtain⟨v,hv⟩:∃v:Fp,v=inv 121666:=⟨_,rfl⟩;have he:u*v=d:=by rw[hu,hv,hd];exact AVn
 rw[←hd];have hΓ:=Ab Tryz.f156.ntmps _ _ [] (.cons (Js) (.cons (Rk.g) (.cons (Ri) .nil))) .nil;refine Aw hΓ Tryz.func156 ?_;conv=>whnf
 repeat' ((first|apply Ap<;>intro _|apply An)<;>conv=>whnf)
 all_goals try exact⟨B9⟩
 all_goals try exact⟨A0 trivial (A0 trivial (A0 trivial (A0 trivial A9)))⟩
 refine⟨(0,121665),⟨AE.row (fun k _=>M0 k),AE.row (Gp 121665 (show(121665:Fp).val=(121665:Fin (2^64)).val by decide) rfl rfl rfl rfl),trivial⟩,⟨trivial⟩,fun rr hr=>?_⟩
 replace hr:u=rr:=(hr.trans hu.symm).symm;subst hr;conv=>whnf
 repeat' ((first|apply Ap<;>intro _|apply An)<;>conv=>whnf)
 all_goals try exact⟨B9⟩
 all_goals try exact⟨A0 trivial (A0 trivial (A0 trivial (A0 trivial A9)))⟩
 refine⟨121666,⟨AE.row (Gp 121666 (show(121666:Fp).val=(121666:Fin (2^64)).val by decide) rfl rfl rfl rfl),trivial⟩,⟨trivial⟩,fun rr hr=>?_⟩;replace hr:v=rr:=(hr.trans hv.symm).symm;subst hr;conv=>whnf
 repeat' ((first|apply Ap<;>intro _|apply An)<;>conv=>whnf)
 all_goals try exact⟨B9⟩
 refine⟨(u,v),⟨AE.refl _,AE.refl _,trivial⟩,⟨trivial⟩,fun rr hr=>?_⟩;replace hr:d=rr:=(hr.trans (he)).symm;subst hr;conv=>whnf
 repeat' ((first|apply Ap<;>intro _|apply An)<;>conv=>whnf)
 all_goals try exact⟨B0⟩
 exact Ld.refl _
theorem lS{x:Fp}(v:Fin (2^64)){f:Nat→V}(h:x.val=v.val)(h0:f 0= .int .u64 (v.val:Nat))(h1:f 1= .int .u64 0)(h2:f 2= .int .u64 0)(h3:f 3= .int .u64 0):Cm (.row 1 4 f) (nF x):=Cm.row (Gp v h h0 h1 h2 h3)
def AWn:A7:=Bf (fun(_:Unit)=>[]) (fun _=>True) (fun _=>(S2:Ex P)) eV
theorem AGi:FOk Tryz.prog [] 157 AWn:=A8 fun _ _=>by
 have hΓ:=Ad Tryz.f157.ntmps _ _ (FL.all .nil) (HL.all .nil);refine Aw hΓ Tryz.func157 ?_;conv=>whnf
 repeat' ((first|apply Ap<;>intro _|apply An)<;>conv=>whnf)
 all_goals try exact⟨B9⟩
 all_goals try exact⟨A0 trivial (A0 trivial (A0 trivial (A0 trivial A9)))⟩
 exact Ld.st (.cons (Cm.row fun k _=>M0 k) (.cons (lS (x:=1) 1 (by decide) rfl rfl rfl rfl) (.cons (lS (x:=1) 1 (by decide) rfl rfl rfl rfl) (.cons (Cm.row fun k _=>M0 k) .nil))))
def ACb(k:Fp)(p q:Ex P):Ex P:=
 ⟨((p.y+p.x)*(q.y+q.x) - (p.y - p.x)*(q.y - q.x))*((p.z*q.z+p.z*q.z) - (p.t*k*q.t+p.t*k*q.t)),((p.z*q.z+p.z*q.z)+(p.t*k*q.t+p.t*k*q.t))*((p.y+p.x)*(q.y+q.x)+(p.y - p.x)*(q.y - q.x)),
  ((p.z*q.z+p.z*q.z) - (p.t*k*q.t+p.t*k*q.t))*((p.z*q.z+p.z*q.z)+(p.t*k*q.t+p.t*k*q.t)),((p.y+p.x)*(q.y+q.x) - (p.y - p.x)*(q.y - q.x))*((p.y+p.x)*(q.y+q.x)+(p.y - p.x)*(q.y - q.x))⟩
theorem AEy{n:Nat}[NeZero n](k a b:Fin n):a*k*b+a*k*b=(k+k)*a*b:=by grind(splits:=0)
theorem zG{n:Nat}[NeZero n](a b:Fin n):a*b+a*b=(a+a)*b:=by grind(splits:=0)
theorem ACc(k:Fp)(p q:Ex P):ACb k p q=H8 (k+k) p q:=by
 unfold ACb H8;rw[AEy,zG]
def ARi:A7:=Bf (fun(x:Ex P×Ex P×Fp)=>[eV x.1,eV x.2.1,nF x.2.2]) (fun _=>True) (fun x=>H8 (x.2.2+x.2.2) x.1 x.2.1) eV
theorem kJ:FOk Tryz.prog G 158 ARi:=A8 fun⟨p,q,k⟩ _=>by
 show CP _ _ _ [eV p,eV q,nF k] fun v=>Ld v (eV (H8 (k+k) p q))
 rw[←ACc]
 have hres:ACb k p q=⟨((p.y+p.x)*(q.y+q.x) - (p.y - p.x)*(q.y - q.x))*((p.z*q.z+p.z*q.z) - (p.t*k*q.t+p.t*k*q.t)),((p.z*q.z+p.z*q.z)+(p.t*k*q.t+p.t*k*q.t))*((p.y+p.x)*(q.y+q.x)+(p.y - p.x)*(q.y - q.x)),
  ((p.z*q.z+p.z*q.z) - (p.t*k*q.t+p.t*k*q.t))*((p.z*q.z+p.z*q.z)+(p.t*k*q.t+p.t*k*q.t)),((p.y+p.x)*(q.y+q.x) - (p.y - p.x)*(q.y - q.x))*((p.y+p.x)*(q.y+q.x)+(p.y - p.x)*(q.y - q.x))⟩:=rfl
 rw[hres];clear hres;obtain⟨a,ha⟩:∃a,a=(p.y - p.x)*(q.y - q.x):=⟨_,rfl⟩;obtain⟨b,hb⟩:∃b,b=(p.y+p.x)*(q.y+q.x):=⟨_,rfl⟩;obtain⟨c1,hc1⟩:∃c1,c1=p.t*k*q.t:=⟨_,rfl⟩;obtain⟨e1,he1⟩:∃e1,e1=p.z*q.z:=⟨_,rfl⟩;rw[←ha,←hb,←hc1,←he1];have hΓ:=Ab Tryz.f158.ntmps _ _ [(7, .one 0 (.one 1 (.one 2 (.one 3 (.one 4 (.one 5 (.one 6 (.one 7 (.one 8 (.one 9 (.one 10 (.one 11 (.many (.cons 12 (.many (.cons 13 (.many (.cons 14 (.one 15 (.one 16 (.one 17 (.one 18 (.one 19 (.done)))))) (.cons 15 (.one 14 (.one 16 (.one 17 (.one 18 (.one 19 (.done)))))) (.nil)))) (.cons 14 (.many (.cons 13 (.one 15 (.one 16 (.one 17 (.one 18 (.one 19 (.done)))))) (.cons 15 (.one 13 (.one 16 (.one 17 (.one 18 (.one 19 (.done)))))) (.nil)))) (.cons 15 (.many (.cons 13 (.one 14 (.one 16 (.one 17 (.one 18 (.one 19 (.done)))))) (.cons 14 (.one 13 (.one 16 (.one 17 (.one 18 (.one 19 (.done)))))) (.nil)))) (.nil))))) (.cons 13 (.many (.cons 12 (.many (.cons 14 (.one 15 (.one 16 (.one 17 (.one 18 (.one 19 (.done)))))) (.cons 15 (.one 14 (.one 16 (.one 17 (.one 18 (.one 19 (.done)))))) (.nil)))) (.cons 14 (.many (.cons 12 (.one 15 (.one 16 (.one 17 (.one 18 (.one 19 (.done)))))) (.cons 15 (.one 12 (.one 16 (.one 17 (.one 18 (.one 19 (.done)))))) (.nil)))) (.cons 15 (.many (.cons 12 (.one 14 (.one 16 (.one 17 (.one 18 (.one 19 (.done)))))) (.cons 14 (.one 12 (.one 16 (.one 17 (.one 18 (.one 19 (.done)))))) (.nil)))) (.nil))))) (.cons 14 (.many (.cons 12 (.many (.cons 13 (.one 15 (.one 16 (.one 17 (.one 18 (.one 19 (.done)))))) (.cons 15 (.one 13 (.one 16 (.one 17 (.one 18 (.one 19 (.done)))))) (.nil)))) (.cons 13 (.many (.cons 12 (.one 15 (.one 16 (.one 17 (.one 18 (.one 19 (.done)))))) (.cons 15 (.one 12 (.one 16 (.one 17 (.one 18 (.one 19 (.done)))))) (.nil)))) (.cons 15 (.many (.cons 12 (.one 13 (.one 16 (.one 17 (.one 18 (.one 19 (.done)))))) (.cons 13 (.one 12 (.one 16 (.one 17 (.one 18 (.one 19 (.done)))))) (.nil)))) (.nil))))) (.cons 15 (.many (.cons 12 (.many (.cons 13 (.one 14 (.one 16 (.one 17 (.one 18 (.one 19 (.done)))))) (.cons 14 (.one 13 (.one 16 (.one 17 (.one 18 (.one 19 (.done)))))) (.nil)))) (.cons 13 (.many (.cons 12 (.one 14 (.one 16 (.one 17 (.one 18 (.one 19 (.done)))))) (.cons 14 (.one 12 (.one 16 (.one 17 (.one 18 (.one 19 (.done)))))) (.nil)))) (.cons 14 (.many (.cons 12 (.one 13 (.one 16 (.one 17 (.one 18 (.one 19 (.done)))))) (.cons 13 (.one 12 (.one 16 (.one 17 (.one 18 (.one 19 (.done)))))) (.nil)))) (.nil))))) (.nil))))))))))))))))))] (.cons (Js) (.cons (kD.g) (.cons (Rk.g) .nil))) .nil;refine Aw hΓ Tryz.func158 ?_;conv=>whnf
 repeat' ((first|apply Ap<;>intro _|apply An)<;>conv=>whnf)
 all_goals try exact⟨B9⟩
 refine⟨(p.y,p.x),⟨AE.refl _,AE.refl _,trivial⟩,⟨trivial⟩,fun rr hr=>?_⟩;replace hr:p.y - p.x=rr:=(hr.trans (rfl)).symm;subst hr;conv=>whnf
 repeat' ((first|apply Ap<;>intro _|apply An)<;>conv=>whnf)
 all_goals try exact⟨B0⟩
 refine⟨(q.y,q.x),⟨AE.refl _,AE.refl _,trivial⟩,⟨trivial⟩,fun rr hr=>?_⟩;replace hr:q.y - q.x=rr:=(hr.trans (rfl)).symm;subst hr;conv=>whnf
 repeat' ((first|apply Ap<;>intro _|apply An)<;>conv=>whnf)
 all_goals try exact⟨B0⟩
 refine⟨(p.y - p.x,q.y - q.x),⟨AE.refl _,AE.refl _,trivial⟩,⟨trivial⟩,fun rr hr=>?_⟩;replace hr:a=rr:=(hr.trans (ha.symm)).symm;subst hr;conv=>whnf
 repeat' ((first|apply Ap<;>intro _|apply An)<;>conv=>whnf)
 all_goals try exact⟨B0⟩
 refine⟨(p.y,p.x),⟨AE.refl _,AE.refl _,trivial⟩,⟨trivial⟩,fun rr hr=>?_⟩;replace hr:p.y+p.x=rr:=(hr.trans (rfl)).symm;subst hr;conv=>whnf
 repeat' ((first|apply Ap<;>intro _|apply An)<;>conv=>whnf)
 all_goals try exact⟨B0⟩
 refine⟨(q.y,q.x),⟨AE.refl _,AE.refl _,trivial⟩,⟨trivial⟩,fun rr hr=>?_⟩;replace hr:q.y+q.x=rr:=(hr.trans (rfl)).symm;subst hr;conv=>whnf
 repeat' ((first|apply Ap<;>intro _|apply An)<;>conv=>whnf)
 all_goals try exact⟨B0⟩
 refine⟨(p.y+p.x,q.y+q.x),⟨AE.refl _,AE.refl _,trivial⟩,⟨trivial⟩,fun rr hr=>?_⟩;replace hr:b=rr:=(hr.trans (hb.symm)).symm;subst hr;conv=>whnf
 repeat' ((first|apply Ap<;>intro _|apply An)<;>conv=>whnf)
 all_goals try exact⟨B0⟩
 refine⟨(p.t,k),⟨AE.refl _,AE.refl _,trivial⟩,⟨trivial⟩,fun rr hr=>?_⟩;replace hr:p.t*k=rr:=(hr.trans (rfl)).symm;subst hr;conv=>whnf
 repeat' ((first|apply Ap<;>intro _|apply An)<;>conv=>whnf)
 all_goals try exact⟨B0⟩
 refine⟨(p.t*k,q.t),⟨AE.refl _,AE.refl _,trivial⟩,⟨trivial⟩,fun rr hr=>?_⟩;replace hr:c1=rr:=(hr.trans (hc1.symm)).symm;subst hr;conv=>whnf
 repeat' ((first|apply Ap<;>intro _|apply An)<;>conv=>whnf)
 all_goals try exact⟨B0⟩
 obtain⟨c,hc⟩:∃c,c=c1+c1:=⟨_,rfl⟩;rw[←hc];refine⟨(c1,c1),⟨AE.refl _,AE.refl _,trivial⟩,⟨trivial⟩,fun rr hr=>?_⟩;replace hr:c=rr:=(hr.trans (hc.symm)).symm;subst hr;conv=>whnf
 repeat' ((first|apply Ap<;>intro _|apply An)<;>conv=>whnf)
 all_goals try exact⟨B0⟩
 refine⟨(p.z,q.z),⟨AE.refl _,AE.refl _,trivial⟩,⟨trivial⟩,fun rr hr=>?_⟩;replace hr:e1=rr:=(hr.trans (he1.symm)).symm;subst hr;conv=>whnf
 repeat' ((first|apply Ap<;>intro _|apply An)<;>conv=>whnf)
 all_goals try exact⟨B0⟩
 obtain⟨e,he⟩:∃e,e=e1+e1:=⟨_,rfl⟩;rw[←he];refine⟨(e1,e1),⟨AE.refl _,AE.refl _,trivial⟩,⟨trivial⟩,fun rr hr=>?_⟩;replace hr:e=rr:=(hr.trans (he.symm)).symm;subst hr;conv=>whnf
 repeat' ((first|apply Ap<;>intro _|apply An)<;>conv=>whnf)
 all_goals try exact⟨B0⟩
 obtain⟨h,hh⟩:∃h,h=b - a:=⟨_,rfl⟩;obtain⟨f,hf⟩:∃f,f=e - c:=⟨_,rfl⟩;obtain⟨g,hg⟩:∃g,g=e+c:=⟨_,rfl⟩;obtain⟨i,hi⟩:∃i,i=b+a:=⟨_,rfl⟩;rw[←hh,←hf,←hg,←hi];refine⟨(b,a),⟨AE.refl _,AE.refl _,trivial⟩,⟨trivial⟩,fun rr hr=>?_⟩;replace hr:h=rr:=(hr.trans (hh.symm)).symm;subst hr;conv=>whnf
 repeat' ((first|apply Ap<;>intro _|apply An)<;>conv=>whnf)
 all_goals try exact⟨B0⟩
 refine⟨(e,c),⟨AE.refl _,AE.refl _,trivial⟩,⟨trivial⟩,fun rr hr=>?_⟩;replace hr:f=rr:=(hr.trans (hf.symm)).symm;subst hr;conv=>whnf
 repeat' ((first|apply Ap<;>intro _|apply An)<;>conv=>whnf)
 all_goals try exact⟨B0⟩
 refine⟨(e,c),⟨AE.refl _,AE.refl _,trivial⟩,⟨trivial⟩,fun rr hr=>?_⟩;replace hr:g=rr:=(hr.trans (hg.symm)).symm;subst hr;conv=>whnf
 repeat' ((first|apply Ap<;>intro _|apply An)<;>conv=>whnf)
 all_goals try exact⟨B0⟩
 refine⟨(b,a),⟨AE.refl _,AE.refl _,trivial⟩,⟨trivial⟩,fun rr hr=>?_⟩;replace hr:i=rr:=(hr.trans (hi.symm)).symm;subst hr;conv=>whnf
 repeat' ((first|apply Ap<;>intro _|apply An)<;>conv=>whnf)
 all_goals try exact⟨B0⟩
 all_goals try exact trivial
 all_goals
  refine⟨(h,f),⟨AE.refl _,AE.refl _,trivial⟩,⟨trivial⟩,fun rr hr=>?_⟩;replace hr:h*f=rr:=(hr.trans (rfl)).symm;subst hr;conv=>whnf
  repeat' ((first|apply Ap<;>intro _|apply An)<;>conv=>whnf)
  all_goals try exact⟨B0⟩
 all_goals
  refine⟨(g,i),⟨AE.refl _,AE.refl _,trivial⟩,⟨trivial⟩,fun rr hr=>?_⟩;replace hr:g*i=rr:=(hr.trans (rfl)).symm;subst hr;conv=>whnf
  repeat' ((first|apply Ap<;>intro _|apply An)<;>conv=>whnf)
  all_goals try exact⟨B0⟩
 all_goals
  refine⟨(f,g),⟨AE.refl _,AE.refl _,trivial⟩,⟨trivial⟩,fun rr hr=>?_⟩;replace hr:f*g=rr:=(hr.trans (rfl)).symm;subst hr;conv=>whnf
  repeat' ((first|apply Ap<;>intro _|apply An)<;>conv=>whnf)
  all_goals try exact⟨B0⟩
 all_goals
  refine⟨(h,i),⟨AE.refl _,AE.refl _,trivial⟩,⟨trivial⟩,fun rr hr=>?_⟩;replace hr:h*i=rr:=(hr.trans (rfl)).symm;subst hr;conv=>whnf
  repeat' ((first|apply Ap<;>intro _|apply An)<;>conv=>whnf)
  all_goals try exact⟨B0⟩
 all_goals exact Ld.refl _
end Go.Proofs.YtaihjcpfjgpmoaaGreatDoor
