/- Part of the claim ModelPuts: N10, N11, N12, N13, N14, N15. -/
import Derived.Test.YtaihjcpfjgpmoaaGreatDoorDC
import Derived.Test.YtaihjcpfjgpmoaaGreatDoorE
import Derived.Test.YtaihjcpfjgpmoaaGreatDoorNA
set_option linter.unusedVariables false
set_option linter.unusedSimpArgs false
set_option maxRecDepth 100000
set_option maxHeartbeats 2000000
namespace Go.Proofs.YtaihjcpfjgpmoaaGreatDoor
open Go Go.DD Go.EE
def zeX:NL:=⟨fun _=>0,fun _ _=>Nat.two_pow_pos _⟩
def pt0:PX:=⟨zeX,zeX,zeX,zeX⟩
def qH:NL:=F9 (jM,jM)
theorem AM4:qH.e=dP+dP:=(zK (jM,jM)).trans (by show jM.e+jM.e=_;rw[AQj])
def ARv:A7:=Bf (fun(x:PX×PX)=>[aD x.1,aD x.2]) (fun _=>True) (fun x=>Ic x.1 x.2 qH) aD
theorem AAo:FOk Tryz.prog G 224 ARv:=A8 fun⟨p,q⟩ _=>by
 show CP _ _ _ [aD p,aD q] _
 have hΓ:=Ab Tryz.f224.ntmps _ _ [] (.cons (Xs.g) (.cons (Rf.g) (.cons (kK) .nil))) .nil;refine Aw hΓ Tryz.func224 ?_;conv=>whnf
 repeat' ((first|apply Ap<;>intro _|apply An)<;>conv=>whnf)
 all_goals try exact⟨B9⟩
 refine⟨(),trivial,⟨trivial⟩,fun r hr=>?_⟩;subst hr;conv=>whnf
 repeat' ((first|apply Ap<;>intro _|apply An)<;>conv=>whnf)
 all_goals try exact⟨B0⟩
 refine⟨(),trivial,⟨trivial⟩,fun r hr=>?_⟩;subst hr;conv=>whnf
 repeat' ((first|apply Ap<;>intro _|apply An)<;>conv=>whnf)
 all_goals try exact⟨B0⟩
 refine⟨(jM,jM),⟨AE.refl _,AE.refl _,trivial⟩,⟨trivial⟩,fun rr hr=>?_⟩;replace hr:qH=rr:=(hr.trans (rfl)).symm;subst hr;conv=>whnf
 repeat' ((first|apply Ap<;>intro _|apply An)<;>conv=>whnf)
 all_goals try exact⟨B0⟩
 generalize qH=k at*;refine⟨(p,q,k),⟨AE.refl _,AE.refl _,AE.refl _,trivial⟩,⟨trivial⟩,fun r hr=>?_⟩;subst hr;conv=>whnf
 repeat' ((first|apply Ap<;>intro _|apply An)<;>conv=>whnf)
 all_goals try exact⟨B0⟩
 exact Ld.refl _
def P1(n:Nat)(p:PX):Nat→PX|0=>noX|k+1=>if Jm n (255 - k)then Ic (Ic (P1 n p k) (P1 n p k) qH) p qH else Ic (P1 n p k) (P1 n p k) qH
theorem iH(n:Nat)(p:PX):∀k,(P1 n p k).e=tm (dP+dP) p.e n k
 |0=>AVq
 |k+1=>by
  rw[P1,tm,Jm]
  by_cases h:n/2^(255 - k)%2=1
  ·rw[decide_eq_true h,if_pos rfl,if_pos h,fG,fG,AM4,iH n p k]
  ·rw[decide_eq_false h,if_neg (by decide),if_neg h,fG,AM4,iH n p k]
def ARw:A7:=Bf (fun(x:Av×PX)=>[Cb x.1.val,aD x.2]) (fun _=>True) (fun x=>P1 x.1.val x.2 256) aD
theorem kP:FOk Tryz.prog G 141 ARw:=A8 fun⟨⟨e,he⟩,p⟩ _=>by
 show CP _ _ _ [Cb e,aD p] _
 have hΓ:=Ab Tryz.f141.ntmps _ _ [] (.cons (Xs.g) (.cons (Rf.g) (.cons (kK) (.cons (AAi.g) .nil)))) .nil;refine Aw hΓ Tryz.func141 ?_;conv=>whnf
 repeat' ((first|apply Ap<;>intro _|apply An)<;>conv=>whnf)
 all_goals try exact⟨B9⟩
 refine⟨(),trivial,⟨trivial⟩,fun r hr=>?_⟩;subst hr;conv=>whnf
 repeat' ((first|apply Ap<;>intro _|apply An)<;>conv=>whnf)
 all_goals try exact⟨B0⟩
 refine⟨(),trivial,⟨trivial⟩,fun r hr=>?_⟩;subst hr;conv=>whnf
 repeat' ((first|apply Ap<;>intro _|apply An)<;>conv=>whnf)
 all_goals try exact⟨B0⟩
 refine⟨(),trivial,⟨trivial⟩,fun r hr=>?_⟩;subst hr;conv=>whnf
 repeat' ((first|apply Ap<;>intro _|apply An)<;>conv=>whnf)
 all_goals try exact⟨B0⟩
 refine⟨(jM,jM),⟨AE.refl _,AE.refl _,trivial⟩,⟨trivial⟩,fun rr hr=>?_⟩;replace hr:qH=rr:=(hr.trans (rfl)).symm;subst hr;conv=>whnf
 repeat' ((first|apply Ap<;>intro _|apply An)<;>conv=>whnf)
 all_goals try exact⟨B0⟩
 refine A4 (ι:=Nat) (fun k=>[(2, .ref 0 []),(3, .ref 1 []),(4, .ref 2 []),(5, .ref 3 []),(6, .ref 4 []),(7, .int .i64 (255 - (k:Int)))]) (fun k=>[some (Cb e),some (aD p),some (aD pt0),some (aD (P1 e p k)),some (l5 qH)]) (fun k=>k≤256) (fun k=>256 - k) 0 [some 0,some 1,some 2,some 3,some 4] ?_ (fun i hi=>vo hΓ ?_)
 ·conv=>whnf
  repeat' ((first|apply Ap<;>intro _|apply An)<;>conv=>whnf)
  all_goals try exact⟨Ba⟩
 ·conv=>whnf
  apply Ap<;>intro h3<;>conv=>whnf
  ·have hin:i<256:=by
    have:(0:Int)≤255 - (i:Int):=by simpa using h3
    omega
   have hn:(255:Int) - (i:Int)=((255 - i:Nat):Int):=by omega
   have hp:P1 e p (i+1)=if Jm e (255 - i)then Ic (Ic (P1 e p i) (P1 e p i) qH) p qH else Ic (P1 e p i) (P1 e p i) qH:=rfl;have e1:IntKind.i64.wrap (Int.tdiv (255 - (i:Int)) 8)=(((255 - i)/8:Nat):Int):=by rw[hn];exact Fo (by omega)
   have e2:Int.tmod (255 - (i:Int)) 8=(((255 - i)%8:Nat):Int):=by rw[hn,Int.tmod_eq_emod_of_nonneg (by omega)];omega
   have hb:(Ag .and .u8 (Bt .u8 ((Hh e (IntKind.i64.wrap (Int.tdiv (255 - (i:Int)) 8)).toNat:Nat):Int) (Int.tmod (255 - (i:Int)) 8)) 1==1)=Jm e (255 - i):=by rw[e1,e2,Int.toNat_natCast];exact ALt
   generalize qH=tw at*;generalize P1 e p i=q at*;conv=>whnf
   repeat' ((first|apply Ap<;>intro _|apply An)<;>conv=>whnf)
   all_goals try exact⟨B9⟩
   refine⟨(q,q,tw),⟨AE.refl _,AE.refl _,AE.refl _,trivial⟩,⟨trivial⟩,fun rr hr=>?_⟩;replace hr:Ic q q tw=rr:=(hr.trans (rfl)).symm;subst hr;conv=>whnf
   repeat' ((first|apply Ap<;>intro _|apply An)<;>conv=>whnf)
   all_goals try exact⟨B0⟩
   ·rename_i hc;rw[if_pos (hb.symm.trans hc)]at hp;refine⟨(Ic q q tw,p,tw),⟨AE.refl _,AE.refl _,AE.refl _,trivial⟩,⟨trivial⟩,fun rr hr=>?_⟩;replace hr:Ic (Ic q q tw) p tw=rr:=(hr.trans (rfl)).symm;subst hr;conv=>whnf
    repeat' ((first|apply Ap<;>intro _|apply An)<;>conv=>whnf)
    all_goals try exact⟨B0⟩
    rw[←hp];refine⟨i+1,[some 0,some 1,some 2,some 3,some 4],?_⟩;conv=>whnf
    repeat' (apply An<;>conv=>whnf)
    all_goals try exact⟨Ba⟩
    all_goals exact⟨by rw[A3 (by omega) (by omega)];omega⟩
   ·rename_i hc;rw[if_neg (by rw[hb.symm.trans hc];decide)]at hp;rw[←hp];refine⟨i+1,[some 0,some 1,some 2,some 3,some 4],?_⟩;conv=>whnf
    repeat' (apply An<;>conv=>whnf)
    all_goals try exact⟨Ba⟩
    all_goals exact⟨by rw[A3 (by omega) (by omega)];omega⟩
  ·have hin:i=256:=by
    have:¬(0:Int)≤255 - (i:Int):=by simpa using h3
    omega
   subst hin;refine vo hΓ ?_;conv=>whnf
   repeat' ((first|apply Ap<;>intro _|apply An)<;>conv=>whnf)
   all_goals try exact⟨B9⟩
   exact Ld.refl _
theorem ABc{m k:Nat}(hm:m<2^255)(hk:k<32):(if k=31 then V.int .u8 (Ag .or .u8 ((Hh m 31:Nat):Int) 128)else bv m k)=bv (m+2^255*1) k:=by
 by_cases h:k=31
 ·subst h;rw[if_pos rfl];have h1:m/2^248<128:=Nat.div_lt_of_lt_mul (Nat.lt_of_lt_of_le hm (by decide));have h2:Hh m 31=m/2^248:=Nat.mod_eq_of_lt (by omega)
  have h3:Hh (m+2^255*1) 31=m/2^248+128:=by
   show(m+2^255*1)/2^248%256=_
   omega
  have hb:∀x:Fin 128,Ag .or .u8 ((x.val:Nat):Int) 128=((x.val+128:Nat):Int):=by decide
  unfold bv;rw[h3,h2,hb ⟨_,h1⟩]
 ·rw[if_neg h];unfold bv
  congr 2
  show m/2^(8*k)%256=(m+2^255*1)/2^(8*k)%256
  have h2:(2:Nat)^255=2^(8*k)*(256*2^(247 - 8*k)):=by rw[show(256:Nat)=2^8 from rfl,←Nat.pow_add,←Nat.pow_add];congr 1;omega
  rw[Nat.mul_one,h2,Nat.add_mul_div_left _ _ (Nat.two_pow_pos _),Nat.add_mul_mod_self_left]
theorem ABo{m k:Nat}(hm:m<2^256)(hk:k<32):(if k=31 then V.int .u8 (Ag .and .u8 ((Hh m 31:Nat):Int) 127)else bv m k)=bv (m%2^255) k:=by
 by_cases h:k=31
 ·subst h;rw[if_pos rfl];have h1:m/2^248<256:=Nat.div_lt_of_lt_mul (Nat.lt_of_lt_of_le hm (by decide));have h2:Hh m 31=m/2^248:=Nat.mod_eq_of_lt (by omega)
  have h3:Hh (m%2^255) 31=m/2^248%128:=by
   show(m%2^255)/2^248%256=_
   omega
  have hb:∀x:Fin 256,Ag .and .u8 ((x.val:Nat):Int) 127=((x.val%128:Nat):Int):=by decide
  unfold bv;rw[h3,h2,hb ⟨_,h1⟩]
 ·rw[if_neg h];unfold bv
  congr 2
  show m/2^(8*k)%256=(m%2^255)/2^(8*k)%256
  have h2:(2:Nat)^255=2^(8*k)*(256*2^(247 - 8*k)):=by rw[show(256:Nat)=2^8 from rfl,←Nat.pow_add,←Nat.pow_add];congr 1;omega
  rw[h2,Nat.mod_mul_right_div_self,Nat.mod_mul_right_mod]
def Ni(m:Nat):Bool:=decide (m/2^255=1)
theorem AJn{m:Nat}(hm:m<2^256):((Bt .u8 ((Hh m 31:Nat):Int) 7)==1)=Ni m:=by
 have h1:m/2^248<256:=Nat.div_lt_of_lt_mul (Nat.lt_of_lt_of_le hm (by decide));have h2:Hh m 31=m/2^248:=Nat.mod_eq_of_lt (by omega);have hb:∀x:Fin 256,((Bt .u8 ((x.val:Nat):Int) 7)==1)=decide (x.val/128=1):=by decide
 rw[h2,hb ⟨_,h1⟩,Ni];refine decide_eq_decide.2 ?_
 show m/2^248/128=1↔_
 omega
theorem oM(q:Pt P):J7 q<2^256:=by
 have h1:=q.y.isLt;have h2:=nJ;unfold J7
 have:q.x.val%2<2:=Nat.mod_lt _ (by decide)
 omega
theorem Qq{c:Prop}[Decidable c]{a b:V}(ha:own a)(hb:own b):own (if c then a else b):=by split<;>assumption
def ARh:A7:=Bf (fun(p:PX)=>[aD p]) (fun _=>True) (fun p=>Ma p.e) Cb
theorem Xu:FOk Tryz.prog G 143 ARh:=A8 fun p _=>by
 show CP _ _ _ [aD p] _
 have hE:Ma p.e=(Bm (p.y,gI p.z)).e.val+2^255*((Bm (p.x,gI p.z)).e.val%2):=by
  rw[Nu,Nu,AK7];rfl
 have hl:(Bm (p.y,gI p.z)).e.val<2^255:=Nat.lt_trans (Fin.isLt _) nJ;rw[hE];clear hE;have hΓ:=Ab Tryz.f143.ntmps _ _ [] (.cons (kG.g) (.cons (Rg.g) (.cons (Nz.g) (.cons (kH.g) .nil)))) .nil;refine Aw hΓ Tryz.func143 ?_;conv=>whnf
 repeat' ((first|apply Ap<;>intro _|apply An)<;>conv=>whnf)
 all_goals try exact⟨B9⟩
 refine⟨p.z,⟨AE.refl _,trivial⟩,⟨trivial⟩,fun r hr=>?_⟩;subst hr;conv=>whnf
 repeat' ((first|apply Ap<;>intro _|apply An)<;>conv=>whnf)
 all_goals try exact⟨B0⟩
 generalize gI p.z=z at*;refine⟨(p.y,z),⟨AE.refl _,AE.refl _,trivial⟩,⟨trivial⟩,fun r hr=>?_⟩;subst hr;conv=>whnf
 repeat' ((first|apply Ap<;>intro _|apply An)<;>conv=>whnf)
 all_goals try exact⟨B0⟩
 generalize Bm (p.y,z)=y at*;refine⟨y,⟨AE.refl _,trivial⟩,⟨trivial⟩,fun rr hr=>?_⟩;replace hr:y.e.val=rr:=(hr.trans (rfl)).symm;subst hr;conv=>whnf
 repeat' ((first|apply Ap<;>intro _|apply An)<;>conv=>whnf)
 all_goals try exact⟨B0⟩
 generalize y.e.val=n at*;refine⟨(p.x,z),⟨AE.refl _,AE.refl _,trivial⟩,⟨trivial⟩,fun r hr=>?_⟩;subst hr;conv=>whnf
 repeat' ((first|apply Ap<;>intro _|apply An)<;>conv=>whnf)
 all_goals try exact⟨B0⟩
 generalize Bm (p.x,z)=x at*;refine⟨x,⟨AE.refl _,trivial⟩,⟨trivial⟩,fun rr hr=>?_⟩;replace hr:decide (x.e.val%2=1)=rr:=(hr.trans (rfl)).symm;subst hr;conv=>whnf
 repeat' ((first|apply Ap<;>intro _|apply An)<;>conv=>whnf)
 all_goals try exact⟨B0⟩
 ·exact⟨fun k _=>Qq trivial trivial⟩
 ·rename_i hc;replace hc:x.e.val%2=1:=of_decide_eq_true hc;rw[hc];exact Ld.row fun k hk=>ABc hl hk
 ·rename_i hc;replace hc:¬x.e.val%2=1:=of_decide_eq_false hc;rw[show x.e.val%2=0 by omega,Nat.mul_zero,Nat.add_zero];exact Ld.refl _
def loN(m:Av):Av:=⟨m.val%2^255,Nat.lt_trans (Nat.mod_lt _ (by decide)) (by decide)⟩
def xG(y:NL):NL:=Bm (y,y)
def aX(yy:NL):NL:=Bm (Gh (yy,Ft 1),gI (F9 (Bm (jM,yy),Ft 1)))
def nY(odd:Bool)(r:NL×Bool):Bool:= !r.2||(odd&&decide (r.1.e=(Ft 0).e))
def Oy(odd:Bool)(r:NL):NL:=if(decide (r.e.val%2=1) !=odd)=true then Gh (Ft 0,r)else r
def bZ(x y:NL):PX:=⟨x,y,Ft 1,Bm (x,y)⟩
def kV(y:NL)(odd:Bool)(r:NL×Bool):PX×Bool:=if nY odd r=true then(pt0,false)else(bZ (Oy odd r.1) y,true)
def K8(m:Av):PX×Bool:=if(pQ (loN m)).e.val=(loN m).val then kV (pQ (loN m)) (Ni m.val) (V1 (aX (xG (pQ (loN m)))))else(pt0,false)
def ptB(r:PX×Bool):V:= .tup (.cons (aD r.1) (.cons (.bool r.2) .nil))
def ARy:A7:=Bf (fun(m:Av)=>[Cb m.val]) (fun _=>True) K8 ptB
theorem cY{n:Nat}{f g g':Nat→V}(h:∀k,k<n→g k=g' k):De n f g=De n f g':=by
 unfold De;rw[Bool.eq_iff_iff,List.all_eq_true,List.all_eq_true]
 constructor<;>intro h1 k hk
 ·rw[←h k (List.mem_range.1 hk)];exact h1 k hk
 ·rw[h k (List.mem_range.1 hk)];exact h1 k hk
theorem Lq{c:Prop}[Decidable c]{a b:V}(ha:Br a)(hb:Br b):Br (if c then a else b):=by split<;>assumption
theorem ABg{c:Prop}[Decidable c]{k:IntKind}{a b:V}(ha:Y8 k a=true)(hb:Y8 k b=true):Y8 k (if c then a else b)=true:=by split<;>assumption
theorem ACq{a:Nat}{n:Av}{g:Nat→V}(ha:a<2^256)(h:∀k,k<32→g k=bv n.val k):(!De 32 (bv a) g)= !decide (a=n.val):=by rw[cY h,Wn ha n.isLt]
theorem Rl:FOk Tryz.prog G 191 ARy:=A8 fun m _=>by
 obtain⟨n,hn,hu⟩:∃n:Av,n=loN m∧K8 m=if(pQ n).e.val=n.val then kV (pQ n) (Ni m.val) (V1 (aX (xG (pQ n))))else(pt0,false):=⟨_,rfl,rfl⟩;have cD:∀k,k<32→(if k=31 then V.int .u8 (Ag .and .u8 ((Hh m.val 31:Nat):Int) 127)else bv m.val k)=bv n.val k:=fun k hk=>by rw[hn];exact ABo m.isLt hk
 have hor:(Bt .u8 ((Hh m.val (Int.toNat 31):Nat):Int) 7==1)=Ni m.val:=AJn m.isLt;rw[hu];clear hu hn;have hΓ:=Ab Tryz.f191.ntmps _ _ [] (.cons (sK.g) (.cons (Rg.g) (.cons (Nz.g) (.cons (Rj.g) (.cons (kO.g) (.cons (Rf.g) (.cons (Xs.g) (.cons (kG.g) (.cons (AAl.g) (.cons (kN.g) (.cons (kH.g) .nil))))))))))) .nil;refine Aw hΓ Tryz.func191 ?_;conv=>whnf
 repeat' ((first|apply Ap<;>intro _|apply An)<;>conv=>whnf)
 all_goals try first|exact⟨B9⟩|exact⟨fun k _=>Qq trivial trivial⟩
 ·exact⟨fun k _=>Lq (c:=k=Int.toNat 31) (a:=V.int .u8 _) (b:=V.int .u8 _) trivial trivial⟩
 refine⟨n,⟨AE.row cD,trivial⟩,⟨trivial⟩,fun r hr=>?_⟩;subst hr;generalize pQ n=y at*;conv=>whnf
 repeat' ((first|apply Ap<;>intro _|apply An)<;>conv=>whnf)
 all_goals try first|exact⟨B9⟩|exact⟨fun k _=>Qq trivial trivial⟩
 refine⟨y,⟨AE.refl _,trivial⟩,⟨trivial⟩,fun rr hr=>?_⟩;replace hr:y.e.val=rr:=(hr.trans (rfl)).symm;subst hr;conv=>whnf
 repeat' ((first|apply Ap<;>intro _|apply An)<;>conv=>whnf)
 all_goals try exact⟨B0⟩
 ·exact⟨fun _ _=>rfl⟩
 ·exact⟨fun k _=>ABg (a:=V.int .u8 _) (b:=V.int .u8 _) rfl rfl⟩
 ·rename_i hc;replace hc:=(ACq (AF1 y) cD).symm.trans hc;have hc:¬y.e.val=n.val:=by simpa using hc
  rw[if_neg hc];exact Ld.of rfl
 rename_i hc;replace hc:=(ACq (AF1 y) cD).symm.trans hc;have hc:y.e.val=n.val:=by simpa using hc
 rw[if_pos hc];clear hc cD;refine⟨(y,y),⟨AE.refl _,AE.refl _,trivial⟩,⟨trivial⟩,fun r hr=>?_⟩;subst hr;conv=>whnf
 repeat' ((first|apply Ap<;>intro _|apply An)<;>conv=>whnf)
 all_goals try exact⟨B0⟩
 obtain⟨yy,hyy⟩:∃yy,yy=Bm (y,y):=⟨_,rfl⟩;rw[show xG y=yy from hyy.symm];rw[←hyy];clear hyy;refine⟨1,⟨AE.of rfl,trivial⟩,⟨trivial⟩,fun r hr=>?_⟩;subst hr;conv=>whnf
 repeat' ((first|apply Ap<;>intro _|apply An)<;>conv=>whnf)
 all_goals try exact⟨B0⟩
 refine⟨(yy,Ft 1),⟨AE.refl _,AE.refl _,trivial⟩,⟨trivial⟩,fun r hr=>?_⟩;subst hr;conv=>whnf
 repeat' ((first|apply Ap<;>intro _|apply An)<;>conv=>whnf)
 all_goals try exact⟨B0⟩
 refine⟨(),trivial,⟨trivial⟩,fun r hr=>?_⟩;subst hr;conv=>whnf
 repeat' ((first|apply Ap<;>intro _|apply An)<;>conv=>whnf)
 all_goals try exact⟨B0⟩
 refine⟨(jM,yy),⟨AE.refl _,AE.refl _,trivial⟩,⟨trivial⟩,fun r hr=>?_⟩;subst hr;conv=>whnf
 repeat' ((first|apply Ap<;>intro _|apply An)<;>conv=>whnf)
 all_goals try exact⟨B0⟩
 refine⟨1,⟨AE.of rfl,trivial⟩,⟨trivial⟩,fun r hr=>?_⟩;subst hr;conv=>whnf
 repeat' ((first|apply Ap<;>intro _|apply An)<;>conv=>whnf)
 all_goals try exact⟨B0⟩
 refine⟨(Bm (jM,yy),Ft 1),⟨AE.refl _,AE.refl _,trivial⟩,⟨trivial⟩,fun r hr=>?_⟩;subst hr;conv=>whnf
 repeat' ((first|apply Ap<;>intro _|apply An)<;>conv=>whnf)
 all_goals try exact⟨B0⟩
 refine⟨(F9 (Bm (jM,yy),Ft 1)),⟨AE.refl _,trivial⟩,⟨trivial⟩,fun r hr=>?_⟩;subst hr;conv=>whnf
 repeat' ((first|apply Ap<;>intro _|apply An)<;>conv=>whnf)
 all_goals try exact⟨B0⟩
 refine⟨(Gh (yy,Ft 1),gI (F9 (Bm (jM,yy),Ft 1))),⟨AE.refl _,AE.refl _,trivial⟩,⟨trivial⟩,fun rr hr=>?_⟩;replace hr:aX yy=rr:=(hr.trans (rfl)).symm;subst hr;conv=>whnf
 repeat' ((first|apply Ap<;>intro _|apply An)<;>conv=>whnf)
 all_goals try exact⟨B0⟩
 generalize aX yy=a at*;obtain⟨rt,hrt⟩:∃rt,rt=V1 a:=⟨_,rfl⟩;rw[←hrt];refine⟨a,⟨AE.refl _,trivial⟩,⟨trivial⟩,fun rr hr=>?_⟩;replace hr:rt=rr:=(hr.trans (hrt.symm)).symm;subst hr;conv=>whnf
 repeat' ((first|apply Ap<;>intro _|apply An)<;>conv=>whnf)
 all_goals try exact⟨B0⟩
 ·rename_i hc;rw[show kV y (Ni m.val) rt=(pt0,false)from if_pos (by rw[nY,hc];rfl)];exact Ld.of rfl
 ·rename_i hc1 hc2;have ho:Ni m.val=true:=hor.symm.trans hc2;have h2:rt.2=true:=by simpa using hc1
  refine⟨0,⟨AE.of rfl,trivial⟩,⟨trivial⟩,fun r hr=>?_⟩;subst hr;conv=>whnf
  repeat' ((first|apply Ap<;>intro _|apply An)<;>conv=>whnf)
  all_goals try exact⟨B0⟩
  refine⟨(rt.1,Ft 0),⟨AE.refl _,AE.refl _,trivial⟩,⟨trivial⟩,fun rr hr=>?_⟩;replace hr:decide (rt.1.e=(Ft 0).e)=rr:=(hr.trans (rfl)).symm;subst hr;conv=>whnf
  repeat' ((first|apply Ap<;>intro _|apply An)<;>conv=>whnf)
  all_goals try exact⟨B0⟩
  ·rename_i hc;rw[show kV y (Ni m.val) rt=(pt0,false)from if_pos (by rw[nY,ho,hc,Bool.true_and,Bool.or_true])];exact Ld.of rfl
  ·rename_i hc;have hfin:kV y (Ni m.val) rt=(bZ (Oy (Ni m.val) rt.1) y,true):=if_neg (by rw[nY,h2,hc,Bool.and_false];decide);refine⟨rt.1,⟨AE.refl _,trivial⟩,⟨trivial⟩,fun rr hr=>?_⟩;replace hr:decide (rt.1.e.val%2=1)=rr:=(hr.trans (rfl)).symm;subst hr;conv=>whnf
   repeat' ((first|apply Ap<;>intro _|apply An)<;>conv=>whnf)
   all_goals try exact⟨B0⟩
   ·rename_i hc;rw[hor]at hc;rw[hfin,show Oy (Ni m.val) rt.1=Gh (Ft 0,rt.1)from if_pos hc];refine⟨0,⟨AE.of rfl,trivial⟩,⟨trivial⟩,fun r hr=>?_⟩;subst hr;conv=>whnf
    repeat' ((first|apply Ap<;>intro _|apply An)<;>conv=>whnf)
    all_goals try exact⟨B0⟩
    refine⟨(Ft 0,rt.1),⟨AE.refl _,AE.refl _,trivial⟩,⟨trivial⟩,fun r hr=>?_⟩;subst hr;conv=>whnf
    repeat' ((first|apply Ap<;>intro _|apply An)<;>conv=>whnf)
    all_goals try exact⟨B0⟩
    generalize Gh (Ft 0,rt.1)=x at*;refine⟨1,⟨AE.of rfl,trivial⟩,⟨trivial⟩,fun r hr=>?_⟩;subst hr;conv=>whnf
    repeat' ((first|apply Ap<;>intro _|apply An)<;>conv=>whnf)
    all_goals try exact⟨B0⟩
    refine⟨(x,y),⟨AE.refl _,AE.refl _,trivial⟩,⟨trivial⟩,fun r hr=>?_⟩;subst hr;conv=>whnf
    repeat' ((first|apply Ap<;>intro _|apply An)<;>conv=>whnf)
    all_goals try exact⟨B0⟩
    exact Ld.refl _
   ·rename_i hc;rw[hor]at hc;rw[hfin,show Oy (Ni m.val) rt.1=rt.1 from if_neg (fun h=>absurd (hc.symm.trans h) (by decide))]
    refine⟨1,⟨AE.of rfl,trivial⟩,⟨trivial⟩,fun r hr=>?_⟩;subst hr;conv=>whnf
    repeat' ((first|apply Ap<;>intro _|apply An)<;>conv=>whnf)
    all_goals try exact⟨B0⟩
    refine⟨(rt.1,y),⟨AE.refl _,AE.refl _,trivial⟩,⟨trivial⟩,fun r hr=>?_⟩;subst hr;conv=>whnf
    repeat' ((first|apply Ap<;>intro _|apply An)<;>conv=>whnf)
    all_goals try exact⟨B0⟩
    exact Ld.refl _
 ·rename_i hc1 hc2;have ho:Ni m.val=false:=hor.symm.trans hc2;have h2:rt.2=true:=by simpa using hc1
  have hfin:kV y (Ni m.val) rt=(bZ (Oy (Ni m.val) rt.1) y,true):=if_neg (by rw[nY,h2,ho,Bool.false_and];decide);refine⟨rt.1,⟨AE.refl _,trivial⟩,⟨trivial⟩,fun rr hr=>?_⟩;replace hr:decide (rt.1.e.val%2=1)=rr:=(hr.trans (rfl)).symm;subst hr;conv=>whnf
  repeat' ((first|apply Ap<;>intro _|apply An)<;>conv=>whnf)
  all_goals try exact⟨B0⟩
  ·rename_i hc;rw[hor]at hc;rw[hfin,show Oy (Ni m.val) rt.1=Gh (Ft 0,rt.1)from if_pos hc];refine⟨0,⟨AE.of rfl,trivial⟩,⟨trivial⟩,fun r hr=>?_⟩;subst hr;conv=>whnf
   repeat' ((first|apply Ap<;>intro _|apply An)<;>conv=>whnf)
   all_goals try exact⟨B0⟩
   refine⟨(Ft 0,rt.1),⟨AE.refl _,AE.refl _,trivial⟩,⟨trivial⟩,fun r hr=>?_⟩;subst hr;conv=>whnf
   repeat' ((first|apply Ap<;>intro _|apply An)<;>conv=>whnf)
   all_goals try exact⟨B0⟩
   generalize Gh (Ft 0,rt.1)=x at*;refine⟨1,⟨AE.of rfl,trivial⟩,⟨trivial⟩,fun r hr=>?_⟩;subst hr;conv=>whnf
   repeat' ((first|apply Ap<;>intro _|apply An)<;>conv=>whnf)
   all_goals try exact⟨B0⟩
   refine⟨(x,y),⟨AE.refl _,AE.refl _,trivial⟩,⟨trivial⟩,fun r hr=>?_⟩;subst hr;conv=>whnf
   repeat' ((first|apply Ap<;>intro _|apply An)<;>conv=>whnf)
   all_goals try exact⟨B0⟩
   exact Ld.refl _
  ·rename_i hc;rw[hor]at hc;rw[hfin,show Oy (Ni m.val) rt.1=rt.1 from if_neg (fun h=>absurd (hc.symm.trans h) (by decide))]
   refine⟨1,⟨AE.of rfl,trivial⟩,⟨trivial⟩,fun r hr=>?_⟩;subst hr;conv=>whnf
   repeat' ((first|apply Ap<;>intro _|apply An)<;>conv=>whnf)
   all_goals try exact⟨B0⟩
   refine⟨(rt.1,y),⟨AE.refl _,AE.refl _,trivial⟩,⟨trivial⟩,fun r hr=>?_⟩;subst hr;conv=>whnf
   repeat' ((first|apply Ap<;>intro _|apply An)<;>conv=>whnf)
   all_goals try exact⟨B0⟩
   exact Ld.refl _
theorem AKj:(Ft 1).e=1:=by decide
theorem ADl:(Ft 0).e=0:=by decide
theorem mT{n:Nat}[NeZero n](x:Fin n):0 - x= -x:=by grind(splits:=0)
theorem AOm{odd:Bool}{r:NL}{n:Nat}(hn:n<2)(ho:odd=decide (n=1)):(Oy odd r).e=if r.e.val%2=n then r.e else -r.e:=by
 have h2:r.e.val%2<2:=Nat.mod_lt _ (by decide)
 have key:((decide (r.e.val%2=1) !=odd)=true)↔¬r.e.val%2=n:=by
  rw[ho,bne_iff_ne,ne_eq,decide_eq_decide];omega
 unfold Oy
 by_cases h:r.e.val%2=n
 ·rw[if_neg (fun h1=>key.1 h1 h),if_pos h]
 ·rw[if_pos (key.2 h),if_neg h,zL,ADl];exact mT _
theorem Zn(m:Av):(∃q,Cn m.val=some q∧(K8 m).2=true∧(K8 m).1.e=Lk q)∨(Cn m.val=none∧K8 m=(pt0,false)):=by
 by_cases hy:m.val%2^255<P
 ·have e1:(pQ (loN m)).e=⟨m.val%2^255,hy⟩:=(AQk _).trans (Fin.ext (Nat.mod_eq_of_lt hy));obtain⟨y,hyy⟩:∃y:Fp,y=⟨m.val%2^255,hy⟩:=⟨_,rfl⟩
  have hd:Cn m.val=if Cv ((y*y - 1)*inv (dP*(y*y)+1))*Cv ((y*y - 1)*inv (dP*(y*y)+1))≠(y*y - 1)*inv (dP*(y*y)+1)∨(Cv ((y*y - 1)*inv (dP*(y*y)+1))=0∧m.val/2^255=1)then none else some ⟨if(Cv ((y*y - 1)*inv (dP*(y*y)+1))).val%2=m.val/2^255 then Cv ((y*y - 1)*inv (dP*(y*y)+1))else -Cv ((y*y - 1)*inv (dP*(y*y)+1)),y⟩:=by
   unfold Cn;rw[dif_pos hy,hyy]
  have hu:K8 m=kV (pQ (loN m)) (Ni m.val) (V1 (aX (xG (pQ (loN m))))):=if_pos (congrArg Fin.val e1);rw[←hyy]at e1;generalize pQ (loN m)=Y at*;have ha:(aX (xG Y)).e=(y*y - 1)*inv (dP*(y*y)+1):=by simp only[aX,xG,Nu,zL,AK7,zK,AQj,e1,AKj]
  have hr:(Oq (aX (xG Y))).e=Cv ((y*y - 1)*inv (dP*(y*y)+1)):=(AM3 _).trans (congrArg Cv ha);have hR:V1 (aX (xG Y))=(Oq (aX (xG Y)),decide ((Bm (Oq (aX (xG Y)),Oq (aX (xG Y)))).e=(aX (xG Y)).e)):=rfl;rw[Nu,hr,ha]at hR;generalize Oq (aX (xG Y))=R at*
  generalize(y*y - 1)*inv (dP*(y*y)+1)=a at*
  generalize Cv a=r at*;rw[hR]at hu
  have hbad:nY (Ni m.val) (R,decide (r*r=a))=true↔(r*r≠a∨(r=0∧m.val/2^255=1)):=by
   unfold nY Ni;rw[Bool.or_eq_true,Bool.and_eq_true,Bool.not_eq_true',decide_eq_false_iff_not,decide_eq_true_eq,decide_eq_true_eq,hr,ADl,and_comm]
  by_cases hb:r*r≠a∨(r=0∧m.val/2^255=1)
  ·refine .inr ⟨hd.trans (if_pos hb),hu.trans (if_pos (hbad.2 hb))⟩
  ·rw[if_neg hb]at hd;rw[show kV Y (Ni m.val) (R,decide (r*r=a))=(bZ (Oy (Ni m.val) R) Y,true)from if_neg (fun h=>hb (hbad.1 h))]at hu;refine .inl ⟨_,hd,by rw[hu],?_⟩;rw[hu];have hm:m.val/2^255<2:=Nat.div_lt_of_lt_mul (Nat.lt_of_lt_of_le m.isLt (by decide));have hs:=AOm (r:=R) hm (odd:=Ni m.val) rfl;rw[hr]at hs
   show PX.e (bZ (Oy (Ni m.val) R) Y)=_
   simp only[PX.e,bZ,Lk,Nu,hs,e1,AKj]
 ·refine .inr ⟨by unfold Cn;rw[dif_neg hy],if_neg fun h=>hy ?_⟩;have h1:(pQ (loN m)).e.val<P:=Fin.isLt _;rw[h]at h1;exact h1
def fB:Av:=⟨J7 bP,oM bP⟩
theorem AMy:J7 bP=46316835694926478169428394003475163141307993866256225615783033603165251855960:=by decide+kernel
def bsX:PX:=(K8 fB).1
theorem AVp:bsX.e=Lk bP:=by
 rcases Zn fB with⟨q,h1,h2,h3⟩|⟨h1,h2⟩
 ·have:=h1.symm.trans (Ph No)
  cases this
  exact h3
 ·cases h1.symm.trans (Ph No)
theorem AGj:FOk Tryz.prog G 169 (Bf (fun(m:Av)=>[Cb m.val]) (fun _=>True) (fun m=>(Cn m.val).isSome) .bool):=A8 fun m _=>by
 have hu:(K8 m).2=(Cn m.val).isSome:=by
  rcases Zn m with⟨q,h1,h2,h3⟩|⟨h1,h2⟩
  ·rw[h1,h2];rfl
  ·rw[h1,h2];rfl
 rw[←hu];clear hu;have hΓ:=Ab Tryz.f169.ntmps _ _ [] (.cons (Rl) .nil) .nil;refine Aw hΓ Tryz.func169 ?_;conv=>whnf
 repeat' ((first|apply Ap<;>intro _|apply An)<;>conv=>whnf)
 all_goals try exact⟨B9⟩
 obtain⟨r,hu⟩:∃r,r=K8 m:=⟨_,rfl⟩;rw[←hu];refine⟨m,⟨AE.refl _,trivial⟩,⟨trivial⟩,fun rr hr=>?_⟩;replace hr:r=rr:=(hr.trans (hu.symm)).symm;subst hr;conv=>whnf
 repeat' ((first|apply Ap<;>intro _|apply An)<;>conv=>whnf)
 all_goals try exact⟨B0⟩
 exact Ld.refl _
def bsF(i k:Nat):Nat:=if k=0 then 88 else if k<i then 102 else 0
theorem AEm:∀k,k<32→bsF 32 k=Hh fB.val k:=by
 rw[show fB.val=J7 bP from rfl,AMy]
 decide+kernel
def AQy:A7:=Bf (fun(_:Unit)=>[]) (fun _=>True) (fun _=>bsX) aD
theorem AAe:FOk Tryz.prog G 142 AQy:=A8 fun _ _=>by
 have hend:∀k,k<32→nb (bsF 32) k=bv fB.val k:=fun k hk=>congrArg (V.int .u8) (congrArg Nat.cast (AEm k hk));obtain⟨m,hm⟩:∃m,m=fB:=⟨_,rfl⟩;have hb:bsX=(K8 m).1:=by rw[hm];rfl
 rw[←hm]at hend;rw[hb];clear hb hm;have hΓ:=Ab Tryz.f142.ntmps _ _ [] (.cons (Rl) .nil) .nil;refine Aw hΓ Tryz.func142 ?_;conv=>whnf
 repeat' ((first|apply Ap<;>intro _|apply An)<;>conv=>whnf)
 all_goals try exact⟨B9⟩
 refine A4 (ι:=Nat) (fun i=>[(0, .ref 0 []),(1, .ref 1 []),(2, .int .i64 (i:Nat))]) (fun i=>[some (aD pt0),some (.row 1 32 (nb (bsF i)))]) (fun i=>1≤i∧i≤32) (fun i=>32 - i) 1 [some 0,some 1] ?_ (fun i hi=>vo hΓ ?_)
 ·conv=>whnf
  repeat' ((first|apply Ap<;>intro _|apply An)<;>conv=>whnf)
  all_goals try exact⟨Ba⟩
  refine⟨?_⟩;refine(A0 ?_ (A0 ?_ (A0 ?_ (A0 ?_ (A0 ?_ (A0 ?_ (A0 ?_ (A0 ?_ (A0 ?_ (A0 ?_ (A0 ?_ (A0 ?_ (A0 ?_ (A0 ?_ (A0 ?_ (A0 ?_ (A0 ?_ (A0 ?_ (A0 ?_ (A0 ?_ (A0 ?_ (A0 ?_ (A0 ?_ (A0 ?_ (A0 ?_ (A0 ?_ (A0 ?_ (A0 ?_ (A0 ?_ (A0 ?_ (A0 ?_ (A0 ?_ A9))))))))))))))))))))))))))))))));all_goals exact A5 rfl trivial
 ·conv=>whnf
  apply Ap<;>intro h3<;>conv=>whnf
  ·have hin:i<32:=by
    have:((i:Nat):Int)<32:=by simpa using h3
    omega
   conv=>whnf
   repeat' ((first|apply Ap<;>intro _|apply An)<;>conv=>whnf)
   all_goals try exact⟨Ba⟩
   refine⟨i+1,[some 0,some 1],?_⟩;conv=>whnf
   repeat' (apply An<;>conv=>whnf)
   all_goals try exact⟨Ba⟩
   ·exact⟨by rw[A3 (by omega) (by omega)];rfl⟩
   refine⟨fun k _=>A5 (qW rfl ?_ (fun j hj=>?_) k) trivial⟩
   ·show V.int .u8 102=_
    rw[show bsF (i+1) i=102 by unfold bsF;rw[if_neg (by omega),if_pos (by omega)]];rfl
   ·unfold bsF
    by_cases h:j=0
    ·rw[if_pos h,if_pos h]
    ·rw[if_neg h,if_neg h]
     by_cases h2:j<i
     ·rw[if_pos h2,if_pos (by omega)]
     ·rw[if_neg h2,if_neg (by omega)]
  ·have hin:i=32:=by
    have:¬((i:Nat):Int)<32:=by simpa using h3
    omega
   subst hin;refine vo hΓ ?_;conv=>whnf
   repeat' ((first|apply Ap<;>intro _|apply An)<;>conv=>whnf)
   all_goals try exact⟨B9⟩
   obtain⟨rt,hu⟩:∃rt,rt=K8 m:=⟨_,rfl⟩;rw[←hu];refine⟨m,⟨AE.row hend,trivial⟩,⟨trivial⟩,fun rr hr=>?_⟩;replace hr:rt=rr:=(hr.trans hu.symm).symm;subst hr;conv=>whnf
   repeat' ((first|apply Ap<;>intro _|apply An)<;>conv=>whnf)
   all_goals try exact⟨B9⟩
   exact Ld.refl _
def oN(o:Option Nat):Nat×Int:=match o with|some v=>(v,0)|none=>(0,1)
def oV(r:Nat×Int):V:= .tup (.cons (Cb r.1) (.cons (.int .i64 r.2) .nil))
theorem aZ:Ld (.row 1 32 fun _=> .int .u8 0) (Cb 0):=Ld.row fun k _=>congrArg (V.int .u8) (by
 show(0:Int)=((0/2^(8*k)%256:Nat):Int)
 rw[Nat.zero_div];rfl)
def AR9:A7:=Bf (fun(x:Av×Av)=>[Cb x.1.val,Cb x.2.val]) (fun _=>True) (fun x=>oN (Ir x.1.val x.2.val)) oV
theorem ABu{n a:Av}:(Ir n.val a.val=some (Ma (P1 n.val (K8 a).1 256).e)∧(K8 a).2=true)∨(Ir n.val a.val=none∧(K8 a).2=false):=by
 rcases Zn a with⟨q,h1,h2,h3⟩|⟨h1,h2⟩
 ·refine .inl ⟨?_,h2⟩;rw[iH,h3,Ir,h1];rfl
 ·refine .inr ⟨by rw[Ir,h1];rfl,by rw[h2]⟩
theorem AAg:FOk Tryz.prog G 170 AR9:=A8 fun⟨n,a⟩ _=>by
 show CP _ _ _ [Cb n.val,Cb a.val] fun v=>Ld v (oV (oN (Ir n.val a.val)))
 have h:=ABu (n:=n) (a:=a);have hΓ:=Ab Tryz.f170.ntmps _ _ [] (.cons (Rl) (.cons (kP) (.cons (Xu) .nil))) .nil;refine Aw hΓ Tryz.func170 ?_;conv=>whnf
 repeat' ((first|apply Ap<;>intro _|apply An)<;>conv=>whnf)
 all_goals try exact⟨B9⟩
 obtain⟨rt,hu⟩:∃rt,rt=K8 a:=⟨_,rfl⟩;rw[←hu]at h;refine⟨a,⟨AE.refl _,trivial⟩,⟨trivial⟩,fun rr hr=>?_⟩;replace hr:rt=rr:=(hr.trans (hu.symm)).symm;subst hr;conv=>whnf
 repeat' ((first|apply Ap<;>intro _|apply An)<;>conv=>whnf)
 all_goals try exact⟨B0⟩
 ·rename_i hc;have h2:rt.2=false:=by simpa using hc
  rw[h2]at h;rw[(h.resolve_left (fun h=>by cases h.2)).1];exact Ld.two aZ (by simp) rfl (by simp[Cb]) rfl
 ·rename_i hc;have h2:rt.2=true:=by simpa using hc
  rw[h2]at h;rw[(h.resolve_right (fun h=>by cases h.2)).1];obtain⟨T,hT⟩:∃T,T=P1 n.val rt.1 256:=⟨_,rfl⟩;rw[←hT];obtain⟨e,he⟩:∃e,e=Ma T.e:=⟨_,rfl⟩;rw[←he];refine⟨(n,rt.1),⟨AE.refl _,AE.refl _,trivial⟩,⟨trivial⟩,fun rr hr=>?_⟩;replace hr:T=rr:=(hr.trans (hT.symm)).symm;subst hr;conv=>whnf
  repeat' ((first|apply Ap<;>intro _|apply An)<;>conv=>whnf)
  all_goals try exact⟨B0⟩
  refine⟨T,⟨AE.refl _,trivial⟩,⟨trivial⟩,fun rr hr=>?_⟩;replace hr:e=rr:=(hr.trans (he.symm)).symm;subst hr;conv=>whnf
  repeat' ((first|apply Ap<;>intro _|apply An)<;>conv=>whnf)
  all_goals try exact⟨B0⟩
  exact Ld.refl _
def AQr:A7:=Bf (fun(x:Av×Av)=>[Cb x.1.val,Cb x.2.val]) (fun _=>True) (fun x=>oN (Hc x.1.val x.2.val)) oV
theorem yM{a b:Av}:(Hc a.val b.val=some (Ma (Ic (K8 a).1 (K8 b).1 qH).e)∧(K8 a).2=true∧(K8 b).2=true)∨(Hc a.val b.val=none∧((K8 a).2=false∨(K8 b).2=false)):=by
 rcases Zn a with⟨p,h1,h2,h3⟩|⟨h1,h2⟩
 ·rcases Zn b with⟨q,g1,g2,g3⟩|⟨g1,g2⟩
  ·refine .inl ⟨?_,h2,g2⟩;rw[fG,AM4,h3,g3,Hc,h1,g1];rfl
  ·refine .inr ⟨by rw[Hc,h1,g1];rfl, .inr (by rw[g2])⟩
 ·refine .inr ⟨by rw[Hc,h1];rfl, .inl (by rw[h2])⟩
theorem AAb:FOk Tryz.prog G 172 AQr:=A8 fun⟨a,b⟩ _=>by
 show CP _ _ _ [Cb a.val,Cb b.val] fun v=>Ld v (oV (oN (Hc a.val b.val)))
 have h:=yM (a:=a) (b:=b);have hΓ:=Ab Tryz.f172.ntmps _ _ [] (.cons (Rl) (.cons (AAo) (.cons (Xu) .nil))) .nil;refine Aw hΓ Tryz.func172 ?_;conv=>whnf
 repeat' ((first|apply Ap<;>intro _|apply An)<;>conv=>whnf)
 all_goals try exact⟨B9⟩
 obtain⟨rt,hu⟩:∃rt,rt=K8 a:=⟨_,rfl⟩;obtain⟨st,hs⟩:∃st,st=K8 b:=⟨_,rfl⟩;rw[←hu,←hs]at h;refine⟨a,⟨AE.refl _,trivial⟩,⟨trivial⟩,fun rr hr=>?_⟩;replace hr:rt=rr:=(hr.trans (hu.symm)).symm;subst hr;conv=>whnf
 repeat' ((first|apply Ap<;>intro _|apply An)<;>conv=>whnf)
 all_goals try exact⟨B0⟩
 refine⟨b,⟨AE.refl _,trivial⟩,⟨trivial⟩,fun rr hr=>?_⟩;replace hr:st=rr:=(hr.trans (hs.symm)).symm;subst hr;conv=>whnf
 repeat' ((first|apply Ap<;>intro _|apply An)<;>conv=>whnf)
 all_goals try exact⟨B0⟩
 ·rename_i hc;have h2:rt.2=false:=by simpa using hc
  rw[h2]at h;rw[(h.resolve_left (fun h=>by cases h.2.1)).1];exact Ld.two aZ (by simp) rfl (by simp[Cb]) rfl
 ·rename_i hc;have h2:st.2=false:=by simpa using hc
  rw[h2]at h;rw[(h.resolve_left (fun h=>by cases h.2.2)).1];exact Ld.two aZ (by simp) rfl (by simp[Cb]) rfl
 ·rename_i hc1 hc2;have h2:rt.2=true:=by simpa using hc1
  have h3:st.2=true:=by simpa using hc2
  rw[h2,h3]at h;rw[(h.resolve_right (fun h=>h.2.elim (fun h=>by cases h) (fun h=>by cases h))).1]
  obtain⟨T,hT⟩:∃T,T=Ic rt.1 st.1 qH:=⟨_,rfl⟩;rw[←hT];obtain⟨e,he⟩:∃e,e=Ma T.e:=⟨_,rfl⟩;rw[←he];refine⟨(rt.1,st.1),⟨AE.refl _,AE.refl _,trivial⟩,⟨trivial⟩,fun rr hr=>?_⟩;replace hr:T=rr:=(hr.trans (hT.symm)).symm;subst hr;conv=>whnf
  repeat' ((first|apply Ap<;>intro _|apply An)<;>conv=>whnf)
  all_goals try exact⟨B0⟩
  refine⟨T,⟨AE.refl _,trivial⟩,⟨trivial⟩,fun rr hr=>?_⟩;replace hr:e=rr:=(hr.trans (he.symm)).symm;subst hr;conv=>whnf
  repeat' ((first|apply Ap<;>intro _|apply An)<;>conv=>whnf)
  all_goals try exact⟨B0⟩
  exact Ld.refl _
def AQw:A7:=Bf (fun(n:Av)=>[Cb n.val]) (fun _=>True) (fun n=>Mw n.val) Cb
theorem AAd:FOk Tryz.prog G 99 AQw:=A8 fun n _=>by
 obtain⟨B,hB⟩:∃B,B=bsX:=⟨_,rfl⟩;obtain⟨T,hT⟩:∃T,T=P1 n.val B 256:=⟨_,rfl⟩;have he:Mw n.val=Ma T.e:=by rw[hT,iH,hB,AVp];rfl
 obtain⟨e,he2⟩:∃e,e=Ma T.e:=⟨_,rfl⟩;rw[he,←he2];clear he;have hΓ:=Ab Tryz.f99.ntmps _ _ [] (.cons (AAe) (.cons (kP) (.cons (Xu) .nil))) .nil;refine Aw hΓ Tryz.func99 ?_;conv=>whnf
 repeat' ((first|apply Ap<;>intro _|apply An)<;>conv=>whnf)
 all_goals try exact⟨B9⟩
 refine⟨(),trivial,⟨trivial⟩,fun rr hr=>?_⟩;replace hr:B=rr:=(hr.trans (hB.symm)).symm;subst hr;conv=>whnf
 repeat' ((first|apply Ap<;>intro _|apply An)<;>conv=>whnf)
 all_goals try exact⟨B0⟩
 refine⟨(n,B),⟨AE.refl _,AE.refl _,trivial⟩,⟨trivial⟩,fun rr hr=>?_⟩;replace hr:T=rr:=(hr.trans (hT.symm)).symm;subst hr;conv=>whnf
 repeat' ((first|apply Ap<;>intro _|apply An)<;>conv=>whnf)
 all_goals try exact⟨B0⟩
 refine⟨T,⟨AE.refl _,trivial⟩,⟨trivial⟩,fun rr hr=>?_⟩;replace hr:e=rr:=(hr.trans (he2.symm)).symm;subst hr;conv=>whnf
 repeat' ((first|apply Ap<;>intro _|apply An)<;>conv=>whnf)
 all_goals try exact⟨B0⟩
 exact Ld.refl _
end Go.Proofs.YtaihjcpfjgpmoaaGreatDoor
