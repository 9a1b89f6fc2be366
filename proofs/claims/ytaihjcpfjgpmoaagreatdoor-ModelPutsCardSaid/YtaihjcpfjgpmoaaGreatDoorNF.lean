/- Part of the claim ModelPuts: N34, N35, N36, N37, N38, N39. -/
import Derived.Test.YtaihjcpfjgpmoaaGreatDoorNE
set_option linter.unusedVariables false
set_option linter.unusedSimpArgs false
set_option maxRecDepth 100000
set_option maxHeartbeats 2000000
set_option exponentiation.threshold 2000
namespace Go.Proofs.YtaihjcpfjgpmoaaGreatDoor
open Go Go.DD Go.EE
theorem AJk(c:Fp)(p:Ex P)(n k:Nat):tm c p n (k+1)=if Jm n (255 - k)then H8 c (H8 c (tm c p n k) (tm c p n k)) p else H8 c (tm c p n k) (tm c p n k):=by
 rw[tm,Jm]
 by_cases h:n/2^(255 - k)%2=1
 ·rw[decide_eq_true h,if_pos rfl,if_pos h]
 ·rw[if_neg h,decide_eq_false h];rfl
def AW9:A7:=Bf (fun(x:Av×Ex P)=>[nV x.1,eV x.2]) (fun _=>True) (fun x=>tm (dP+dP) x.2 x.1.val 256) eV
theorem fX:FOk Tryz.prog G 115 AW9:=A8 fun⟨n,p⟩ _=>by
 show CP _ _ _ [nV n,eV p] fun v=>Ld v (eV (tm (dP+dP) p n.val 256))
 have ht:=AJk (dP+dP) p n.val;have h0:tm (dP+dP) p n.val 0=S2:=rfl;generalize tm (dP+dP) p n.val=T at*;obtain⟨d,hd⟩:∃d,d=dP:=⟨_,rfl⟩;rw[←hd]at ht;have hΓ:=Ab Tryz.f115.ntmps _ _ [] (.cons (oX) (.cons (AGi.g) (.cons (kJ) .nil))) .nil;refine Aw hΓ Tryz.func115 ?_;conv=>whnf
 repeat' ((first|apply Ap<;>intro _|apply An)<;>conv=>whnf)
 all_goals try exact⟨B9⟩
 refine⟨(),trivial,⟨trivial⟩,fun rr hr=>?_⟩;replace hr:d=rr:=(hr.trans (hd.symm)).symm;subst hr;conv=>whnf
 repeat' ((first|apply Ap<;>intro _|apply An)<;>conv=>whnf)
 all_goals try exact⟨B0⟩
 refine⟨(),trivial,⟨trivial⟩,fun rr hr=>?_⟩;replace hr:T 0=rr:=(hr.trans (h0.symm)).symm;subst hr;conv=>whnf
 repeat' ((first|apply Ap<;>intro _|apply An)<;>conv=>whnf)
 all_goals try exact⟨B0⟩
 refine A4 (ι:=Nat) (fun k=>[(2, .ref 0 []),(3, .ref 1 []),(4, .ref 2 []),(5, .ref 3 []),(6, .ref 4 []),(7, .int .i64 (255 - (k:Int)))]) (fun k=>[some (nV n),some (eV p),some (.st (.cons (.row 1 4 fun _=> .int .u64 0) (.cons (.row 1 4 fun _=> .int .u64 0) (.cons (.row 1 4 fun _=> .int .u64 0) (.cons (.row 1 4 fun _=> .int .u64 0) .nil))))),some (nF d),some (eV (T k))]) (fun k=>k≤256) (fun k=>256 - k) 0 [some 0,some 1,some 2,some 3,some 4] ?_ (fun i hi=>vo hΓ ?_)
 ·conv=>whnf
  repeat' ((first|apply Ap<;>intro _|apply An)<;>conv=>whnf)
  all_goals try exact⟨Ba⟩
 ·conv=>whnf
  apply Ap<;>intro h3<;>conv=>whnf
  ·have hin:i<256:=by
    have:(0:Int)≤255 - (i:Int):=by simpa using h3
    omega
   have hn:(255:Int) - (i:Int)=((255 - i:Nat):Int):=by omega
   have hp:=ht i;have e1:IntKind.i64.wrap (Int.tdiv (255 - (i:Int)) 64)=(((255 - i)/64:Nat):Int):=by rw[hn];exact Tj (by omega)
   have e2:IntKind.u64.wrap (Int.tmod (255 - (i:Int)) 64)=(((255 - i)%64:Nat):Int):=by rw[hn];exact Tl (by omega)
   have hb:(Ag .and .u64 (Bt .u64 ((w4 n.val (IntKind.i64.wrap (Int.tdiv (255 - (i:Int)) 64)).toNat:Nat):Int) (IntKind.u64.wrap (Int.tmod (255 - (i:Int)) 64))) 1==1)=Jm n.val (255 - i):=by rw[e1,e2,Int.toNat_natCast];exact yS
   obtain⟨q,hq⟩:∃q,q=T i:=⟨_,rfl⟩;rw[←hq]at hp⊢;obtain⟨z,hz⟩:∃z,z=H8 (d+d) q q:=⟨_,rfl⟩;rw[←hz]at hp;conv=>whnf
   repeat' ((first|apply Ap<;>intro _|apply An)<;>conv=>whnf)
   all_goals try first|exact⟨B9⟩|exact⟨by rw[e1];omega⟩|exact⟨by rw[e2];omega⟩
   refine⟨(q,q,d),⟨AE.refl _,AE.refl _,AE.refl _,trivial⟩,⟨trivial⟩,fun rr hr=>?_⟩;replace hr:z=rr:=(hr.trans (hz.symm)).symm;subst hr;conv=>whnf
   repeat' ((first|apply Ap<;>intro _|apply An)<;>conv=>whnf)
   all_goals try exact⟨B0⟩
   ·rename_i hc;rw[if_pos (hb.symm.trans hc)]at hp;obtain⟨w,hw⟩:∃w,w=H8 (d+d) z p:=⟨_,rfl⟩;rw[←hw]at hp;refine⟨(z,p,d),⟨AE.refl _,AE.refl _,AE.refl _,trivial⟩,⟨trivial⟩,fun rr hr=>?_⟩;replace hr:w=rr:=(hr.trans (hw.symm)).symm;subst hr;conv=>whnf
    repeat' ((first|apply Ap<;>intro _|apply An)<;>conv=>whnf)
    all_goals try exact⟨B0⟩
    refine⟨i+1,[some 0,some 1,some 2,some 3,some 4],?_⟩;rw[hp];conv=>whnf
    repeat' (apply An<;>conv=>whnf)
    all_goals try exact⟨Ba⟩
    all_goals exact⟨by rw[A3 (by omega) (by omega)];omega⟩
   ·rename_i hc;rw[if_neg (by rw[hb.symm.trans hc];decide)]at hp;refine⟨i+1,[some 0,some 1,some 2,some 3,some 4],?_⟩;rw[hp];conv=>whnf
    repeat' (apply An<;>conv=>whnf)
    all_goals try exact⟨Ba⟩
    all_goals exact⟨by rw[A3 (by omega) (by omega)];omega⟩
  ·have hin:i=256:=by
    have:¬(0:Int)≤255 - (i:Int):=by simpa using h3
    omega
   subst hin;refine vo hΓ ?_;conv=>whnf
   repeat' ((first|apply Ap<;>intro _|apply An)<;>conv=>whnf)
   all_goals try exact⟨B9⟩
   exact Ld.refl _
def AF2(p:Ex P):Av:=⟨Ma p,fI p⟩
def AW0:A7:=Bf (fun(p:Ex P)=>[eV p]) (fun _=>True) AF2 bV
theorem Vw:FOk Tryz.prog G 114 AW0:=A8 fun p _=>by
 show CP _ _ _ [eV p] fun v=>Ld v (Cb (Ma p))
 obtain⟨z,hz⟩:∃z,z=inv p.z:=⟨_,rfl⟩;obtain⟨x,hx⟩:∃x,x=p.x*z:=⟨_,rfl⟩;obtain⟨y,hy⟩:∃y,y=p.y*z:=⟨_,rfl⟩;have hE:Ma p=y.val+2^255*(x.val%2):=by rw[hx,hy,hz];rfl
 have hl:y.val<2^255:=Nat.lt_trans (Fin.isLt _) nJ;rw[hE];clear hE;have hΓ:=Ab Tryz.f114.ntmps _ _ [(2, .one 0 (.one 1 (.one 2 (.one 3 (.one 4 (.one 5 (.one 6 (.one 7 (.many (.cons 8 (.one 9 (.one 10 (.one 11 (.done)))) (.cons 9 (.one 8 (.one 10 (.one 11 (.done)))) (.nil))))))))))))] (.cons (Ri) (.cons (Js) (.cons (Wj.g) .nil))) .nil;refine Aw hΓ Tryz.func114 ?_;conv=>whnf
 repeat' ((first|apply Ap<;>intro _|apply An)<;>conv=>whnf)
 all_goals try exact⟨B9⟩
 refine⟨p.z,⟨AE.refl _,trivial⟩,⟨trivial⟩,fun rr hr=>?_⟩;replace hr:z=rr:=(hr.trans (hz.symm)).symm;subst hr;conv=>whnf
 repeat' ((first|apply Ap<;>intro _|apply An)<;>conv=>whnf)
 all_goals try exact⟨B0⟩
 refine⟨(p.x,z),⟨AE.refl _,AE.refl _,trivial⟩,⟨trivial⟩,fun rr hr=>?_⟩;replace hr:x=rr:=(hr.trans (hx.symm)).symm;subst hr;conv=>whnf
 repeat' ((first|apply Ap<;>intro _|apply An)<;>conv=>whnf)
 all_goals try exact⟨B0⟩
 refine⟨(p.y,z),⟨AE.refl _,AE.refl _,trivial⟩,⟨trivial⟩,fun rr hr=>?_⟩;replace hr:y=rr:=(hr.trans (hy.symm)).symm;subst hr;conv=>whnf
 repeat' ((first|apply Ap<;>intro _|apply An)<;>conv=>whnf)
 all_goals try exact⟨B0⟩
 all_goals try exact trivial
 all_goals
  refine⟨y.val,⟨AE.refl _,trivial⟩,⟨trivial⟩,fun rr hr=>?_⟩;replace hr:y.val=rr:=(hr.trans (rfl)).symm;subst hr;conv=>whnf
  repeat' ((first|apply Ap<;>intro _|apply An)<;>conv=>whnf)
  all_goals try exact⟨B0⟩
 all_goals try exact trivial
 all_goals first
  |exact⟨fun k _=>Qq trivial trivial⟩
  |skip
 all_goals
  rename_i hc
  first
   |(have ho:x.val%2=1:=of_decide_eq_true (cM.symm.trans hc)
     rw[ho];exact Ld.row fun k hk=>ABc hl hk)
   |(have ho:¬x.val%2=1:=of_decide_eq_false (cM.symm.trans hc)
     rw[show x.val%2=0 by omega,Nat.mul_zero,Nat.add_zero];exact Ld.refl _)
def zeE:Ex P:=⟨0,0,0,0⟩
def L6(m:Av):Ex P×Bool:=match Cn m.val with|some q=>(Lk q,true)|none=>(zeE,false)
def jI(odd:Bool)(r:Fp×Bool):Bool:= !r.2||(decide (r.1=0)&&odd)
def sgR(odd:Bool)(x:Fp):Fp:=if odd=true then 0 - x else x
def ptR(x y:Fp):Ex P:=⟨x,y,1,x*y⟩
theorem ANl{n:Nat}[NeZero n](x:Fin n):0 - (0 - x)=x:=by grind(splits:=0)
theorem ANm{n:Nat}[NeZero n](x:Fin n):0 - x=0↔x=0:=by
 constructor
 ·intro h;grind(splits:=0)
 ·intro h;rw[h];grind(splits:=0)
theorem zT(r:Fp):xJ r=0↔r=0:=by
 unfold xJ
 split
 ·exact ANm r
 ·exact Iff.rfl
theorem ASl{r:Fp}{t:Nat}(ht:t<2):sgR (decide (t=1)) (xJ r)=if r.val%2=t then r else -r:=by
 have hs:0 - r= -r:=mT r;have h2:r.val%2<2:=Nat.mod_lt _ (by decide);unfold sgR xJ
 by_cases h1:t=1
 ·rw[decide_eq_true h1,if_pos rfl]
  by_cases h3:r.val%2=1
  ·rw[if_pos h3,if_pos (by omega),ANl]
  ·rw[if_neg h3,if_neg (by omega),hs]
 ·rw[decide_eq_false h1,if_neg (by decide)]
  by_cases h3:r.val%2=1
  ·rw[if_pos h3,if_neg (by omega),hs]
  ·rw[if_neg h3,if_pos (by omega)]
theorem AEz{m:Av}{Y:Fp}(hY:Y.val=m.val%2^255):L6 m=if jI (Ni m.val) (L0 ((Y*Y - 1)*inv (dP*(Y*Y)+1)))=true then(zeE,false)else(ptR (sgR (Ni m.val) (L0 ((Y*Y - 1)*inv (dP*(Y*Y)+1))).1) Y,true):=by
 have hy:m.val%2^255<P:=hY▸Y.isLt
 have hd:Cn m.val=if Cv ((Y*Y - 1)*inv (dP*(Y*Y)+1))*Cv ((Y*Y - 1)*inv (dP*(Y*Y)+1))≠(Y*Y - 1)*inv (dP*(Y*Y)+1)∨(Cv ((Y*Y - 1)*inv (dP*(Y*Y)+1))=0∧m.val/2^255=1)then none else some ⟨if(Cv ((Y*Y - 1)*inv (dP*(Y*Y)+1))).val%2=m.val/2^255 then Cv ((Y*Y - 1)*inv (dP*(Y*Y)+1))else -Cv ((Y*Y - 1)*inv (dP*(Y*Y)+1)),Y⟩:=by
  unfold Cn;rw[dif_pos hy,show Y=⟨m.val%2^255,hy⟩from Fin.ext hY]
 have hm:m.val/2^255<2:=Nat.div_lt_of_lt_mul (Nat.lt_of_lt_of_le m.isLt (by decide));unfold L0
 generalize(Y*Y - 1)*inv (dP*(Y*Y)+1)=a at*
 have hs:=ASl (r:=Cv a) hm;have hz:=zT (Cv a);generalize Cv a=r at*
 have hbad:jI (Ni m.val) (if r*r=a then(xJ r,true)else(0,false))=true↔(r*r≠a∨(r=0∧m.val/2^255=1)):=by
  unfold jI Ni
  by_cases h:r*r=a
  ·rw[if_pos h];simp[h,hz]
  ·rw[if_neg h];simp[h]
 unfold L6
 by_cases hb:r*r≠a∨(r=0∧m.val/2^255=1)
 ·rw[hd,if_pos hb,if_pos (hbad.2 hb)]
 ·rw[hd,if_neg hb,if_neg (fun h=>hb (hbad.1 h))];have hsq:r*r=a:=Classical.not_not.1 fun h=>hb (.inl h);rw[if_pos hsq]
  show(Lk ⟨_,Y⟩,true)=_
  have hs2:sgR (Ni m.val) (xJ r)=if r.val%2=m.val/2^255 then r else -r:=hs;rw[hs2];rfl
theorem zH{m:Av}(hy:¬m.val%2^255<P):L6 m=(zeE,false):=by
 unfold L6 Cn;rw[dif_neg hy]
theorem AOr{m:Nat}(hm:m<2^256):decide ((128:Int)≤((Hh m 31:Nat):Int))=Ni m:=by
 have h1:m/2^248<256:=Nat.div_lt_of_lt_mul (Nat.lt_of_lt_of_le hm (by decide));have h2:Hh m 31=m/2^248:=Nat.mod_eq_of_lt (by omega);rw[h2,Ni];refine decide_eq_decide.2 ?_;omega
def exB(r:Ex P×Bool):V:= .tup (.cons (eV r.1) (.cons (.bool r.2) .nil))
def AVz:A7:=Bf (fun(m:Av)=>[bV m]) (fun _=>True) L6 exB
theorem AKm{a:Fp}{g:Nat→V}(hg:∀k,k<4→g k= .int .u64 0):De 4 (nv (w4 (fN a).val)) g=decide (a=0):=by
 rw[←Se];exact cY fun k hk=>(hg k hk).trans (M0 k)
theorem xS:Ld (.tup (.cons (.st (.cons (.row 1 4 fun _=> .int .u64 0) (.cons (.row 1 4 fun _=> .int .u64 0) (.cons (.row 1 4 fun _=> .int .u64 0) (.cons (.row 1 4 fun _=> .int .u64 0) .nil))))) (.cons (.bool false) .nil))) (exB (zeE,false)):=
 Ld.two (Ld.st (.cons (Cm.row fun k _=>M0 k) (.cons (Cm.row fun k _=>M0 k) (.cons (Cm.row fun k _=>M0 k) (.cons (Cm.row fun k _=>M0 k) .nil))))) (by simp) rfl (by simp[eV]) rfl
theorem Rh:FOk Tryz.prog G 159 AVz:=A8 fun m _=>by
 show CP _ _ _ [Cb m.val] fun v=>Ld v (exB (L6 m))
 obtain⟨n,hn⟩:∃n,n=loN m:=⟨_,rfl⟩;have cD:∀k,k<32→(if k=31 then V.int .u8 (Ag .and .u8 ((Hh m.val 31:Nat):Int) 127)else bv m.val k)=bv n.val k:=fun k hk=>by rw[hn];exact ABo m.isLt hk
 have hor:decide ((128:Int)≤((Hh m.val (Int.toNat 31):Nat):Int))=Ni m.val:=AOr m.isLt;have hnv:n.val=m.val%2^255:=by rw[hn];rfl
 have hbd:=zH (m:=m);have hgd:=fun(Y:Fp) (h:Y.val=m.val%2^255)=>AEz h;rw[←hnv]at hbd hgd;have hΓ:=Ab Tryz.f159.ntmps _ _ [] (.cons (Pv.g) (.cons (Wl.g) (.cons (kI.g) (.cons (Js) (.cons (AGb) (.cons (Rk.g) (.cons (Ri) (.cons (kD.g) (.cons (oX) .nil))))))))) .nil;refine Aw hΓ Tryz.func159 ?_;conv=>whnf
 repeat' ((first|apply Ap<;>intro _|apply An)<;>conv=>whnf)
 all_goals try first|exact⟨B9⟩|exact⟨fun k _=>Qq trivial trivial⟩|exact⟨fun k _=>Lq (c:=k=Int.toNat 31) (a:=V.int .u8 _) (b:=V.int .u8 _) trivial trivial⟩
 refine⟨n.val,⟨AE.row cD,trivial⟩,⟨trivial⟩,fun r hr=>?_⟩;subst hr;conv=>whnf
 repeat' ((first|apply Ap<;>intro _|apply An)<;>conv=>whnf)
 all_goals try exact⟨B9⟩
 refine⟨(),trivial,⟨trivial⟩,fun r hr=>?_⟩;subst hr;conv=>whnf
 repeat' ((first|apply Ap<;>intro _|apply An)<;>conv=>whnf)
 all_goals try exact⟨B0⟩
 refine⟨(n,pX),⟨AE.refl _,AE.refl _,trivial⟩,⟨trivial⟩,fun r hr=>?_⟩;subst hr;conv=>whnf
 repeat' ((first|apply Ap<;>intro _|apply An)<;>conv=>whnf)
 all_goals try exact⟨B9⟩
 ·rename_i hc
  have hc:¬n.val<P:=by
   have h:(!decide (n.val<P))=true:=hc;simpa using h
  rw[hbd hc];exact xS
 rename_i hc
 have hc:n.val<P:=by
  have h:(!decide (n.val<P))=false:=hc;simpa using h
 obtain⟨Y,hY⟩:∃Y:Fp,fN Y=n:=⟨⟨n.val,hc⟩,Fin.ext rfl⟩;subst hY;have hdec:=hgd Y rfl;clear hgd hbd hc hn hnv cD;obtain⟨yy,hyy⟩:∃yy,yy=Y*Y:=⟨_,rfl⟩;obtain⟨d,hd⟩:∃d,d=dP:=⟨_,rfl⟩;obtain⟨u,hu⟩:∃u,u=yy - 1:=⟨_,rfl⟩;obtain⟨v,hv⟩:∃v,v=d*yy:=⟨_,rfl⟩;obtain⟨w,hw⟩:∃w,w=v+1:=⟨_,rfl⟩;obtain⟨z,hz⟩:∃z,z=inv w:=⟨_,rfl⟩;obtain⟨A,hA⟩:∃A,A=u*z:=⟨_,rfl⟩;obtain⟨rt,hrt⟩:∃rt,rt=L0 A:=⟨_,rfl⟩;rw[←hyy,←hd,←hu,←hv,←hw,←hz,←hA,←hrt]at hdec;refine⟨(Y,Y),⟨AE.refl _,AE.refl _,trivial⟩,⟨trivial⟩,fun rr hr=>?_⟩;replace hr:yy=rr:=(hr.trans (hyy.symm)).symm;subst hr;conv=>whnf
 repeat' ((first|apply Ap<;>intro _|apply An)<;>conv=>whnf)
 all_goals try exact⟨B0⟩
 all_goals try exact⟨A0 trivial (A0 trivial (A0 trivial (A0 trivial A9)))⟩
 refine⟨(yy,1),⟨AE.refl _,AE.row (Gp 1 (show(1:Fp).val=(1:Fin (2^64)).val by decide) rfl rfl rfl rfl),trivial⟩,⟨trivial⟩,fun rr hr=>?_⟩;replace hr:u=rr:=(hr.trans hu.symm).symm;subst hr;conv=>whnf
 repeat' ((first|apply Ap<;>intro _|apply An)<;>conv=>whnf)
 all_goals try exact⟨B9⟩
 refine⟨(),trivial,⟨trivial⟩,fun rr hr=>?_⟩;replace hr:d=rr:=(hr.trans (hd.symm)).symm;subst hr;conv=>whnf
 repeat' ((first|apply Ap<;>intro _|apply An)<;>conv=>whnf)
 all_goals try exact⟨B0⟩
 refine⟨(d,yy),⟨AE.refl _,AE.refl _,trivial⟩,⟨trivial⟩,fun rr hr=>?_⟩;replace hr:v=rr:=(hr.trans (hv.symm)).symm;subst hr;conv=>whnf
 repeat' ((first|apply Ap<;>intro _|apply An)<;>conv=>whnf)
 all_goals try exact⟨B0⟩
 all_goals try exact⟨A0 trivial (A0 trivial (A0 trivial (A0 trivial A9)))⟩
 refine⟨(v,1),⟨AE.refl _,AE.row (Gp 1 (show(1:Fp).val=(1:Fin (2^64)).val by decide) rfl rfl rfl rfl),trivial⟩,⟨trivial⟩,fun rr hr=>?_⟩;replace hr:w=rr:=(hr.trans hw.symm).symm;subst hr;conv=>whnf
 repeat' ((first|apply Ap<;>intro _|apply An)<;>conv=>whnf)
 all_goals try exact⟨B9⟩
 refine⟨w,⟨AE.refl _,trivial⟩,⟨trivial⟩,fun rr hr=>?_⟩;replace hr:z=rr:=(hr.trans (hz.symm)).symm;subst hr;conv=>whnf
 repeat' ((first|apply Ap<;>intro _|apply An)<;>conv=>whnf)
 all_goals try exact⟨B0⟩
 refine⟨(u,z),⟨AE.refl _,AE.refl _,trivial⟩,⟨trivial⟩,fun rr hr=>?_⟩;replace hr:A=rr:=(hr.trans (hA.symm)).symm;subst hr;conv=>whnf
 repeat' ((first|apply Ap<;>intro _|apply An)<;>conv=>whnf)
 all_goals try exact⟨B0⟩
 refine⟨A,⟨AE.refl _,trivial⟩,⟨trivial⟩,fun rr hr=>?_⟩;replace hr:rt=rr:=(hr.trans (hrt.symm)).symm;subst hr;conv=>whnf
 repeat' ((first|apply Ap<;>intro _|apply An)<;>conv=>whnf)
 all_goals try exact⟨B0⟩
 ·rename_i h1;rw[show L6 m=(zeE,false) by rw[hdec,if_pos (by rw[jI,h1];rfl)]];exact xS
 ·exact⟨fun _ _=>rfl⟩
 ·exact⟨fun _ _=>rfl⟩
 ·rename_i h1 h2 h3;have h1:rt.2=true:=by simpa using h1
  have h2:rt.1=0:=of_decide_eq_true ((AKm (fun _ _=>rfl)).symm.trans h2);have ho:Ni m.val=true:=hor.symm.trans h3;rw[show L6 m=(zeE,false) by rw[hdec,if_pos (by rw[jI,h1,ho,decide_eq_true h2];rfl)]];exact xS
 ·rename_i h1 h2 h3 h4;exact absurd (h3.symm.trans h4) (by decide)
 ·rename_i h1 h2 h3 h4;have h1:rt.2=true:=by simpa using h1
  have ho:Ni m.val=false:=hor.symm.trans h3;have hd2:L6 m=(ptR rt.1 Y,true):=by rw[hdec,if_neg (by rw[jI,h1,ho,Bool.and_false];decide),ho];rfl
  rw[hd2];all_goals try exact⟨A0 trivial (A0 trivial (A0 trivial (A0 trivial A9)))⟩
  refine⟨(rt.1,Y),⟨AE.refl _,AE.refl _,trivial⟩,⟨trivial⟩,fun rr hr=>?_⟩;replace hr:rt.1*Y=rr:=(hr.trans (rfl)).symm;subst hr;conv=>whnf
  repeat' ((first|apply Ap<;>intro _|apply An)<;>conv=>whnf)
  all_goals try exact⟨B0⟩
  all_goals try exact⟨A0 trivial (A0 trivial (A0 trivial (A0 trivial A9)))⟩
  exact Ld.two (Ld.st (.cons (Cm.refl _) (.cons (Cm.refl _) (.cons (lS (x:=1) 1 (by decide) rfl rfl rfl rfl) (.cons (Cm.refl _) .nil))))) (by simp) rfl (by simp[eV]) rfl
 ·rename_i h1 h2 h3;have h1:rt.2=true:=by simpa using h1
  have h2:¬rt.1=0:=of_decide_eq_false ((AKm (fun _ _=>rfl)).symm.trans h2);have ho:Ni m.val=true:=hor.symm.trans h3;obtain⟨x,hx⟩:∃x,x=0 - rt.1:=⟨_,rfl⟩;have hd2:L6 m=(ptR x Y,true):=by rw[hdec,if_neg (by rw[jI,h1,decide_eq_false h2,Bool.false_and];decide),ho,hx];rfl
  all_goals try exact⟨A0 trivial (A0 trivial (A0 trivial (A0 trivial A9)))⟩
  refine⟨(0,rt.1),⟨AE.row (fun k _=>M0 k),AE.refl _,trivial⟩,⟨trivial⟩,fun rr hr=>?_⟩;replace hr:x=rr:=(hr.trans hx.symm).symm;subst hr;conv=>whnf
  repeat' ((first|apply Ap<;>intro _|apply An)<;>conv=>whnf)
  all_goals try exact⟨B9⟩
  rw[hd2];all_goals try exact⟨A0 trivial (A0 trivial (A0 trivial (A0 trivial A9)))⟩
  refine⟨(x,Y),⟨AE.refl _,AE.refl _,trivial⟩,⟨trivial⟩,fun rr hr=>?_⟩;replace hr:x*Y=rr:=(hr.trans (rfl)).symm;subst hr;conv=>whnf
  repeat' ((first|apply Ap<;>intro _|apply An)<;>conv=>whnf)
  all_goals try exact⟨B0⟩
  all_goals try exact⟨A0 trivial (A0 trivial (A0 trivial (A0 trivial A9)))⟩
  exact Ld.two (Ld.st (.cons (Cm.refl _) (.cons (Cm.refl _) (.cons (lS (x:=1) 1 (by decide) rfl rfl rfl rfl) (.cons (Cm.refl _) .nil))))) (by simp) rfl (by simp[eV]) rfl
 ·rename_i h1 h2 h3;have h1:rt.2=true:=by simpa using h1
  have ho:Ni m.val=false:=hor.symm.trans h3;have hd2:L6 m=(ptR rt.1 Y,true):=by rw[hdec,if_neg (by rw[jI,h1,ho,Bool.and_false];decide),ho];rfl
  rw[hd2];all_goals try exact⟨A0 trivial (A0 trivial (A0 trivial (A0 trivial A9)))⟩
  refine⟨(rt.1,Y),⟨AE.refl _,AE.refl _,trivial⟩,⟨trivial⟩,fun rr hr=>?_⟩;replace hr:rt.1*Y=rr:=(hr.trans (rfl)).symm;subst hr;conv=>whnf
  repeat' ((first|apply Ap<;>intro _|apply An)<;>conv=>whnf)
  all_goals try exact⟨B0⟩
  all_goals try exact⟨A0 trivial (A0 trivial (A0 trivial (A0 trivial A9)))⟩
  exact Ld.two (Ld.st (.cons (Cm.refl _) (.cons (Cm.refl _) (.cons (lS (x:=1) 1 (by decide) rfl rfl rfl rfl) (.cons (Cm.refl _) .nil))))) (by simp) rfl (by simp[eV]) rfl
theorem AP5:((4:Fp)*inv 5).val=J7 bP:=by decide+kernel
def AVu:A7:=Bf (fun(_:Unit)=>[]) (fun _=>True) (fun _=>Lk bP) eV
theorem AFx:FOk Tryz.prog G 117 AVu:=A8 fun _ _=>by
 obtain⟨b,hb⟩:∃b,b=Lk bP:=⟨_,rfl⟩;obtain⟨v,hv⟩:∃v:Fp,v=inv 5:=⟨_,rfl⟩;obtain⟨y,hy⟩:∃y:Fp,y=4*v:=⟨_,rfl⟩
 have hd:L6 (fN y)=(b,true):=by
  have h1:(fN y).val=J7 bP:=by rw[hy,hv];exact AP5
  unfold L6;rw[h1,Ph No,hb]
 rw[←hb];have hΓ:=Ab Tryz.f117.ntmps _ _ [] (.cons (Js) (.cons (Ri) (.cons (Wj.g) (.cons (Rh) .nil)))) .nil;refine Aw hΓ Tryz.func117 ?_;conv=>whnf
 repeat' ((first|apply Ap<;>intro _|apply An)<;>conv=>whnf)
 all_goals try exact⟨B9⟩
 all_goals try exact⟨A0 trivial (A0 trivial (A0 trivial (A0 trivial A9)))⟩
 refine⟨5,⟨AE.row (Gp 5 (show(5:Fp).val=(5:Fin (2^64)).val by decide) rfl rfl rfl rfl),trivial⟩,⟨trivial⟩,fun rr hr=>?_⟩;replace hr:v=rr:=(hr.trans hv.symm).symm;subst hr;conv=>whnf
 repeat' ((first|apply Ap<;>intro _|apply An)<;>conv=>whnf)
 all_goals try exact⟨B9⟩
 all_goals try exact⟨A0 trivial (A0 trivial (A0 trivial (A0 trivial A9)))⟩
 refine⟨(4,v),⟨AE.row (Gp 4 (show(4:Fp).val=(4:Fin (2^64)).val by decide) rfl rfl rfl rfl),AE.refl _,trivial⟩,⟨trivial⟩,fun rr hr=>?_⟩;replace hr:y=rr:=(hr.trans hy.symm).symm;subst hr;conv=>whnf
 repeat' ((first|apply Ap<;>intro _|apply An)<;>conv=>whnf)
 all_goals try exact⟨B9⟩
 refine⟨(fN y).val,⟨AE.refl _,trivial⟩,⟨trivial⟩,fun rr hr=>?_⟩;replace hr:(fN y).val=rr:=(hr.trans (rfl)).symm;subst hr;conv=>whnf
 repeat' ((first|apply Ap<;>intro _|apply An)<;>conv=>whnf)
 all_goals try exact⟨B0⟩
 refine⟨fN y,⟨AE.refl _,trivial⟩,⟨trivial⟩,fun rr hr=>?_⟩;replace hr:rr=(b,true):=hr.trans hd;subst hr;conv=>whnf
 repeat' ((first|apply Ap<;>intro _|apply An)<;>conv=>whnf)
 all_goals try exact⟨B9⟩
 exact Ld.refl _
def AVw:A7:=Bf (fun(n:Av)=>[bV n]) (fun _=>True) Kk bV
theorem sH:FOk Tryz.prog G 72 AVw:=A8 fun n _=>by
 obtain⟨b,hb⟩:∃b,b=Lk bP:=⟨_,rfl⟩;obtain⟨t,ht⟩:∃t,t=tm (dP+dP) b n.val 256:=⟨_,rfl⟩;obtain⟨e,he⟩:∃e,e=AF2 t:=⟨_,rfl⟩;have hr0:Kk n=e:=by rw[he,ht,hb];rfl
 rw[hr0];have hΓ:=Ab Tryz.f72.ntmps _ _ [] (.cons (AFx) (.cons (fX) (.cons (Vw) (.cons (Pv.g) .nil)))) .nil;refine Aw hΓ Tryz.func72 ?_;conv=>whnf
 repeat' ((first|apply Ap<;>intro _|apply An)<;>conv=>whnf)
 all_goals try exact⟨B9⟩
 refine⟨n.val,⟨AE.refl _,trivial⟩,⟨trivial⟩,fun rr hr=>?_⟩;replace hr:n.val=rr:=(hr.trans (rfl)).symm;subst hr;conv=>whnf
 repeat' ((first|apply Ap<;>intro _|apply An)<;>conv=>whnf)
 all_goals try exact⟨B0⟩
 refine⟨(),trivial,⟨trivial⟩,fun rr hr=>?_⟩;replace hr:b=rr:=(hr.trans (hb.symm)).symm;subst hr;conv=>whnf
 repeat' ((first|apply Ap<;>intro _|apply An)<;>conv=>whnf)
 all_goals try exact⟨B0⟩
 refine⟨(n,b),⟨AE.refl _,AE.refl _,trivial⟩,⟨trivial⟩,fun rr hr=>?_⟩;replace hr:t=rr:=(hr.trans (ht.symm)).symm;subst hr;conv=>whnf
 repeat' ((first|apply Ap<;>intro _|apply An)<;>conv=>whnf)
 all_goals try exact⟨B0⟩
 refine⟨t,⟨AE.refl _,trivial⟩,⟨trivial⟩,fun rr hr=>?_⟩;replace hr:e=rr:=(hr.trans (he.symm)).symm;subst hr;conv=>whnf
 repeat' ((first|apply Ap<;>intro _|apply An)<;>conv=>whnf)
 all_goals try exact⟨B0⟩
 exact Ld.refl _
def oB(o:Option Nat):Nat×Bool:=match o with|some v=>(v,true)|none=>(0,false)
def oBV(r:Nat×Bool):V:= .tup (.cons (Cb r.1) (.cons (.bool r.2) .nil))
theorem Lh{m:Av}{q:Pt P}(h:Cn m.val=some q):L6 m=(Lk q,true):=by unfold L6;rw[h]
theorem T8{m:Av}(h:Cn m.val=none):L6 m=(zeE,false):=by unfold L6;rw[h]
def AWl:A7:=Bf (fun(x:Av×Av)=>[bV x.1,bV x.2]) (fun _=>True) (fun x=>oB (Ir x.1.val x.2.val)) oBV
theorem AGg:FOk Tryz.prog G 212 AWl:=A8 fun⟨n,a⟩ _=>by
 show CP _ _ _ [bV n,bV a] fun v=>Ld v (oBV (oB (Ir n.val a.val)))
 cases hd:Cn a.val with
 |none=>
  have h1:=T8 hd;have h2:Ir n.val a.val=none:=by rw[Ir,hd];rfl
  rw[h2];have hΓ:=Ab Tryz.f212.ntmps _ _ [] (.cons (Rh) (.cons (fX) (.cons (Vw) (.cons (Pv.g) .nil)))) .nil;refine Aw hΓ Tryz.func212 ?_;conv=>whnf
  repeat' ((first|apply Ap<;>intro _|apply An)<;>conv=>whnf)
  all_goals try exact⟨B9⟩
  refine⟨a,⟨AE.refl _,trivial⟩,⟨trivial⟩,fun rr hr=>?_⟩;replace hr:(zeE,false)=rr:=(hr.trans (h1)).symm;subst hr;conv=>whnf
  repeat' ((first|apply Ap<;>intro _|apply An)<;>conv=>whnf)
  all_goals try exact⟨B0⟩
  all_goals try(rename_i hx;exact absurd (show(!false)=false from hx) (by decide))
  exact Ld.two aZ (by simp) rfl (by simp[Cb]) rfl
 |some q=>
  have h1:=Lh hd;obtain⟨t,ht⟩:∃t,t=tm (dP+dP) (Lk q) n.val 256:=⟨_,rfl⟩;obtain⟨e,he⟩:∃e,e=AF2 t:=⟨_,rfl⟩;have h2:Ir n.val a.val=some e.val:=by rw[Ir,hd,he,ht];rfl
  rw[h2];generalize Lk q=Q at*;have hΓ:=Ab Tryz.f212.ntmps _ _ [] (.cons (Rh) (.cons (fX) (.cons (Vw) (.cons (Pv.g) .nil)))) .nil;refine Aw hΓ Tryz.func212 ?_;conv=>whnf
  repeat' ((first|apply Ap<;>intro _|apply An)<;>conv=>whnf)
  all_goals try exact⟨B9⟩
  refine⟨a,⟨AE.refl _,trivial⟩,⟨trivial⟩,fun rr hr=>?_⟩;replace hr:(Q,true)=rr:=(hr.trans (h1)).symm;subst hr;conv=>whnf
  repeat' ((first|apply Ap<;>intro _|apply An)<;>conv=>whnf)
  all_goals try exact⟨B0⟩
  all_goals try(rename_i hx;exact absurd (show(!true)=true from hx) (by decide))
  refine⟨n.val,⟨AE.refl _,trivial⟩,⟨trivial⟩,fun rr hr=>?_⟩;replace hr:n.val=rr:=(hr.trans (rfl)).symm;subst hr;conv=>whnf
  repeat' ((first|apply Ap<;>intro _|apply An)<;>conv=>whnf)
  all_goals try exact⟨B0⟩
  refine⟨(n,Q),⟨AE.refl _,AE.refl _,trivial⟩,⟨trivial⟩,fun rr hr=>?_⟩;replace hr:t=rr:=(hr.trans (ht.symm)).symm;subst hr;conv=>whnf
  repeat' ((first|apply Ap<;>intro _|apply An)<;>conv=>whnf)
  all_goals try exact⟨B0⟩
  refine⟨t,⟨AE.refl _,trivial⟩,⟨trivial⟩,fun rr hr=>?_⟩;replace hr:e=rr:=(hr.trans (he.symm)).symm;subst hr;conv=>whnf
  repeat' ((first|apply Ap<;>intro _|apply An)<;>conv=>whnf)
  all_goals try exact⟨B0⟩
  exact Ld.refl _
def AWj:A7:=Bf (fun(x:Av×Av)=>[bV x.1,bV x.2]) (fun _=>True) (fun x=>oB (Hc x.1.val x.2.val)) oBV
theorem AGf:FOk Tryz.prog G 214 AWj:=A8 fun⟨a,b⟩ _=>by
 show CP _ _ _ [bV a,bV b] fun v=>Ld v (oBV (oB (Hc a.val b.val)))
 obtain⟨s,hs⟩:∃s,s=L6 a:=⟨_,rfl⟩;obtain⟨u,hu⟩:∃u,u=L6 b:=⟨_,rfl⟩;obtain⟨d,hd⟩:∃d,d=dP:=⟨_,rfl⟩;obtain⟨t,ht⟩:∃t,t=H8 (d+d) s.1 u.1:=⟨_,rfl⟩;obtain⟨e,he⟩:∃e,e=AF2 t:=⟨_,rfl⟩
 have hr:(s.2=false→Hc a.val b.val=none)∧(u.2=false→Hc a.val b.val=none)∧(s.2=true→u.2=true→Hc a.val b.val=some e.val):=by
  cases h1:Cn a.val with
  |none=>
   have h0:Hc a.val b.val=none:=by rw[Hc,h1];rfl
   refine⟨fun _=>h0,fun _=>h0,fun h=>?_⟩;rw[hs,T8 h1]at h
   cases h
  |some p=>
   cases h2:Cn b.val with
   |none=>
    have h0:Hc a.val b.val=none:=by rw[Hc,h1,h2];rfl
    refine⟨fun _=>h0,fun _=>h0,fun _ h=>?_⟩;rw[hu,T8 h2]at h
    cases h
   |some q=>
    refine⟨fun h=>?_,fun h=>?_,fun _ _=>?_⟩
    ·rw[hs,Lh h1]at h
     cases h
    ·rw[hu,Lh h2]at h
     cases h
    ·rw[Hc,h1,h2,he,ht,hs,hu,Lh h1,Lh h2,hd];rfl
 have hΓ:=Ab Tryz.f214.ntmps _ _ [] (.cons (Rh) (.cons (kJ) (.cons (Vw) (.cons (oX) .nil)))) .nil;refine Aw hΓ Tryz.func214 ?_;conv=>whnf
 repeat' ((first|apply Ap<;>intro _|apply An)<;>conv=>whnf)
 all_goals try exact⟨B9⟩
 refine⟨a,⟨AE.refl _,trivial⟩,⟨trivial⟩,fun rr hr=>?_⟩;replace hr:s=rr:=(hr.trans (hs.symm)).symm;subst hr;conv=>whnf
 repeat' ((first|apply Ap<;>intro _|apply An)<;>conv=>whnf)
 all_goals try exact⟨B0⟩
 refine⟨b,⟨AE.refl _,trivial⟩,⟨trivial⟩,fun rr hr=>?_⟩;replace hr:u=rr:=(hr.trans (hu.symm)).symm;subst hr;conv=>whnf
 repeat' ((first|apply Ap<;>intro _|apply An)<;>conv=>whnf)
 all_goals try exact⟨B0⟩
 ·rename_i hc;rw[hr.1 (by simpa using hc)];exact Ld.two aZ (by simp) rfl (by simp[Cb]) rfl
 ·rename_i hc0 hc;rw[hr.2.1 (by simpa using hc)];exact Ld.two aZ (by simp) rfl (by simp[Cb]) rfl
 ·rename_i hc0 hc;rw[hr.2.2 (by simpa using hc0) (by simpa using hc)];refine⟨(),trivial,⟨trivial⟩,fun rr hr=>?_⟩;replace hr:d=rr:=(hr.trans (hd.symm)).symm;subst hr;conv=>whnf
  repeat' ((first|apply Ap<;>intro _|apply An)<;>conv=>whnf)
  all_goals try exact⟨B0⟩
  refine⟨(s.1,u.1,d),⟨AE.refl _,AE.refl _,AE.refl _,trivial⟩,⟨trivial⟩,fun rr hr=>?_⟩;replace hr:t=rr:=(hr.trans (ht.symm)).symm;subst hr;conv=>whnf
  repeat' ((first|apply Ap<;>intro _|apply An)<;>conv=>whnf)
  all_goals try exact⟨B0⟩
  refine⟨t,⟨AE.refl _,trivial⟩,⟨trivial⟩,fun rr hr=>?_⟩;replace hr:e=rr:=(hr.trans (he.symm)).symm;subst hr;conv=>whnf
  repeat' ((first|apply Ap<;>intro _|apply An)<;>conv=>whnf)
  all_goals try exact⟨B0⟩
  exact Ld.refl _
theorem ALs{e i:Nat}:Ag .and .u64 (Bt .u64 ((w4 e (i/64):Nat):Int) ((i%64:Nat):Int)) 1=((e/2^i%2:Nat):Int):=by
 have h0:=C3 e (i/64);have h1:w4 e (i/64)/2^(i%64)<2^64:=Nat.lt_of_le_of_lt (Nat.div_le_self _ _) h0
 have h2:w4 e (i/64)/2^(i%64)%2=e/2^i%2:=by
  have e1:(2:Nat)^i=2^(64*(i/64))*2^(i%64):=by rw[←Nat.pow_add];congr 1;omega
  have e2:(2:Nat)^64=2^(i%64)*(2*2^(63 - i%64)):=by rw[←Nat.pow_succ',←Nat.pow_add];congr 1;omega
  rw[e1,←Nat.div_div_eq_div_mul];unfold w4;generalize e/2^(64*(i/64))=x;rw[e2,Nat.mod_mul_right_div_self,Nat.mod_mul_right_mod]
 have h3:Ag .and .u64 (((w4 e (i/64)/2^(i%64):Nat)):Int) 1=((w4 e (i/64)/2^(i%64)%2:Nat):Int):=by
  have h:=Sl (w4 e (i/64)/2^(i%64)) 1 h1 (by decide);rw[show((1:Nat):Int)=1 from rfl]at h;rw[h,Nat.and_one_is_mod]
 rw[E0 _ _ (by omega),h3,h2]
theorem AI7{o b:Nat}(hb:b<2):Ag .or .u64 (w4 (2*o) 0:Nat) (b:Nat)=((w4 (2*o+b) 0:Nat):Int):=by
 have e1:w4 (2*o) 0=(o%2^63)<<<1:=by
  show 2*o/2^0%2^64=_
  rw[Nat.pow_zero,Nat.div_one,Nat.shiftLeft_eq];omega
 have e2:w4 (2*o+b) 0=(o%2^63)<<<1+b:=by
  show(2*o+b)/2^0%2^64=_
  rw[Nat.pow_zero,Nat.div_one,Nat.shiftLeft_eq];omega
 rw[G2 _ _ (C3 _ _) (by omega),e1,e2,Nat.shiftLeft_add_eq_or_of_lt (show b<2^1 by omega)]
theorem AJt{o b k:Nat}(hb:b<2)(hk:k≠0):w4 (2*o) k=w4 (2*o+b) k:=by
 unfold w4;have e:2^(64*k)=2*2^(64*k - 1):=by rw[←Nat.pow_succ'];congr 1;omega
 rw[e,←Nat.div_div_eq_div_mul,←Nat.div_div_eq_div_mul]
 congr 2
 omega
def AW7:A7:=Bf (fun(t:Nat)=>[w8V t]) (fun t=>t<2^256*2^256) sX nV
theorem AG7:FOk Tryz.prog G 261 AW7:=A8 fun T hT=>by
 replace hT:T<2^256*2^256:=hT;have hT2:T/2^(512 - 0)=0:=by rw[Nat.sub_zero,show 512=256+256 from rfl,Nat.pow_add];exact Nat.div_eq_of_lt hT
 have hL:Lo<2^253:=by decide
 show CP _ _ _ [w8V T] fun v=>Ld v (nV (sX T))
 have hΓ:=Ab Tryz.f261.ntmps _ _ [] (.cons (Ny.g) (.cons (Wl.g) (.cons (tY.g) (.cons (Ll.g) .nil)))) .nil;refine Aw hΓ Tryz.func261 ?_;conv=>whnf
 refine A4 (ι:=Nat) (fun k=>[(1, .ref 0 []),(2, .ref 1 []),(3, .ref 2 []),(4, .int .i64 (511 - (k:Int)))]) (fun k=>[some (w8V T),some (.row 1 4 fun _=> .int .u64 0),some (nV (sX (T/2^(512 - k))))]) (fun k=>k≤512) (fun k=>512 - k) 0 [some 0,some 1,some 2] ?_ (fun i hi=>vo hΓ ?_)
 ·conv=>whnf
  repeat' ((first|apply Ap<;>intro _|apply An)<;>conv=>whnf)
  all_goals try exact⟨Ba⟩
  rw[hT2];exact⟨fun k _=>A5 (congrArg (V.int .u64) (show(0:Int)=((w4 0 k:Nat):Int) by rw[w4,Nat.zero_div];rfl)) trivial⟩
 ·conv=>whnf
  apply Ap<;>intro h3<;>conv=>whnf
  ·have hin:i<512:=by
    have:(0:Int)≤511 - (i:Int):=by simpa using h3
    omega
   obtain⟨j,hj⟩:∃j,j=512 - 1 - i:=⟨_,rfl⟩;have hji:(511:Int) - (i:Int)=(j:Nat):=by omega
   have e1:IntKind.i64.wrap (Int.tdiv (511 - (i:Int)) 64)=((j/64:Nat):Int):=by rw[hji];exact Tj (by omega)
   have e2:IntKind.u64.wrap (Int.tmod (511 - (i:Int)) 64)=((j%64:Nat):Int):=by rw[hji];exact Tl (by omega)
   have hb:Ag .and .u64 (Bt .u64 ((w4 T (IntKind.i64.wrap (Int.tdiv (511 - (i:Int)) 64)).toNat:Nat):Int) (IntKind.u64.wrap (Int.tmod (511 - (i:Int)) 64))) 1=((T/2^j%2:Nat):Int):=by rw[e1,e2,Int.toNat_natCast];exact ALs
   have hnx:=mE T 512 i Lo hin;rw[←hj]at hnx;obtain⟨b,hb0⟩:∃b,b=T/2^j%2:=⟨_,rfl⟩;have hb2:b<2:=hb0▸Nat.mod_lt _ (by decide);rw[←hb0]at hb hnx;obtain⟨o,ho⟩:∃o,o=sX (T/2^(512 - i)):=⟨_,rfl⟩;have hov:o.val=T/2^(512 - i)%Lo:=by rw[ho];rfl
   have hol:o.val<Lo:=hov▸Nat.mod_lt _ (by decide);rw[←hov]at hnx;obtain⟨S,hS⟩:∃S:Av,S.val=2*o.val+b:=⟨⟨2*o.val+b,by omega⟩,rfl⟩;rw[←hS]at hnx;obtain⟨y,hy⟩:∃y,y=sX (T/2^(512 - (i+1))):=⟨_,rfl⟩;have hyv:y.val=S.val%Lo:=by rw[hy];exact hnx
   obtain⟨r,hr0⟩:∃r,r=Hr (o,o):=⟨_,rfl⟩;have hrv:r.1.val=2*o.val:=by rw[hr0,Vj (x:=(o,o)) (by show o.val+o.val<_;omega)];show o.val+o.val=_;omega
   have hrow:∀k,k<4→(if k=0 then V.int .u64 (Ag .or .u64 (w4 r.1.val 0:Nat) (Ag .and .u64 (Bt .u64 ((w4 T (IntKind.i64.wrap (Int.tdiv (511 - (i:Int)) 64)).toNat:Nat):Int) (IntKind.u64.wrap (Int.tmod (511 - (i:Int)) 64))) 1))else nv (w4 r.1.val) k)=nv (w4 S.val) k:=fun k _=>by
    rw[hb,hrv,hS]
    by_cases hk:k=0
    ·subst hk;rw[if_pos rfl];exact congrArg (V.int .u64) (AI7 hb2)
    ·rw[if_neg hk];exact congrArg (V.int .u64) (congrArg Nat.cast (AJt hb2 hk))
   rw[←ho];conv=>whnf
   repeat' ((first|apply Ap<;>intro _|apply An)<;>conv=>whnf)
   all_goals try exact⟨B9⟩
   refine⟨(o,o),⟨AE.refl _,AE.refl _,trivial⟩,⟨trivial⟩,fun rr hr=>?_⟩;replace hr:r=rr:=(hr.trans (hr0.symm)).symm;subst hr;conv=>whnf
   repeat' ((first|apply Ap<;>intro _|apply An)<;>conv=>whnf)
   all_goals try exact⟨B0⟩
   refine⟨(),trivial,⟨trivial⟩,fun r hr=>?_⟩;subst hr;conv=>whnf
   repeat' ((first|apply Ap<;>intro _|apply An)<;>conv=>whnf)
   all_goals try exact⟨B0⟩
   ·exact⟨fun k _=>Lq (c:=k=Int.toNat 0) (a:=V.int .u64 _) (b:=V.int .u64 _) trivial trivial⟩
   refine⟨(S,loX),⟨AE.row hrow,AE.refl _,trivial⟩,⟨trivial⟩,fun rr hr=>?_⟩;subst hr;conv=>whnf
   repeat' ((first|apply Ap<;>intro _|apply An)<;>conv=>whnf)
   all_goals try exact⟨B9⟩
   ·rename_i hc
    have hc:¬S.val<Lo:=by
     have h:(!decide (S.val<Lo))=true:=hc;simpa using h
    have hdl:=Px (x:=(S,loX)) (by show Lo≤S.val;omega);obtain⟨s,hs0⟩:∃s,s=Ng (S,loX):=⟨_,rfl⟩;rw[←hs0]at hdl
    have hsy:s.1=y:=Fin.ext (by
     rw[hyv,hdl,Nat.mod_eq_sub_mod (by omega),Nat.mod_eq_of_lt (by omega)]
     rfl)
    refine⟨(),trivial,⟨trivial⟩,fun r hr=>?_⟩;subst hr;conv=>whnf
    repeat' ((first|apply Ap<;>intro _|apply An)<;>conv=>whnf)
    all_goals try exact⟨B0⟩
    ·exact⟨fun k _=>Lq (c:=k=Int.toNat 0) (a:=V.int .u64 _) (b:=V.int .u64 _) trivial trivial⟩
    refine⟨(S,loX),⟨AE.row hrow,AE.refl _,trivial⟩,⟨trivial⟩,fun rr hr=>?_⟩;replace hr:s=rr:=(hr.trans hs0.symm).symm;subst hr;conv=>whnf
    repeat' ((first|apply Ap<;>intro _|apply An)<;>conv=>whnf)
    all_goals try exact⟨B9⟩
    refine⟨i+1,[some 0,some 1,some 2],?_⟩;rw[←hy,←hsy];conv=>whnf
    repeat' (apply An<;>conv=>whnf)
    all_goals try exact⟨Ba⟩
    all_goals exact⟨by rw[A3 (by omega) (by omega)];omega⟩
   ·rename_i hc
    have hc:S.val<Lo:=by
     have h:(!decide (S.val<Lo))=false:=hc;simpa using h
    have hsy:S=y:=Fin.ext (by rw[hyv,Nat.mod_eq_of_lt hc]);refine⟨i+1,[some 0,some 1,some 2],?_⟩;rw[←hy,←hsy];conv=>whnf
    repeat' (apply An<;>conv=>whnf)
    all_goals try first|exact⟨Bc⟩|exact⟨fun k _=>Aa _ trivial⟩|exact⟨fun k hk=>A5 (hrow k hk) trivial⟩
    all_goals exact⟨by rw[A3 (by omega) (by omega)];omega⟩
  ·have hin:i=512:=by
    have:¬(0:Int)≤511 - (i:Int):=by simpa using h3
    omega
   subst hin;refine vo hΓ ?_;conv=>whnf
   repeat' ((first|apply Ap<;>intro _|apply An)<;>conv=>whnf)
   all_goals try exact⟨B9⟩
   rw[Nat.sub_self,Nat.pow_zero,Nat.div_one];exact Ld.refl _
def AW5:A7:=Bf (fun(a:By)=>[a.v]) (fun a=>a.ok∧a.l.length=64) (fun a=>sX (L7 a.l)) bV
theorem AG5:FOk Tryz.prog G 252 AW5:=A8 fun a ⟨ha,hn⟩=>by
 refine CP.by1 ha ?_;replace hn:a.l.length=64:=hn;generalize a.l=l at hn;generalize a.b=b
 show CP _ _ _ [Bl b l] fun v=>Ld v (bV (sX (L7 l)))
 have hbl:=P6 l
 have hlt:L7 l<2^256*2^256:=by
  have h:=Tq l;rw[hn]at h;exact Nat.lt_of_lt_of_eq h (by rw[←Nat.pow_add])
 generalize L7 l=m at*;have hΓ:=Ab Tryz.f252.ntmps _ _ [] (.cons (AG7) (.cons (Wj.g) .nil)) .nil;refine Aw hΓ Tryz.func252 ?_;conv=>whnf
 refine A4 (ι:=Nat) (fun i=>[(0,Bl b l),(2, .ref 0 []),(3, .ref 1 []),(4, .int .i64 (i:Nat))]) (fun i=>[some (.row 1 32 fun _=> .int .u8 0),some (.row 1 8 (nv (wd m i)))]) (fun i=>i≤64) (fun i=>64 - i) 0 [some 0,some 1] ?_ (fun i hi=>vo hΓ ?_)
 ·conv=>whnf
  repeat' ((first|apply Ap<;>intro _|apply An)<;>conv=>whnf)
  all_goals try first|exact⟨Ba⟩|exact⟨fun k _=>A5 (congrArg (V.int .u64) (congrArg Nat.cast (Wt m k).symm)) trivial⟩
 ·conv=>whnf
  apply Ap<;>intro h3<;>conv=>whnf
  ·have hin:i<64:=by
    have:((i:Nat):Int)<(l.length:Nat):=by simpa using h3
    omega
   have e1:=Fo (i:=i) (by omega);have e2:=Hz (i:=i) (by omega);have e3:=I7 (i:=i) (by omega);conv=>whnf
   repeat' ((first|apply Ap<;>intro _|apply An)<;>conv=>whnf)
   all_goals try first|exact⟨Ba⟩|exact⟨by rw[e1];omega⟩|exact⟨by rw[e3];omega⟩|exact⟨by rw[e2];omega⟩
   refine⟨i+1,[some 0,some 1],?_⟩;conv=>whnf
   repeat' (apply An<;>conv=>whnf)
   all_goals try exact⟨Ba⟩
   ·exact⟨by rw[A3 (by omega) (by omega)];rfl⟩
   refine⟨fun k _=>A5 (T0 e1 ?_ (fun j hj=>uQ m i j hj) k) trivial⟩;refine congrArg (V.int .u64) (Eq.trans ?_ (Wi m i));rw[←e3,←Int.toNat_natCast (i/8),←e1,hbl,←Ao ((l.getD i 0).toNat) (Nat.lt_trans (l.getD i 0).toNat_lt (by decide))];rfl
  ·have hin:i=64:=by
    have:¬((i:Nat):Int)<(l.length:Nat):=by simpa using h3
    omega
   subst hin;refine vo hΓ ?_;conv=>whnf
   repeat' ((first|apply Ap<;>intro _|apply An)<;>conv=>whnf)
   all_goals try exact⟨B9⟩
   obtain⟨y,hy⟩:∃y,y=sX m:=⟨_,rfl⟩;rw[←hy];refine⟨m,⟨AE.row (fun k hk=>congrArg (V.int .u64) (congrArg Nat.cast (iM m k (by omega)))),trivial⟩,⟨hlt⟩,fun rr hr=>?_⟩
   replace hr:y=rr:=(hr.trans hy.symm).symm;subst hr;conv=>whnf
   repeat' ((first|apply Ap<;>intro _|apply An)<;>conv=>whnf)
   all_goals try exact⟨B9⟩
   refine⟨y.val,⟨AE.refl _,trivial⟩,⟨trivial⟩,fun rr hr=>?_⟩;replace hr:y.val=rr:=(hr.trans (rfl)).symm;subst hr;conv=>whnf
   repeat' ((first|apply Ap<;>intro _|apply An)<;>conv=>whnf)
   all_goals try exact⟨B0⟩
   exact Ld.refl _
theorem AIn:FOk Tryz.prog [] 211 AR3:=A8 fun m _=>by
 have hΓ:=Ad Tryz.f211.ntmps _ _ (FL.all (.cons Pv (.cons Wl (.cons tY .nil)))) (HL.all .nil);refine Aw hΓ Tryz.func211 ?_;conv=>whnf
 repeat' ((first|apply Ap<;>intro _|apply An)<;>conv=>whnf)
 all_goals try exact⟨B9⟩
 refine⟨m.val,⟨AE.refl _,trivial⟩,⟨trivial⟩,fun rr hr=>?_⟩;replace hr:m.val=rr:=(hr.trans (rfl)).symm;subst hr;conv=>whnf
 repeat' ((first|apply Ap<;>intro _|apply An)<;>conv=>whnf)
 all_goals try exact⟨B0⟩
 refine⟨(),trivial,⟨trivial⟩,fun r hr=>?_⟩;subst hr;conv=>whnf
 repeat' ((first|apply Ap<;>intro _|apply An)<;>conv=>whnf)
 all_goals try exact⟨B0⟩
 refine⟨(m,loX),⟨AE.refl _,AE.refl _,trivial⟩,⟨trivial⟩,fun r hr=>?_⟩;subst hr;conv=>whnf
 repeat' ((first|apply Ap<;>intro _|apply An)<;>conv=>whnf)
 all_goals try exact⟨B9⟩
 exact Ld.refl _
theorem oG{l:List UInt8}{k:Nat}(hk:k<32):(if k=31 then V.int .u8 (Ag .or .u8 (Ag .and .u8 (((l.getD 31 0).toNat:Nat):Int) 127) 64)else if k=0 then V.int .u8 (Ag .and .u8 (((l.getD 0 0).toNat:Nat):Int) 248)else bf l k)=bv (Fx l).val k:=by
 have h:=bK (l:=l) hk
 rwa [Nat.zero_add]at h
def AW3:A7:=Bf (fun(h:List UInt8)=>[arrV 32 h]) (fun _=>True) Fx nV
theorem AG3:FOk Tryz.prog [] 113 AW3:=A8 fun h _=>by
 obtain⟨n,hn⟩:∃n,n=Fx h:=⟨_,rfl⟩;rw[←hn];have hr:∀k,k<32→(if k=31 then V.int .u8 (Ag .or .u8 (Ag .and .u8 (((h.getD 31 0).toNat:Nat):Int) 127) 64)else if k=0 then V.int .u8 (Ag .and .u8 (((h.getD 0 0).toNat:Nat):Int) 248)else bf h k)=bv n.val k:=fun k hk=>by rw[hn];exact oG hk
 have hΓ:=Ad Tryz.f113.ntmps _ _ (FL.all (.cons Pv .nil)) (HL.all .nil);refine Aw hΓ Tryz.func113 ?_;conv=>whnf
 repeat' ((first|apply Ap<;>intro _|apply An)<;>conv=>whnf)
 all_goals try exact⟨B9⟩
 all_goals try exact⟨fun k _=>Lq (c:=k=Int.toNat 31) (a:=V.int .u8 _) (b:=ite (k=Int.toNat 0) (V.int .u8 _) _) trivial (Lq (a:=V.int .u8 _) (b:=V.int .u8 _) trivial trivial)⟩
 refine⟨n.val,⟨AE.row hr,trivial⟩,⟨trivial⟩,fun rr hr=>?_⟩;subst hr;conv=>whnf
 repeat' ((first|apply Ap<;>intro _|apply An)<;>conv=>whnf)
 all_goals try exact⟨B9⟩
 exact Ld.refl _
theorem fC{f:Nat→V}{v:V}{k:Nat}(hk:k<32):(if 0≤k∧k<0+min (32 - 0) (32 - 0)then f (k - 0)else v)=f k:=if_pos ⟨Nat.zero_le k,by omega⟩
theorem AO0:FOk Tryz.prog G 71 AR4:=A8 fun s hs=>by
 replace hs:s.length=32:=hs;have hl:=Wd.sha_length s;obtain⟨h,hh⟩:∃h,h=Wd.sha s:=⟨_,rfl⟩;rw[←hh]at hl⊢;have hdl:(h.drop 32).length=32:=by rw[List.length_drop,hl]
 obtain⟨n,hn⟩:∃n,n=Fx h:=⟨_,rfl⟩;rw[←hn];have hΓ:=Ab Tryz.f71.ntmps _ _ [] (.cons (Wd.f50_ok.g) (.cons (Wj.g) (.cons (AG3.g) (.cons (O0.g) .nil)))) .nil;refine Aw hΓ Tryz.func71 ?_;conv=>whnf
 repeat' ((first|apply Ap<;>intro _|apply An)<;>conv=>whnf)
 all_goals try exact⟨B9⟩
 refine⟨.of true s,⟨AE.imm' hs.symm (fun k _=>congrArg (bf s) (Nat.zero_add k)),trivial⟩,⟨trivial,by show s.length≤_;omega⟩,fun rr hr=>?_⟩
 replace hr:h=rr:=(hr.trans hh.symm).symm;subst hr;conv=>whnf
 repeat' ((first|apply Ap<;>intro _|apply An)<;>conv=>whnf)
 all_goals try exact⟨B9⟩
 ·exact⟨fun k _=>by show Br (ite _ _ _);split<;>trivial⟩
 refine⟨h,⟨AE.row (fun k hk=>(fC (f:=fun k=>bf h (0+k)) hk).trans (congrArg (bf h) (Nat.zero_add k))),trivial⟩,⟨trivial⟩,fun rr hr=>?_⟩;replace hr:n=rr:=(hr.trans hn.symm).symm;subst hr;conv=>whnf
 repeat' ((first|apply Ap<;>intro _|apply An)<;>conv=>whnf)
 all_goals try exact⟨B9⟩
 refine⟨n.val,⟨AE.refl _,trivial⟩,⟨trivial⟩,fun rr hr=>?_⟩;replace hr:n.val=rr:=(hr.trans (rfl)).symm;subst hr;conv=>whnf
 repeat' ((first|apply Ap<;>intro _|apply An)<;>conv=>whnf)
 all_goals try exact⟨B0⟩
 ·exact⟨A0 (And.intro ⟨⟨rfl,by omega⟩⟩ ⟨fun _ _=>trivial⟩) A9⟩
 have hd:V.imm true 1 32 (fun k=>bf h (32+k))=Bl true (h.drop 32):=by
  rw[Bl,hdl];exact congrArg (V.imm true 1 32) (funext fun k=>(Ci h 32 k).symm)
 refine⟨V2 (h.drop 32) _,⟨AE.refl _,trivial⟩,⟨by show 1≤1000;omega,fun k hk=>by show(h.drop 32).length≤1000000;omega,fun k hk=>?_⟩,fun rr hr=>?_⟩
 ·obtain rfl:k=0:=by have:k<1:=hk;omega
  exact .inl (Eq.trans rfl hd)
 replace hr:h.drop 32=rr:=(hr.trans (by simp[V2,M5])).symm;subst hr;conv=>whnf
 repeat' ((first|apply Ap<;>intro _|apply An)<;>conv=>whnf)
 all_goals try exact⟨B9⟩
 exact Ld.refl _
theorem ANz:FOk Tryz.prog G 33 AKb:=A8 fun s hs=>by
 obtain⟨h,hh⟩:∃h,h=Wd.sha s:=⟨_,rfl⟩;obtain⟨y,hy⟩:∃y,y=Kk (Fx h):=⟨_,rfl⟩;have hr:arrV 32 (Vf s)=bV y:=by rw[T3,hy,hh];rfl
 rw[hr];have hΓ:=Ab Tryz.f33.ntmps _ _ [] (.cons (AO0) (.cons (sH) .nil)) .nil;refine Aw hΓ Tryz.func33 ?_;conv=>whnf
 repeat' ((first|apply Ap<;>intro _|apply An)<;>conv=>whnf)
 all_goals try exact⟨B9⟩
 refine⟨s,⟨AE.refl _,trivial⟩,⟨hs⟩,fun r hr=>?_⟩;replace hr:h=r:=(hr.trans hh.symm).symm;subst hr;conv=>whnf
 repeat' ((first|apply Ap<;>intro _|apply An)<;>conv=>whnf)
 all_goals try exact⟨B9⟩
 refine⟨(Fx h),⟨AE.refl _,trivial⟩,⟨trivial⟩,fun rr hr=>?_⟩;replace hr:y=rr:=(hr.trans (hy.symm)).symm;subst hr;conv=>whnf
 repeat' ((first|apply Ap<;>intro _|apply An)<;>conv=>whnf)
 all_goals try exact⟨B0⟩
 exact Ld.refl _
structure CA where
 r:Av
 p:Av
 t:By
def AVy:A7:=Bf (fun(x:CA)=>[bV x.r,bV x.p,x.t.v]) (fun x=>x.t.ok∧x.t.l.length≤100000) (fun x=>H3 (G3 x.r++G3 x.p++x.t.l)) bV
theorem AG0:FOk Tryz.prog G 213 AVy:=A8 fun⟨r,p,a⟩ ⟨ha,hn⟩=>by
 replace ha:a.ok:=ha;replace hn:a.l.length≤100000:=hn;refine by3 ha ?_
 show CP _ _ _ [bV r,bV p,Bl a.b a.l] fun v=>Ld v (bV (H3 (G3 r++G3 p++a.l)))
 generalize a.l=t at hn;generalize a.b=b;obtain⟨l,hl⟩:∃l,l=G3 r++G3 p++t:=⟨_,rfl⟩;obtain⟨h,hh⟩:∃h,h=Wd.sha l:=⟨_,rfl⟩;obtain⟨y,hy⟩:∃y,y=sX (L7 h):=⟨_,rfl⟩
 have hll:l.length≤1000000:=by
  rw[hl,List.length_append,List.length_append,B5,B5];omega
 have hhl:h.length=64:=by rw[hh];exact Wd.sha_length _
 rw[show H3 (G3 r++G3 p++t)=y by rw[hy,hh,hl];rfl];have hΓ:=Ab Tryz.f213.ntmps _ _ [(1, .one 0 (.one 1 (.one 2 (.many (.cons 3 (.one 4 (.one 5 (.one 6 (.one 7 (.done))))) (.cons 6 (.one 3 (.one 4 (.one 5 (.one 7 (.done))))) (.nil)))))))] (.cons (O0.g) (.cons (Wd.f50_ok.g) (.cons (AG5) .nil))) .nil;refine Aw hΓ Tryz.func213 ?_;conv=>whnf
 repeat' ((first|apply Ap<;>intro _|apply An)<;>conv=>whnf)
 all_goals try exact⟨B9⟩
 all_goals try exact trivial
 all_goals try exact⟨A0 trivial (A0 (And.intro ⟨⟨rfl,by omega⟩⟩ ⟨fun _ _=>trivial⟩) (A0 (And.intro ⟨⟨rfl,by omega⟩⟩ ⟨fun _ _=>trivial⟩) A9))⟩
 all_goals
  refine⟨Mp (G3 r) (G3 p) b t _,⟨AE.refl _,trivial⟩,⟨by show 3≤1000;omega,fun k hk=>?_,(Fh (by rw[B5];omega) (by rw[B5];omega) hn (Eq.trans rfl (ABf true r)) (Eq.trans rfl (ABf true p)) rfl).2.2⟩,fun rr hr=>?_⟩
  ·have:=(Fh (p:=G3 r) (q:=G3 p) (b:=b) (l:=t) (f:=fun k=>if k=0 then Bl true (G3 r)else if k=1 then Bl true (G3 p)else Bl b t) (by rw[B5];omega) (by rw[B5];omega) hn rfl rfl rfl).2.1 k hk
   exact Nat.le_trans this (by decide)
  replace hr:l=rr:=(hr.trans ((K7 _ _ _ _ _).trans hl.symm)).symm;subst hr;conv=>whnf
  repeat' ((first|apply Ap<;>intro _|apply An)<;>conv=>whnf)
 all_goals try exact⟨B9⟩
 all_goals try exact trivial
 all_goals
  refine⟨.of false l,⟨AE.refl _,trivial⟩,⟨trivial,hll⟩,fun rr hr=>?_⟩;replace hr:h=rr:=(hr.trans hh.symm).symm;subst hr;conv=>whnf
  repeat' ((first|apply Ap<;>intro _|apply An)<;>conv=>whnf)
 all_goals try exact⟨B9⟩
 all_goals try exact trivial
 all_goals
  refine⟨.of true h,⟨AE.imm' hhl.symm (fun k _=>congrArg (bf h) (Nat.zero_add k)),trivial⟩,⟨trivial,hhl⟩,fun rr hr=>?_⟩;replace hr:y=rr:=(hr.trans hy.symm).symm;subst hr;conv=>whnf
  repeat' ((first|apply Ap<;>intro _|apply An)<;>conv=>whnf)
 all_goals try exact⟨B9⟩
 all_goals exact Ld.refl _
theorem tT:FOk Tryz.prog G 163 AKc:=A8 fun⟨p,a,g⟩ ⟨hp,ha,hn,hg⟩=>by
 replace hp:p.length=32:=hp;replace ha:a.ok:=ha;replace hn:a.l.length≤100000:=hn;replace hg:g.length=64:=hg;refine CP.by2 ha ?_
 show CP _ _ _ [arrV 32 p,Bl a.b a.l,arrV 64 g] fun v=>Ld v (.bool (Zq p a.l g))
 generalize a.l=t at hn;generalize a.b=b;have hfl:(g.take 32).length=32:=by rw[List.length_take];omega
 have hsl:(g.drop 32).length=32:=by rw[List.length_drop];omega
 obtain⟨P,hP⟩:∃P:Av,P=⟨L7 p,Jv hp⟩:=⟨_,rfl⟩;obtain⟨F,hF⟩:∃F:Av,F=⟨L7 (g.take 32),Jv hfl⟩:=⟨_,rfl⟩;obtain⟨S,hS⟩:∃S:Av,S=⟨L7 (g.drop 32),Jv hsl⟩:=⟨_,rfl⟩;have pl:G3 P=p:=hP▸Wa hp;have fl:G3 F=g.take 32:=hF▸Wa hfl;obtain⟨c,hc⟩:∃c,c=H3 (G3 F++G3 P++t):=⟨_,rfl⟩;have hres:Zq p t g=Qw P.val c.val F.val S.val:=by rw[hc,pl,fl,hP,hF,hS];rfl
 have hpV:arrV 32 p=bV P:=by rw[hP];exact Kj p
 have hfr:∀k,k<32→bf g (0+k)=bv F.val k:=fun k hk=>by
  have h1:=congrFun (V.row.inj (Kj (g.take 32))).2.2 k;rw[hF,Nat.zero_add];refine Eq.trans ?_ h1;simp only[bf,List.getD_eq_getElem?_getD,List.getElem?_take];rw[if_pos hk]
 have hsr:∀k,bf g (32+k)=bv S.val k:=fun k=>by
  have h1:=congrFun (V.row.inj (Kj (g.drop 32))).2.2 k;rw[hS,←Ci];exact h1
 have hfc:∀k,k<32→(if 0≤k∧k<0+min (32 - 0) (32 - 0)then(fun k=>bf g (0+k)) (k - 0)else V.int .u8 0)=bv F.val k:=fun k hk=>(fC (f:=fun k=>bf g (0+k)) hk).trans (hfr k hk);have hsc:∀k,k<32→(if 0≤k∧k<0+min (32 - 0) (32 - 0)then(fun k=>bf g (32+k)) (k - 0)else V.int .u8 0)=bv S.val k:=fun k hk=>(fC (f:=fun k=>bf g (32+k)) hk).trans (hsr k);have hcases:=Zo (p:=P.val) (k:=c.val) (f:=F.val) (s:=S.val) c.isLt;rw[hres,hpV];generalize Qw P.val c.val F.val S.val=V0 at hcases⊢
 have fals:(¬S.val<Lo∨Cn P.val=none∨Cn F.val=none)→V0=false:=fun h0=>by
  rcases hcases with⟨_,h⟩|⟨_,h⟩|⟨_,h⟩|⟨h1,h2,h3,_⟩
  ·exact h
  ·exact h
  ·exact h
  ·rcases h0 with h0|h0|h0
   ·exact absurd h1 h0
   ·rw[h0]at h2;cases h2
   ·rw[h0]at h3;cases h3
 have good:S.val<Lo→(Cn P.val).isSome=true→(Cn F.val).isSome=true→∃x y:Av,Ir c.val P.val=some x.val∧Hc F.val x.val=some y.val∧V0=decide (y.val=Mw S.val):=fun h1 h2 h3=>by
  rcases hcases with⟨h,_⟩|⟨h,_⟩|⟨h,_⟩|⟨_,_,_,x,y,e1,e2,e3⟩
  ·exact absurd h1 h
  ·rw[h]at h2;cases h2
  ·rw[h]at h3;cases h3
  ·exact⟨⟨x,cJ e1⟩,⟨y,bD e2⟩,e1,e2,e3⟩
 clear hcases;obtain⟨df,hdf⟩:∃df,df=L6 F:=⟨_,rfl⟩
 have hd2:df.2=(Cn F.val).isSome:=by
  rw[hdf];unfold L6
  cases Cn F.val<;>rfl
 have hΓ:=Ab Tryz.f163.ntmps _ _ [] (.cons (AIn.g) (.cons (Rh) (.cons (AG0) (.cons (AGg) (.cons (AGf) (.cons (sH) .nil)))))) .nil;refine Aw hΓ Tryz.func163 ?_;conv=>whnf
 repeat' ((first|apply Ap<;>intro _|apply An)<;>conv=>whnf)
 all_goals try exact⟨B9⟩
 all_goals try exact⟨fun k _=>by show Br (ite _ _ _);split<;>trivial⟩
 all_goals try exact trivial
 all_goals
  refine⟨S,⟨AE.row hsc,trivial⟩,⟨trivial⟩,fun rr hr=>?_⟩;subst hr;conv=>whnf
  repeat' ((first|apply Ap<;>intro _|apply An)<;>conv=>whnf)
  all_goals try exact⟨B9⟩
  ·rename_i h1
   have h1:¬S.val<Lo:=by
    have h:(!decide (S.val<Lo))=true:=h1;simpa using h
   rw[fals (.inl h1)];exact Ld.refl _
  all_goals try exact⟨fun k _=>by show Br (ite _ _ _);split<;>trivial⟩
  rename_i h1
  have h1:S.val<Lo:=by
   have h:(!decide (S.val<Lo))=false:=h1;simpa using h
  refine⟨F,⟨AE.row hfc,trivial⟩,⟨trivial⟩,fun rr hr=>?_⟩;replace hr:df=rr:=(hr.trans hdf.symm).symm;subst hr;conv=>whnf
  repeat' ((first|apply Ap<;>intro _|apply An)<;>conv=>whnf)
  all_goals try exact⟨B9⟩
  ·rename_i h3;have h3:df.2=false:=by simpa using h3
   rw[fals (.inr (.inr (Option.isNone_iff_eq_none.1 (Option.isSome_eq_false_iff.1 (hd2.symm.trans h3)))))];exact Ld.refl _
  all_goals try exact⟨fun k _=>by show Br (ite _ _ _);split<;>trivial⟩
  rename_i h3;have h3:df.2=true:=by simpa using h3
  refine⟨⟨F,P, .of b t⟩,⟨AE.row hfc,AE.refl _,AE.refl _,trivial⟩,⟨trivial,hn⟩,fun rr hr=>?_⟩;replace hr:c=rr:=(hr.trans hc.symm).symm;subst hr;conv=>whnf
  repeat' ((first|apply Ap<;>intro _|apply An)<;>conv=>whnf)
  all_goals try exact⟨B9⟩
  obtain⟨o,ho⟩:∃o,o=oB (Ir c.val P.val):=⟨_,rfl⟩
  have ho2:o.2=(Cn P.val).isSome:=by
   rw[ho];unfold Ir
   cases Cn P.val<;>rfl
  refine⟨(c,P),⟨AE.refl _,AE.refl _,trivial⟩,⟨trivial⟩,fun rr hr=>?_⟩;replace hr:o=rr:=(hr.trans (ho.symm)).symm;subst hr;conv=>whnf
  repeat' ((first|apply Ap<;>intro _|apply An)<;>conv=>whnf)
  all_goals try exact⟨B0⟩
  ·rename_i h2;have h2:o.2=false:=by simpa using h2
   rw[fals (.inr (.inl (Option.isNone_iff_eq_none.1 (Option.isSome_eq_false_iff.1 (ho2.symm.trans h2)))))];exact Ld.refl _
  all_goals try exact⟨fun k _=>by show Br (ite _ _ _);split<;>trivial⟩
  rename_i h2;have h2:o.2=true:=by simpa using h2
  obtain⟨x,y,e1,e2,e3⟩:=good h1 (ho2.symm.trans h2) (hd2.symm.trans h3);have hox:o=(x.val,true):=ho.trans (congrArg oB e1);refine⟨(F,x),⟨AE.row hfc,AE.of (congrArg (fun r:Nat×Bool=>Cb r.1) hox),trivial⟩,⟨trivial⟩,fun rr hr=>?_⟩;replace hr:rr=(y.val,true):=hr.trans (congrArg oB e2);subst hr;conv=>whnf
  repeat' ((first|apply Ap<;>intro _|apply An)<;>conv=>whnf)
  all_goals try exact⟨B9⟩
  all_goals try exact⟨fun k _=>by show Br (ite _ _ _);split<;>trivial⟩
  obtain⟨w,hw⟩:∃w,w=Kk S:=⟨_,rfl⟩;refine⟨S,⟨AE.row hsc,trivial⟩,⟨trivial⟩,fun rr hr=>?_⟩;replace hr:w=rr:=(hr.trans hw.symm).symm;subst hr;conv=>whnf
  repeat' ((first|apply Ap<;>intro _|apply An)<;>conv=>whnf)
  all_goals try first|exact⟨Bc⟩|exact⟨fun _ _=>rfl⟩
  all_goals exact Ld.of (congrArg V.bool ((Wn y.isLt w.isLt).trans (by rw[e3,hw];rfl)))
end Go.Proofs.YtaihjcpfjgpmoaaGreatDoor
