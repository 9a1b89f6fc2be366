/- Part of the claim ModelPuts: N46, N47, N48, N49, N50, N51, N52. -/
import Derived.Test.YtaihjcpfjgpmoaaGreatDoorM1
import Derived.Test.YtaihjcpfjgpmoaaGreatDoorZD
import Derived.Test.YtaihjcpfjgpmoaaGreatDoorZF
import Derived.Test.YtaihjcpfjgpmoaaGreatDoorNG
set_option linter.unusedVariables false
set_option linter.unusedSimpArgs false
set_option maxRecDepth 100000
set_option maxHeartbeats 2000000
namespace Go.Proofs.YtaihjcpfjgpmoaaGreatDoor
open Go Go.DD
def s1:List UInt8:=1::List.replicate 31 0
def p1:List UInt8:=Ol s1
theorem pT:p1.length=32:=Yu s1
def o1:Bw:={Il with kind:=1,key:=[107],val:=[118]}
theorem uD(k:Nat):V.int .u8 0=bf s1 (k+1):=by
 show V.int .u8 0=V.int .u8 (((List.replicate 31 (0:UInt8)).getD k 0).toNat:Nat)
 rw[show(List.replicate 31 (0:UInt8)).getD k 0=0 by rw[List.getD_eq_getElem?_getD,List.getElem?_replicate];split<;>rfl];rfl
def f1:Fd:=H5 p1
theorem zZ:G9 f1:=⟨pT,fun k hk=>absurd hk (Nat.not_lt_zero _),⟨Sp,by decide⟩,⟨Sp,by decide⟩⟩
theorem Ym:Ux Il=true:=by decide
theorem sE:Be f1=(Kb,true):=by
 simp[Be,f1,H5,Md,Er,Ym]
theorem kR{l:Nat→Fd}(h:(Be (l 0)).2=true):B3 1 l=true:=by
 simp[B3,List.range_succ,Ls,h]
theorem zY:B3 1 (fun _=>f1)=true:=kR (by rw[sE])
def x1:xI:=⟨2,s1,⟨false,1,fun _=>f1⟩,o1⟩
theorem ADk:Dd x1.kd x1.s=p1:=ACg s1
theorem uR:En x1.a.l x1.a.n (Dd x1.kd x1.s)=0:=by
 rw[ADk]
 show G5 (fun _=>f1) p1 1 0=0
 simp[G5,f1,H5]
theorem AKh:Fq o1=true:=by decide
theorem AT1:x1.nx.k=0:=by
 show(En x1.a.l x1.a.n (Dd x1.kd x1.s)).toNat=0
 rw[uR];rfl
theorem AT2:uX x1.nx:=⟨.inr rfl,rfl,fun _ _=>zZ,zY,by rw[AT1];exact Nat.zero_lt_one,AKh⟩
theorem ADj:C7 x1.a=0:=by
 have:C7 x1.a=Ep (fun _=>f1) 1:=if_pos zY
 rw[this];rfl
theorem AP4:Vh x1.nx=false:=by
 have h:C7 x1.nx.a=0:=ADj;simp only[Vh,h]
 decide
def e1:Bw:=Sg 2 s1 (Jy x1.nx)
theorem Wu:Fg x1.nx=(e1,0):=(if_neg (by simp[xI.nx,x1,f1,H5])).trans (if_neg (by simp[AP4]))
def f2:Fd:=Bn f1 e1
def l2:Nat→Fd:=fun j=>if j=0 then f2 else f1
theorem AP3:Sd x1=(1,l2,0):=by
 have h1:B3 x1.a.n x1.a.l=true:=zY;have h2:=uR;have h3:Fq x1.o=true:=AKh;have h4:¬(x1.o.kind=2∧(Qk x1.gt).2≠0):=fun h=>absurd h.1 (by decide)
 have h5:¬(Fg x1.nx).2≠0:=by rw[Wu];simp
 refine(if_neg (by simp[h1])).trans ((if_neg (by rw[h2];decide)).trans ((if_neg (by simp[h3])).trans ((if_neg h4).trans ((if_neg h5).trans ?_))));rw[AT1,Wu];rfl
theorem AKv:AEa ⟨f1,e1⟩:=by
 have h:=Wp AT2 (by rw[Wu]) ADk.symm;rw[Wu]at h;exact h
theorem AA2(k:Nat):f2.es k=e1:=by
 show(if k<0 then f1.es k else e1)=e1
 exact if_neg (Nat.not_lt_zero k)
theorem AMd:G9 f2:=⟨pT,fun k _=>by rw[AA2];exact AKv.pe,⟨Sp,by decide⟩,⟨Sp,by decide⟩⟩
theorem AFo:(Be f2).2=true:=by
 have h:=AKv;have h1:(W9 e1).2=0:=(ABe h.pe.1).2 h.ent;have h2:e1.author=p1:=h.auth;have h3:e1.seq=(0:Nat)+1:=h.seq;have h4:e1.prev=Kb:=by have:=h.prev;rw[sE]at this;exact this
 have hf:Md f2.author f2.es f2.n=((W9 e1).1,true):=by
  show Md p1 f2.es 1=_
  rw[Md,if_neg (by omega),Er,if_neg (by simp[Er]),AA2,if_neg ?_]
  rintro(h|h|h|h)
  ·exact h h1
  ·exact h h2
  ·exact h h3
  ·exact h (h4.trans rfl)
 simp only[Be,hf,Bool.true_and]
 show(if false=true then _ else Ux Il&&Ux Il)=true
 simp[Ym]
theorem AS7:B3 1 l2=true:=kR AFo
theorem AJw:Dj 1 l2=[Cc e1]:=by
 rw[Dj,if_pos AS7,Df,if_neg (by simp[l2,f2,Bn,f1,H5])]
 show Eg f2.es 1 []=_
 rw[Eg,AA2,Eg];unfold Ay;rw[if_pos (by simp[iS,Qd])];simp
theorem AP2:Qk ⟨false,1,Dy [Cc e1],[107]⟩=([118],0):=by
 have hk:wB ⟨false,1,Dy [Cc e1],[107]⟩=0:=by
  show Nd (Dy [Cc e1]) [107] 1 0=0
  rw[Nd,if_pos (show(Dy [Cc e1] 0).key=[107]from rfl)];rfl
 unfold Qk;rw[hk];exact if_neg (by rw[not_or];exact⟨by decide,by show¬(decide (e1.kind=2))=true;exact of_decide_eq_true rfl⟩)
def F17:A7:=Bf (fun(_:Unit)=>[]) (fun _=>True) (fun _=>true) .bool
theorem AMb:FOk Tryz.prog G 7 F17:=A8 fun _ _=>by
 have hΓ:=Ab Tryz.f7.ntmps _ _ [] (.cons (kZ.g) (.cons (AMh) (.cons (sP) (.cons (fU) (.cons (fZ.g) (.cons (vN.g) .nil)))))) .nil;refine Aw hΓ Tryz.func7 ?_;conv=>whnf
 repeat' ((first|apply Ap<;>intro _|apply An)<;>conv=>whnf)
 all_goals try exact⟨Ah⟩
 ·refine⟨fun k _=>?_⟩
  cases k<;>exact trivial
 refine⟨s1,⟨AE.refl _,AE.row fun k _=>?_,trivial⟩,⟨rfl⟩,?_⟩
 ·cases k with
  |zero=>rfl
  |succ k=>exact Eq.trans rfl (uD k)
 intro p hp;replace hp:p=p1:=hp;subst hp;conv=>whnf
 repeat' (apply An<;>conv=>whnf)
 all_goals try first|exact⟨Ah⟩|exact⟨fun _ _=>trivial⟩|exact⟨fun _ _=>rfl⟩
 ·refine⟨fun k hk=>?_⟩;obtain rfl:k=0:=by omega
  exact fun _ _=>trivial
 refine⟨⟨true,1,fun _=>p1⟩,⟨AE.imm fun k hk=>?_,trivial⟩,⟨by decide,fun _ _=>pT⟩,?_⟩
 ·obtain rfl:k=0:=by omega
  rfl
 intro r hr;obtain rfl:r=(1,(fun _=>p1),0):=hr.trans ((if_neg (by decide)).trans (if_neg (by simp[Xl])))
 conv=>whnf
 repeat' (apply An<;>conv=>whnf)
 all_goals try first|exact⟨Ah⟩|exact⟨fun _ _=>trivial⟩|exact⟨fun _ _=>rfl⟩
 ·refine⟨fun k hk=>?_⟩;obtain rfl:k=0:=by omega
  exact trivial
 ·refine⟨fun k _=>?_⟩
  cases k<;>exact trivial
 refine⟨x1,⟨AE.refl _,AE.row fun k _=>?_,AE.refl _,xL (.cons (Cm.refl _) (.cons (Cm.refl _) (.cons (Cm.imm (m:=1) (g:=bf [118]) rfl fun k hk=>?_) .nil))),trivial⟩,⟨.inr rfl,rfl,fun _ _=>zZ⟩,?_⟩
 ·cases k with
  |zero=>rfl
  |succ k=>exact Eq.trans rfl (uD k)
 ·obtain rfl:k=0:=by omega
  rfl
 intro r hr;replace hr:r=(1,l2,0):=hr.trans AP3;subst hr;conv=>whnf
 repeat' (apply An<;>conv=>whnf)
 all_goals try first|exact⟨Ah⟩|exact⟨fun _ _=>trivial⟩|exact⟨fun _ _=>rfl⟩
 refine⟨⟨false,1,l2⟩,⟨AE.refl _,trivial⟩,⟨fun k hk=>?_⟩,?_⟩
 ·obtain rfl:k=0:=by have:k<1:=hk;omega
  exact AMd
 intro vw hvw;replace hvw:vw=[Cc e1]:=hvw.trans AJw;subst hvw;conv=>whnf
 repeat' (apply An<;>conv=>whnf)
 all_goals try first|exact⟨Ah⟩|exact⟨fun _ _=>trivial⟩|exact⟨fun _ _=>rfl⟩
 refine⟨⟨false,1,Dy [Cc e1],[107]⟩,⟨AE.refl _,AE.refl _,trivial⟩,⟨by decide,fun k hk=>?_⟩,?_⟩
 ·obtain rfl:k=0:=by have:k<1:=hk;omega
  show[(118:UInt8)].length≤1000000
  decide
 intro g hg;replace hg:g=([118],0):=hg.trans AP2;subst hg;have hb:(bytesOf [(118:UInt8)].length (bf [118])==[(118:UInt8)])=true:=by decide
 conv=>whnf
 repeat' (first|(apply Ap<;>intro hp<;>first|(exfalso;revert hp;simp;done)|conv=>whnf)|(apply An<;>conv=>whnf))
 all_goals try first|exact⟨Ah⟩|exact⟨fun _ _=>Dz _ _⟩
 ·refine⟨(2,3,1),⟨AE.refl _,AE.refl _,AE.refl _,trivial⟩,⟨by decide⟩,?_⟩;intro z hz;obtain rfl:z=110:=hz.trans (by decide);conv=>whnf
  repeat' (first|(apply Ap<;>intro hp<;>first|(exfalso;revert hp;simp;done)|conv=>whnf)|(apply An<;>conv=>whnf))
  exact Ld.refl _
 ·exact absurd (hb.symm.trans hp) (by decide)
def AVv:A7:=Bf (fun(e:Bw)=>[Ak e]) (fun e=>Cy e∧Al e=true) (fun e=>(Kl e).by) (Bl false)
set_option maxHeartbeats 1000000 in
theorem AFy:FOk Tryz.prog G 123 AVv:=A8 fun e ⟨⟨hw,hst⟩,hok⟩=>by
 have hΓ:Aj Tryz.prog (oL Tryz.f123.ntmps [(136,F68),(138,F48)] [] [(137,ALj)] [(1, .one 0 (.one 2 (.many (.cons 1 (.one 3 (.one 4 (.one 5 (.one 6 (.one 7 (.one 8 (.one 9 (.one 10 (.done))))))))) (.cons 3 (.one 1 (.one 4 (.one 5 (.one 6 (.one 7 (.one 8 (.one 9 (.one 10 (.done))))))))) (.nil))))))]):=R9 _ _ _ _ _ (.cons fS.g (.cons AA3 .nil)) .nil (.cons uC .nil);refine Aw hΓ Tryz.func123 ?_;conv=>whnf
 refine⟨6,rfl,⟨trivial⟩,?_⟩;conv=>whnf
 repeat' ((first|apply Ap<;>intro _|apply An)<;>conv=>whnf)
 all_goals try exact trivial
 all_goals try exact rfl
 ·refine vj P9 ?_;conv=>whnf
  refine⟨1,rfl,⟨trivial⟩,?_⟩;conv=>whnf
  repeat' ((first|apply Ap<;>intro _|apply An)<;>conv=>whnf)
  all_goals try exact⟨Ib⟩
  refine⟨.fld 0 0 0 32 32,[some 2],?_⟩;conv=>whnf
  repeat' ((first|apply Ap<;>intro _|apply An)<;>conv=>whnf)
  all_goals try exact⟨Ib⟩
  refine⟨e.seq,rfl,⟨trivial⟩,?_⟩;conv=>whnf
  repeat' ((first|apply Ap<;>intro _|apply An)<;>conv=>whnf)
  all_goals try exact⟨Ib⟩
  refine⟨.fld 2 33 0 32 32,[some 2],?_⟩;conv=>whnf
  repeat' ((first|apply Ap<;>intro _|apply An)<;>conv=>whnf)
  all_goals try exact⟨Ib⟩
  refine⟨e.stamp,rfl,⟨trivial⟩,?_⟩;conv=>whnf
  repeat' ((first|apply Ap<;>intro _|apply An)<;>conv=>whnf)
  all_goals try exact⟨Ib⟩
  refine⟨3,rfl,⟨trivial⟩,?_⟩;conv=>whnf
  repeat' ((first|apply Ap<;>intro _|apply An)<;>conv=>whnf)
  all_goals try exact⟨Ib⟩
  refine⟨e.kind,rfl,⟨trivial⟩,?_⟩;conv=>whnf
  repeat' ((first|apply Ap<;>intro _|apply An)<;>conv=>whnf)
  all_goals try exact⟨Ib⟩
  refine⟨.imm false e.val.length (bf e.val),[],?_⟩;conv=>whnf
  repeat' ((first|apply Ap<;>intro _|apply An)<;>conv=>whnf)
  all_goals try first|exact⟨Bc⟩|exact⟨fun _ _=>rfl⟩|exact⟨trivial⟩
  refine Or.inl ?_;conv=>whnf
  repeat' ((first|apply Ap<;>intro _|apply An)<;>conv=>whnf)
  all_goals try first|exact⟨Bc⟩|exact⟨⟨by decide,by decide⟩⟩
  ·refine⟨?_⟩;refine(A0 ?_ (A0 ?_ (A0 ?_ (A0 ?_ (A0 ?_ (A0 ?_ (A0 ?_ (A0 ?_ (A0 ?_ (A0 ?_ A9))))))))));all_goals(conv=>whnf)
   all_goals(repeat' (apply An<;>conv=>whnf))
   all_goals first
    |trivial
    |exact⟨⟨rfl,by decide⟩⟩
    |exact⟨fun _ _=>trivial⟩
  refine⟨⟨P5 e,Kl e⟩,⟨AE.tok (n:=10) ?_,trivial⟩,⟨R4 hw hok 4,X9 e,by have:=T5 hw hok;show(Kl e).by.length≤32768;omega,by show 10≤600;omega,rfl⟩,?_⟩
  ·refine(A0 ?_ (A0 ?_ (A0 ?_ (A0 ?_ (A0 ?_ (A0 ?_ (A0 ?_ (A0 ?_ (A0 ?_ (A0 ?_ A9))))))))))
   ·exact .inl rfl
   ·exact .inl rfl
   ·exact .inr ⟨rfl,rfl⟩
   ·exact .inr ⟨rfl,rfl⟩
   ·exact .inr ⟨rfl,rfl⟩
   ·exact .inl (Eq.trans rfl (Dh hw.2.1))
   ·exact .inr ⟨rfl,rfl⟩
   ·exact .inl (Eq.trans rfl (Dh hw.1))
   ·exact .inr ⟨rfl,rfl⟩
   ·exact .inr ⟨rfl,rfl⟩
  intro r hr;replace hr:r=(Kl e).by:=hr
  rw[←hr];conv=>whnf
  repeat' ((first|apply Ap<;>intro _|apply An)<;>conv=>whnf)
  ·exact⟨fun _ _=>Bg _ _⟩
  ·exact Ld.refl _
 ·refine vj P9 ?_;conv=>whnf
  refine⟨1,rfl,⟨trivial⟩,?_⟩;conv=>whnf
  repeat' ((first|apply Ap<;>intro _|apply An)<;>conv=>whnf)
  all_goals try exact⟨Ib⟩
  refine⟨.fld 0 0 0 32 32,[some 1],?_⟩;conv=>whnf
  repeat' ((first|apply Ap<;>intro _|apply An)<;>conv=>whnf)
  all_goals try exact⟨Ib⟩
  refine⟨e.seq,rfl,⟨trivial⟩,?_⟩;conv=>whnf
  repeat' ((first|apply Ap<;>intro _|apply An)<;>conv=>whnf)
  all_goals try exact⟨Ib⟩
  refine⟨.fld 2 33 0 32 32,[some 1],?_⟩;conv=>whnf
  repeat' ((first|apply Ap<;>intro _|apply An)<;>conv=>whnf)
  all_goals try exact⟨Ib⟩
  refine⟨e.stamp,rfl,⟨trivial⟩,?_⟩;conv=>whnf
  repeat' ((first|apply Ap<;>intro _|apply An)<;>conv=>whnf)
  all_goals try exact⟨Ib⟩
  refine⟨3,rfl,⟨trivial⟩,?_⟩;conv=>whnf
  repeat' ((first|apply Ap<;>intro _|apply An)<;>conv=>whnf)
  all_goals try exact⟨Ib⟩
  refine⟨e.kind,rfl,⟨trivial⟩,?_⟩;conv=>whnf
  repeat' ((first|apply Ap<;>intro _|apply An)<;>conv=>whnf)
  all_goals try exact⟨Ib⟩
  refine⟨.imm false e.val.length (bf e.val),[],?_⟩;conv=>whnf
  repeat' ((first|apply Ap<;>intro _|apply An)<;>conv=>whnf)
  all_goals try first|exact⟨Bc⟩|exact⟨fun _ _=>rfl⟩|exact⟨trivial⟩
  refine Or.inl ?_;conv=>whnf
  repeat' ((first|apply Ap<;>intro _|apply An)<;>conv=>whnf)
  all_goals try first|exact⟨Bc⟩|exact⟨⟨by decide,by decide⟩⟩
  ·refine⟨?_⟩;refine(A0 ?_ (A0 ?_ (A0 ?_ (A0 ?_ (A0 ?_ (A0 ?_ (A0 ?_ (A0 ?_ (A0 ?_ (A0 ?_ A9))))))))));all_goals(conv=>whnf)
   all_goals(repeat' (apply An<;>conv=>whnf))
   all_goals first
    |trivial
    |exact⟨⟨rfl,by decide⟩⟩
    |exact⟨fun _ _=>trivial⟩
  refine⟨⟨P5 e,Kl e⟩,⟨AE.tok (n:=10) ?_,trivial⟩,⟨R4 hw hok 4,X9 e,by have:=T5 hw hok;show(Kl e).by.length≤32768;omega,by show 10≤600;omega,rfl⟩,?_⟩
  ·refine(A0 ?_ (A0 ?_ (A0 ?_ (A0 ?_ (A0 ?_ (A0 ?_ (A0 ?_ (A0 ?_ (A0 ?_ (A0 ?_ A9))))))))))
   ·exact .inl rfl
   ·exact .inl rfl
   ·exact .inr ⟨rfl,rfl⟩
   ·exact .inr ⟨rfl,rfl⟩
   ·exact .inr ⟨rfl,rfl⟩
   ·exact .inl (Eq.trans rfl (Dh hw.2.1))
   ·exact .inr ⟨rfl,rfl⟩
   ·exact .inl (Eq.trans rfl (Dh hw.1))
   ·exact .inr ⟨rfl,rfl⟩
   ·exact .inr ⟨rfl,rfl⟩
  intro r hr;replace hr:r=(Kl e).by:=hr
  rw[←hr];conv=>whnf
  repeat' ((first|apply Ap<;>intro _|apply An)<;>conv=>whnf)
  ·exact⟨fun _ _=>Bg _ _⟩
  ·exact Ld.refl _
theorem AO2:FOk Tryz.prog G 78 AKa:=A8 fun⟨k,e⟩ ⟨hk,he⟩=>by
 replace hk:D0 k:=hk;replace he:Cy e:=he
 show CP _ _ _ [.int .i64 k,Ak e] fun v=>Ld v (.bool (Bh k e))
 have hbl:=Xm e;have hv:Bh k e=(Al e&&Ua k e.author (Li e).1 e.sig):=rfl;obtain⟨w,hw⟩:∃w,w=(Li e).1:=⟨_,rfl⟩;obtain⟨q,hq⟩:∃q,q=Ua k e.author w e.sig:=⟨_,rfl⟩;rw[←hw]at hbl hv;rw[←hq]at hv;rw[hv];have hbo:Al e=true→(Kl e).by=w:=fun h=>by rw[hw,Rc he.1 h]
 obtain⟨o,ho⟩:∃o,o=Al e:=⟨_,rfl⟩;rw[←ho]at hbo⊢;have hΓ:=Ab Tryz.f78.ntmps _ _ [] (.cons (oP.g) (.cons (AFy) (.cons (AIm) .nil))) .nil;refine Aw hΓ Tryz.func78 ?_;conv=>whnf
 repeat' ((first|apply Ap<;>intro _|apply An)<;>conv=>whnf)
 all_goals try exact⟨Ah⟩
 refine⟨e,⟨AE.refl _,trivial⟩,⟨he.1⟩,fun rr hr=>?_⟩;replace hr:o=rr:=(hr.trans ho.symm).symm;subst hr;conv=>whnf
 repeat' ((first|apply Ap<;>intro _|apply An)<;>conv=>whnf)
 all_goals try exact⟨Ah⟩
 ·rename_i hc;replace hc:o=true:=hc;rw[hc,Bool.true_and];refine⟨e,⟨AE.refl _,trivial⟩,⟨he,ho.symm.trans hc⟩,fun rr hr=>?_⟩;replace hr:w=rr:=(hr.trans (hbo hc)).symm;subst hr;conv=>whnf
  repeat' ((first|apply Ap<;>intro _|apply An)<;>conv=>whnf)
  all_goals try exact⟨Ah⟩
  refine⟨⟨k,e.author, .of false w,e.sig⟩,⟨AE.refl _,AE.refl _,AE.refl _,AE.refl _,trivial⟩,⟨hk,he.1.1,trivial,by show w.length≤100000;omega,he.1.2.2⟩,fun rr hr=>?_⟩;replace hr:q=rr:=(hr.trans hq.symm).symm;subst hr;conv=>whnf
  repeat' ((first|apply Ap<;>intro _|apply An)<;>conv=>whnf)
  all_goals try exact⟨Ah⟩
  exact Ld.refl _
 ·rename_i hc;replace hc:o=false:=hc;rw[hc,Bool.false_and];exact Ld.refl _
def APm:A7:=Bf (fun(a:By)=>[a.v]) pR (fun a=>a.l) (Bl false)
theorem zW:FOk Tryz.prog [] 162 APm:=A8 fun a ⟨ha,hn⟩=>by
 refine CP.by1 ha ?_;generalize a.l=l at hn;generalize a.b=b1;have hΓ:=Ad Tryz.f162.ntmps _ _ (FL.all .nil) (HL.all .nil);refine Aw hΓ Tryz.func162 ?_;conv=>whnf
 repeat' ((first|apply Ap<;>intro _|apply An)<;>conv=>whnf)
 all_goals try exact⟨Bc⟩
 refine Or.inl ?_;conv=>whnf
 repeat' ((first|apply Ap<;>intro _|apply An)<;>conv=>whnf)
 all_goals try first|exact⟨Bc⟩|exact⟨⟨by show l.length*1≤_;omega,by omega⟩⟩|exact⟨fun _ _=>Bg _ _⟩
 exact Ld.imm fun k hk=>congrArg (bf l) (by omega)
def FkE:A7:=Bf (fun(e:Bw)=>[Ak e]) cN (fun e=>e) Ak
theorem Xw:FOk Tryz.prog [] 121 FkE:=A8 fun e hv=>by
 have hΓ:=Ad Tryz.f121.ntmps _ _ (FL.all (.cons zW .nil)) (HL.all .nil);refine Aw hΓ Tryz.func121 ?_;conv=>whnf
 repeat' ((first|apply Ap<;>intro _|apply An)<;>conv=>whnf)
 refine⟨.of false e.val,⟨AE.refl _,trivial⟩,⟨trivial,hv⟩,?_⟩;intro r hr;replace hr:r=e.val:=hr;subst hr;conv=>whnf
 repeat' ((first|apply Ap<;>intro _|apply An)<;>conv=>whnf)
 all_goals try exact⟨Ah⟩
 exact Ld.refl _
def FkP:A7:=Bf (fun(p:Pf)=>[aC p]) okP (fun p=>p) aC
theorem AAv:FOk Tryz.prog [] 161 FkP:=A8 fun p ⟨hv1,hv2⟩=>by
 have hΓ:=Ad Tryz.f161.ntmps _ _ (FL.all (.cons Xw .nil)) (HL.all .nil);refine Aw hΓ Tryz.func161 ?_;conv=>whnf
 repeat' ((first|apply Ap<;>intro _|apply An)<;>conv=>whnf)
 all_goals try exact⟨Ah⟩
 refine⟨p.a,⟨AE.refl _,trivial⟩,⟨hv1⟩,?_⟩;intro r hr;replace hr:r=p.a:=hr;subst hr;conv=>whnf
 repeat' ((first|apply Ap<;>intro _|apply An)<;>conv=>whnf)
 all_goals try exact⟨Ah⟩
 refine⟨p.b,⟨AE.refl _,trivial⟩,⟨hv2⟩,?_⟩;intro r hr;replace hr:r=p.b:=hr;subst hr;conv=>whnf
 repeat' ((first|apply Ap<;>intro _|apply An)<;>conv=>whnf)
 all_goals try exact⟨Ah⟩
 exact Ld.refl _
theorem Vo:Aj Tryz.prog (Ka Tryz.f160.ntmps [(121,FkE)] []):=Ad Tryz.f160.ntmps [(121,FkE)] [] (FL.all (.cons Xw .nil)) (HL.all .nil)
def AVi:Ai:=fun xs h κ=>xs.length=1∧B4 Tryz.prog (Ka Tryz.f160.ntmps [(121,FkE)] []) (Bd Tryz.f160) Tryz.f160.results.toList xs h κ
theorem AJ4:Af Tryz.prog [] 160 AVi:=Q6 1 Vo Tryz.func160
def HkE:Ai:=L8 (fun(a:xO)=>[Kn a.b a.n a.es]) (fun _=>[]) (fun a=>a.n≤10000∧∀k,k<a.n→cN (a.es k)) (fun a=> .sl 0 [] 133 0 a.n a.n) (fun a=>[some (.row 133 a.n fun k=>Ak (a.es k))])
theorem AN8:Af Tryz.prog [] 160 HkE:=Cq AJ4 (fun⟨b,n,es⟩ κ ⟨hn,hv⟩ h=>by
 replace hn:n≤10000:=hn;replace hv:∀k,k<n→cN (es k):=hv;refine⟨rfl,?_⟩;refine vj Vo ?_;conv=>whnf
 refine A4 (ι:=Nat) (fun i=>[(0,Kn b n es),(3, .sl 0 [] 133 0 i i),(4, .int .i64 (i:Nat))]) (fun i=>[some (.row 133 i fun k=>Ak (es k))]) (fun i=>i≤n) (fun i=>n - i) 0 [none] ?_ (fun i hi=>vj Vo ?_)
 ·conv=>whnf
  repeat' ((first|apply Ap<;>intro _|apply An)<;>conv=>whnf)
  all_goals try exact⟨Ah⟩
 ·conv=>whnf
  apply Ap<;>intro h3<;>conv=>whnf
  ·have hin:i<n:=by simpa using h3
   conv=>whnf
   repeat' ((first|apply Ap<;>intro _|apply An)<;>conv=>whnf)
   all_goals(try simp only[decide_eq_true_eq,decide_eq_false_iff_not,Int.toNat_natCast,Bool.not_eq_true,Bool.not_eq_false]at*)
   all_goals try exact⟨Ah⟩
   refine⟨es i,⟨AE.refl _,trivial⟩,⟨hv i hin⟩,?_⟩;intro r hr;replace hr:r=es i:=hr;subst hr;conv=>whnf
   refine And.intro (show Ob (_≤_)from⟨by omega⟩) ?_;conv=>whnf
   refine Or.inl ?_;conv=>whnf
   repeat' (apply An<;>conv=>whnf)
   all_goals try first|exact⟨Ah⟩|exact⟨⟨by simp only[];omega,by omega⟩⟩
   refine⟨i+1,[some 2],?_⟩;conv=>whnf
   repeat' (apply An<;>conv=>whnf)
   all_goals try exact⟨Ah⟩
   ·exact⟨by rw[A3 (by omega) (by omega)];rfl⟩
   ·refine⟨?_⟩;refine Db ?_ ?_ fun k _=>G8 _
    ·exact fun k hk=>if_pos hk
    ·exact(if_neg (Nat.lt_irrefl i)).trans (by rw[Nat.sub_self];rfl)
  ·have hin:i=n:=by
    have:¬((i:Nat):Int)<(n:Nat):=by simpa using h3
    omega
   subst hin;refine vj Vo ?_;conv=>whnf
   refine⟨[some 0], .sl 0 [] 133 0 i i,[some (.row 133 i fun k=>Ak (es k))],?_⟩;conv=>whnf
   repeat' (apply An<;>conv=>whnf)
   all_goals try first|exact⟨Bc⟩|exact⟨fun k _=>Aa _ (G8 _)⟩
   exact h) (fun _=>by simp) (fun _=>by simp[Hf]) (fun x u hu=>by
  simp at hu
  subst hu;simp only[Hf];intro k _;exact Mk _)
def AUo:A7:=Bf (fun(a:xO)=>[Kn a.b a.n a.es]) (fun a=>a.n≤10000∧∀k,k<a.n→cN (a.es k)) (fun a=>a) (fun a=>Kn false a.n a.es)
theorem AGt:FOk Tryz.prog [] 160 AUo:=A8 fun⟨b,n,es⟩ ⟨hn,hv⟩=>by
 replace hn:n≤10000:=hn;replace hv:∀k,k<n→cN (es k):=hv;have hΓ:=Ad Tryz.f160.ntmps _ _ (FL.all (.cons Xw .nil)) (HL.all .nil);refine Aw hΓ Tryz.func160 ?_;conv=>whnf
 refine A4 (ι:=Nat) (fun i=>[(0,Kn b n es),(3, .sl 0 [] 133 0 i i),(4, .int .i64 (i:Nat))]) (fun i=>[some (.row 133 i fun k=>Ak (es k))]) (fun i=>i≤n) (fun i=>n - i) 0 [none] ?_ (fun i hi=>vo hΓ ?_)
 ·conv=>whnf
  repeat' ((first|apply Ap<;>intro _|apply An)<;>conv=>whnf)
  all_goals try exact⟨Ah⟩
 ·conv=>whnf
  apply Ap<;>intro h3<;>conv=>whnf
  ·have hin:i<n:=by simpa using h3
   conv=>whnf
   repeat' ((first|apply Ap<;>intro _|apply An)<;>conv=>whnf)
   all_goals(try simp only[decide_eq_true_eq,decide_eq_false_iff_not,Int.toNat_natCast,Bool.not_eq_true,Bool.not_eq_false]at*)
   all_goals try exact⟨Ah⟩
   refine⟨es i,⟨AE.refl _,trivial⟩,⟨hv i hin⟩,?_⟩;intro r hr;replace hr:r=es i:=hr;subst hr;conv=>whnf
   refine And.intro (show Ob (_≤_)from⟨by omega⟩) ?_;conv=>whnf
   refine Or.inl ?_;conv=>whnf
   repeat' (apply An<;>conv=>whnf)
   all_goals try first|exact⟨Ah⟩|exact⟨⟨by simp only[];omega,by omega⟩⟩
   refine⟨i+1,[some 2],?_⟩;conv=>whnf
   repeat' (apply An<;>conv=>whnf)
   all_goals try exact⟨Ah⟩
   ·exact⟨by rw[A3 (by omega) (by omega)];rfl⟩
   ·refine⟨?_⟩;refine Db ?_ ?_ fun k _=>G8 _
    ·exact fun k hk=>if_pos hk
    ·exact(if_neg (Nat.lt_irrefl i)).trans (by rw[Nat.sub_self];rfl)
  ·have hin:i=n:=by
    have:¬((i:Nat):Int)<(n:Nat):=by simpa using h3
    omega
   subst hin;refine vo hΓ ?_;conv=>whnf
   repeat' (apply An<;>conv=>whnf)
   ·exact⟨by omega⟩
   ·exact⟨fun k _=>Ee _⟩
   ·refine Ld.imm fun k hk=>?_;rw[Nat.zero_add]
def FkF:A7:=Bf (fun(f:Fd)=>[Fl f]) U0 (fun f=>f) Fl
theorem AN0:FOk Tryz.prog [] 120 FkF:=A8 fun f ⟨hn,hv,hp⟩=>by
 have hΓ:=Ad Tryz.f120.ntmps _ _ (FL.all (.cons AAv (.cons AGt .nil))) (HL.all .nil);refine Aw hΓ Tryz.func120 ?_;conv=>whnf
 repeat' ((first|apply Ap<;>intro _|apply An)<;>conv=>whnf)
 all_goals try exact⟨Ah⟩
 refine⟨⟨false,f.n,f.es⟩,⟨AE.refl _,trivial⟩,⟨hn,hv⟩,?_⟩;intro r hr;replace hr:r=⟨false,f.n,f.es⟩:=hr;subst hr;conv=>whnf
 repeat' ((first|apply Ap<;>intro _|apply An)<;>conv=>whnf)
 all_goals try exact⟨Ah⟩
 refine⟨f.pf,⟨AE.refl _,trivial⟩,⟨hp⟩,?_⟩;intro r hr;replace hr:r=f.pf:=hr;subst hr;conv=>whnf
 repeat' ((first|apply Ap<;>intro _|apply An)<;>conv=>whnf)
 all_goals try first|exact⟨Ah⟩|exact⟨fun k _=>Ee _⟩
 exact Ld.refl _
def HkF:Ai:=L8 (fun(f:Fd)=>[Fl f]) (fun _=>[]) U0 (fun f=> .st (.cons (arrV 32 f.author) (.cons (.sl 0 [] 133 0 f.n f.n) (.cons (.bool f.shut) (.cons (aC f.pf) .nil))))) (fun f=>[some (.row 133 f.n fun k=>Ak (f.es k))])
theorem rF:Aj Tryz.prog (L5 Tryz.f120.ntmps [(161,FkP)] [(160,HkE)] [(1, .one 0 (.one 1 (.one 3 (.many (.cons 2 (.one 4 (.one 5 (.one 6 (.one 7 (.one 8 (.one 9 (.done))))))) (.cons 4 (.one 2 (.one 5 (.one 6 (.one 7 (.one 8 (.one 9 (.done))))))) (.nil)))))))]):=Ab Tryz.f120.ntmps [(161,FkP)] [(160,HkE)] [(1, .one 0 (.one 1 (.one 3 (.many (.cons 2 (.one 4 (.one 5 (.one 6 (.one 7 (.one 8 (.one 9 (.done))))))) (.cons 4 (.one 2 (.one 5 (.one 6 (.one 7 (.one 8 (.one 9 (.done))))))) (.nil)))))))] (.cons (AAv.g) .nil) (.cons (hg AN8) .nil)
def AV8:Ai:=fun xs h κ=>xs.length=1∧B4 Tryz.prog (L5 Tryz.f120.ntmps [(161,FkP)] [(160,HkE)] [(1, .one 0 (.one 1 (.one 3 (.many (.cons 2 (.one 4 (.one 5 (.one 6 (.one 7 (.one 8 (.one 9 (.done))))))) (.cons 4 (.one 2 (.one 5 (.one 6 (.one 7 (.one 8 (.one 9 (.done))))))) (.nil)))))))]) (Bd Tryz.f120) Tryz.f120.results.toList xs h κ
theorem AIw:Af Tryz.prog G 120 AV8:=Q6 1 rF Tryz.func120
theorem AN9:Af Tryz.prog G 120 HkF:=Cq AIw (fun f κ ⟨hn,hv,hp⟩ h=>by
 refine⟨rfl,?_⟩;refine vj rF ?_;conv=>whnf
 refine And.intro ?_ (And.intro ?_ trivial)
 all_goals
  conv=>whnf
  refine⟨⟨false,f.n,f.es⟩,[],?_⟩;conv=>whnf
  repeat' (apply An<;>conv=>whnf)
  all_goals try first|exact⟨Ah⟩|exact⟨⟨hn,hv⟩⟩
  refine⟨f.pf,⟨AE.refl _,trivial⟩,⟨hp⟩,?_⟩;intro r hr;replace hr:r=f.pf:=hr;subst hr;conv=>whnf
  repeat' (apply An<;>conv=>whnf)
  all_goals try exact⟨Ah⟩
  refine⟨[some 2], .st (.cons (arrV 32 f.author) (.cons (.sl 0 [] 133 0 f.n f.n) (.cons (.bool f.shut) (.cons (aC f.pf) .nil)))),[some (.row 133 f.n fun k=>Ak (f.es k))],?_⟩;conv=>whnf
  repeat' (apply An<;>conv=>whnf)
  all_goals try first|exact⟨Bc⟩|exact⟨fun _ _=>Aa _ (G8 _)⟩|exact⟨fun _ _=>rfl⟩
  all_goals exact h) (fun _=>by simp) (fun _=>by simp[Hf,Ie,arrV,aC,Ak,aB,Bl,bf,Br,Is]) (fun x u hu=>by
  simp at hu
  subst hu;simp only[Hf];intro k _;exact Mk _)
theorem eU:Aj Tryz.prog (Ka Tryz.f79.ntmps [(120,FkF)] []):=Ad Tryz.f79.ntmps [(120,FkF)] [] (FL.all (.cons AN0 .nil)) (HL.all .nil)
def S79:Ai:=fun xs h κ=>xs.length=1∧B4 Tryz.prog (Ka Tryz.f79.ntmps [(120,FkF)] []) (Bd Tryz.f79) Tryz.f79.results.toList xs h κ
theorem AOg:Af Tryz.prog [] 79 S79:=Q6 1 eU Tryz.func79
def HkS:Ai:=L8 (fun(a:qP)=>[C8 a.b a.n a.l]) (fun _=>[]) (fun a=>a.n≤10000∧∀k,k<a.n→U0 (a.l k)) (fun a=> .sl 0 [] 300 0 a.n a.n) (fun a=>[some (.row 300 a.n fun k=>Fl (a.l k))])
theorem ANa:Af Tryz.prog [] 79 HkS:=Cq AOg (fun⟨b,n,l⟩ κ ⟨hn,hv⟩ h=>by
 replace hn:n≤10000:=hn;replace hv:∀k,k<n→U0 (l k):=hv;refine⟨rfl,?_⟩;refine vj eU ?_;conv=>whnf
 refine A4 (ι:=Nat) (fun i=>[(0,C8 b n l),(3, .sl 0 [] 300 0 i i),(4, .int .i64 (i:Nat))]) (fun i=>[some (.row 300 i fun k=>Fl (l k))]) (fun i=>i≤n) (fun i=>n - i) 0 [none] ?_ (fun i hi=>vj eU ?_)
 ·conv=>whnf
  repeat' ((first|apply Ap<;>intro _|apply An)<;>conv=>whnf)
  all_goals try exact⟨Ah⟩
 ·conv=>whnf
  apply Ap<;>intro h3<;>conv=>whnf
  ·have hin:i<n:=by simpa using h3
   conv=>whnf
   repeat' ((first|apply Ap<;>intro _|apply An)<;>conv=>whnf)
   all_goals(try simp only[decide_eq_true_eq,decide_eq_false_iff_not,Int.toNat_natCast,Bool.not_eq_true,Bool.not_eq_false]at*)
   all_goals try exact⟨Ah⟩
   refine⟨l i,⟨AE.refl _,trivial⟩,⟨hv i hin⟩,?_⟩;intro r hr;replace hr:r=l i:=hr;subst hr;conv=>whnf
   refine And.intro (show Ob (_≤_)from⟨by omega⟩) ?_;conv=>whnf
   refine Or.inl ?_;conv=>whnf
   repeat' (apply An<;>conv=>whnf)
   all_goals try first|exact⟨Ah⟩|exact⟨⟨by simp only[];omega,by omega⟩⟩
   refine⟨i+1,[some 2],?_⟩;conv=>whnf
   repeat' (apply An<;>conv=>whnf)
   all_goals try exact⟨Ah⟩
   ·exact⟨by rw[A3 (by omega) (by omega)];rfl⟩
   ·refine⟨?_⟩;refine Db ?_ ?_ fun k _=>Dq _
    ·exact fun k hk=>if_pos hk
    ·exact(if_neg (Nat.lt_irrefl i)).trans (by rw[Nat.sub_self];rfl)
  ·have hin:i=n:=by
    have:¬((i:Nat):Int)<(n:Nat):=by simpa using h3
    omega
   subst hin;refine vj eU ?_;conv=>whnf
   refine⟨[some 0], .sl 0 [] 300 0 i i,[some (.row 300 i fun k=>Fl (l k))],?_⟩;conv=>whnf
   repeat' (apply An<;>conv=>whnf)
   all_goals try first|exact⟨Bc⟩|exact⟨fun k _=>Aa _ (Dq _)⟩
   exact h) (fun _=>by simp) (fun _=>by simp[Hf]) (fun x u hu=>by
  simp at hu
  subst hu;simp only[Hf];intro k _;exact Jf _)
theorem ACj:FOk Tryz.prog [] 13 AK0:=A8 fun⟨⟨b,n,l⟩,author⟩ ⟨ha,hl,hn⟩=>by
 replace ha:author.length=32:=ha;replace hl:∀k,k<n→(l k).author.length=32:=hl;replace hn:n≤1000000:=hn
 show CP _ _ _ [C8 b n l,arrV 32 author] fun v=>Ld v (.int .i64 (En l n author))
 have hΓ:=Ad Tryz.f13.ntmps _ _ (FL.all .nil) (HL.all .nil);refine Aw hΓ Tryz.func13 ?_;conv=>whnf
 refine A4 (ι:=Nat) (fun i=>[(0,C8 b n l),(3, .ref 0 []),(5, .int .i64 (i:Nat))]) (fun i=>[some (arrV 32 author)]) (fun i=>i≤n∧En l n author=G5 l author (n - i) i) (fun i=>n - i) 0 [some 0] ?_ (fun i hi=>vo hΓ ?_)
 ·conv=>whnf
  repeat' ((first|apply Ap<;>intro _|apply An)<;>conv=>whnf)
  all_goals try exact⟨Ba⟩
  all_goals exact⟨⟨Nat.zero_le _,rfl⟩⟩
 ·obtain⟨hi1,hi2⟩:=hi;conv=>whnf
  apply Ap<;>intro h3<;>conv=>whnf
  ·have hin:i<n:=by
    have:((i:Nat):Int)<(n:Nat):=by simpa using h3
    omega
   have hau:=B7 (hl i hin) ha
   have hst:G5 l author (n - i) i=if(l i).author=author then((i:Nat):Int)else G5 l author (n - (i+1)) (i+1):=by
    obtain⟨m,hm⟩:∃m,n - i=m+1:=⟨n - i - 1,by omega⟩;rw[hm,G5,show n - (i+1)=m by omega]
   conv=>whnf
   repeat' ((first|apply Ap<;>intro _|apply An)<;>conv=>whnf)
   all_goals try exact⟨Ah⟩
   ·rename_i g;refine Ld.of (congrArg (V.int .i64) ?_);rw[hi2,hst,if_pos (of_decide_eq_true (hau.symm.trans g))]
   ·rename_i g;refine⟨i+1,[some 0],?_⟩;conv=>whnf
    repeat' (apply An<;>conv=>whnf)
    all_goals try exact⟨Ba⟩
    ·exact⟨by rw[A3 (by omega) (by omega)];rfl⟩
    exact⟨⟨⟨by omega,by rw[hi2,hst,if_neg (of_decide_eq_false (hau.symm.trans g))]⟩,by omega⟩⟩
  ·have hin:i=n:=by
    have:¬((i:Nat):Int)<(n:Nat):=by simpa using h3
    omega
   refine vo hΓ ?_;conv=>whnf
   refine Ld.of (congrArg (V.int .i64) ?_);rw[hi2,hin,Nat.sub_self];rfl
def nG:Fd:=H5 Kb
def K0(x:PsA):Fd×Int:=
 if Al x.e=false then(nG,1)else if x.e.author≠x.f.author then(nG,16)else if x.f.shut=true then(nG,15)
 else if x.e.seq≤(x.f.n:Nat)then(if eqE (x.f.es (x.e.seq - 1).toNat) x.e=true then(nG,11)else(nG,14))
 else if x.e.seq≠(x.f.n:Nat)+1 then(nG,13)else if x.e.prev≠(Uu x.f).2 then(nG,12)else(Bn x.f x.e,0)
structure AV1(x:PsA):Prop where
 pf:G9 x.f
 ok:U0 x.f
 n:x.f.n≤1000
 ents:∀k,k<x.f.n→Al (x.f.es k)=true
 pe:Cy x.e
 val:cN x.e
def pqV(r:Fd×Int):V:= .tup (.cons (Fl r.1) (.cons (.int .i64 r.2) .nil))
def AWd:A7:=Bf (fun(x:PsA)=>[Fl x.f,Ak x.e]) AV1 K0 pqV
theorem Qa(c:Int):Ld (.tup (.cons (.st (.cons (.row 1 32 fun _=> .int .u8 0) (.cons .emp (.cons (.bool false) (.cons (.st (.cons zV (.cons zV .nil))) .nil))))) (.cons (.int .i64 c) .nil))) (pqV (nG,c)):=
 Ld.two (Ld.st (.cons (Cm.row fun k _=>(Cz 32 k).symm) (.cons Cm.emp (.cons (Cm.refl _) (.cons (Qz.st (.cons iY (.cons iY .nil))) .nil))))) (by simp) rfl (by simp[Fl]) rfl
theorem wE(f:Fd):(Uu f).2.length=32:=by
 unfold Uu
 split
 ·simp[Kb]
 ·exact Ju _
set_option maxHeartbeats 4000000 in
theorem AGa:FOk Tryz.prog G 77 AWd:=A8 fun⟨f,e⟩ ⟨hpf,hok,hn,hents,hpe,hval⟩=>by
 simp only at hpf hok hn hents hpe hval;have hra:=B7 hpe.1.1 hpf.1
 have hq:K0 ⟨f,e⟩=if Al e=false then(nG,1)else if e.author≠f.author then(nG,16)else if f.shut=true then(nG,15)
   else if e.seq≤(f.n:Nat)then(if eqE (f.es (e.seq - 1).toNat) e=true then(nG,11)else(nG,14))
   else if e.seq≠(f.n:Nat)+1 then(nG,13)else if e.prev≠(Uu f).2 then(nG,12)else(Bn f e,0):=rfl
 obtain⟨R,hR⟩:∃R,R=K0 ⟨f,e⟩:=⟨_,rfl⟩;rw[←hR]at hq⊢;clear hR;have hΓ:=Ab Tryz.f77.ntmps _ _ [] (.cons (oP.g) (.cons (AMs.g) (.cons (AMi) (.cons (Xw.g) .nil)))) (.cons (AN9) .nil);refine Aw hΓ Tryz.func77 ?_;conv=>whnf
 repeat' (apply An<;>conv=>whnf)
 all_goals try first|exact⟨Ah⟩|exact⟨fun _ _=>trivial⟩|exact⟨fun _ _=>rfl⟩
 refine⟨e,⟨AE.refl _,trivial⟩,⟨hpe.1⟩,fun rr hr=>?_⟩;replace hr:rr=Al e:=hr;conv=>whnf
 apply Ap<;>intro h1<;>conv=>whnf
 ·have h1:rr=false:=by simpa using h1
  have h1:=hr.symm.trans h1;rw[if_pos h1]at hq;conv=>whnf
  repeat' (apply An<;>conv=>whnf)
  all_goals try exact⟨Ah⟩
  rw[hq];exact Qa _
 have h1:rr=true:=by simpa using h1
 have hent:=hr.symm.trans h1;rw[if_neg (by simp[hent])]at hq;clear h1 hr;have hel:=Cp hent;conv=>whnf
 refine And.intro ⟨fun _ _=>rfl⟩ ?_;conv=>whnf
 refine And.intro ⟨fun _ _=>rfl⟩ ?_;conv=>whnf
 apply Ap<;>intro h1<;>conv=>whnf
 ·have h1:e.author≠f.author:=by
   have h:=(congrArg (fun b=> !b) hra).symm.trans h1;simpa using h
  rw[if_pos h1]at hq;conv=>whnf
  repeat' (apply An<;>conv=>whnf)
  all_goals try exact⟨Ah⟩
  rw[hq];exact Qa _
 have hau:e.author=f.author:=by
  have h:=(congrArg (fun b=> !b) hra).symm.trans h1;simpa using h
 rw[if_neg (fun h=>h hau)]at hq;clear h1;conv=>whnf
 apply Ap<;>intro h1<;>conv=>whnf
 ·replace h1:f.shut=true:=h1;rw[if_pos h1]at hq;conv=>whnf
  repeat' (apply An<;>conv=>whnf)
  all_goals try exact⟨Ah⟩
  rw[hq];exact Qa _
 replace h1:f.shut=false:=h1;rw[if_neg (by simp[h1])]at hq;conv=>whnf
 apply Ap<;>intro h2<;>conv=>whnf
 ·have h2:e.seq≤(f.n:Nat):=of_decide_eq_true h2;rw[if_pos h2]at hq;have f4:IntKind.i64.wrap (e.seq - 1)=e.seq - 1:=A3 (by omega) (by omega);have hk:(e.seq - 1).toNat<f.n:=by omega
  refine And.intro ⟨⟨by show 0≤IntKind.i64.wrap (e.seq - 1);rw[f4];omega,by show IntKind.i64.wrap (e.seq - 1)<((f.n:Nat):Int);rw[f4];omega⟩⟩ ?_;conv=>whnf
  repeat' (apply An<;>conv=>whnf)
  all_goals try first|exact⟨Ah⟩|exact⟨fun _ _=>trivial⟩
  obtain⟨q,hq2⟩:∃q,q=eqE (f.es (e.seq - 1).toNat) e:=⟨_,rfl⟩;rw[←hq2]at hq;refine⟨(f.es (e.seq - 1).toNat,e),⟨AE.of (congrArg (fun z:Int=>Ak (f.es z.toNat)) f4),AE.refl _,trivial⟩,⟨⟨(hpf.2.1 _ hk).1,Nat.le_trans (hok.2.1 _ hk) (by decide)⟩,hpe.1⟩,fun rr hr=>?_⟩;replace hr:q=rr:=(hr.trans hq2.symm).symm;subst hr;conv=>whnf
  apply Ap<;>intro h3<;>conv=>whnf
  ·replace h3:q=true:=h3;rw[if_pos h3]at hq;conv=>whnf
   repeat' (apply An<;>conv=>whnf)
   all_goals try exact⟨Ah⟩
   rw[hq];exact Qa _
  ·replace h3:q=false:=h3;rw[if_neg (by simp[h3])]at hq;conv=>whnf
   repeat' (apply An<;>conv=>whnf)
   all_goals try exact⟨Ah⟩
   rw[hq];exact Qa _
 have h2:¬e.seq≤(f.n:Nat):=of_decide_eq_false h2;rw[if_neg h2]at hq;have f3:IntKind.i64.wrap (((f.n:Nat):Int)+1)=((f.n:Nat):Int)+1:=A3 (by omega) (by omega)
 apply Ap<;>intro h3<;>conv=>whnf
 ·have h3:e.seq≠(f.n:Nat)+1:=by
   have h:(e.seq !=IntKind.i64.wrap (((f.n:Nat):Int)+1))=true:=h3;rw[f3]at h;simpa using h
  rw[if_pos h3]at hq;conv=>whnf
  repeat' (apply An<;>conv=>whnf)
  all_goals try exact⟨Ah⟩
  rw[hq];exact Qa _
 have h3:e.seq=(f.n:Nat)+1:=by
  have h:(e.seq !=IntKind.i64.wrap (((f.n:Nat):Int)+1))=false:=h3;rw[f3]at h;simpa using h
 rw[if_neg (fun h=>h h3)]at hq;conv=>whnf
 repeat' (apply An<;>conv=>whnf)
 all_goals try first|exact⟨Ah⟩|exact⟨fun _ _=>trivial⟩
 obtain⟨lr,hlr⟩:∃lr,lr=Uu f:=⟨_,rfl⟩;have hll:lr.2.length=32:=by rw[hlr];exact wE f
 rw[←hlr]at hq;refine⟨f,⟨AE.refl _,trivial⟩,⟨hpf,by omega,hents⟩,fun rr hr=>?_⟩;replace hr:lr=rr:=(hr.trans hlr.symm).symm;subst hr;have hrp:=B7 hpe.1.2.1 hll;conv=>whnf
 repeat' ((first|apply Ap<;>intro _|apply An)<;>conv=>whnf)
 all_goals try first|exact⟨Ah⟩|exact⟨fun _ _=>trivial⟩|exact⟨fun _ _=>rfl⟩
 ·rename_i h4
  have h4:e.prev≠lr.2:=by
   have h:=(congrArg (fun b=> !b) hrp).symm.trans h4;simpa using h
  rw[if_pos h4]at hq;rw[hq];exact Qa _
 rename_i h4
 have h4:e.prev=lr.2:=by
  have h:=(congrArg (fun b=> !b) hrp).symm.trans h4;simpa using h
 rw[if_neg (fun h=>h h4)]at hq;rw[hq];refine⟨f,[],?_⟩;conv=>whnf
 repeat' (apply An<;>conv=>whnf)
 all_goals try first|exact⟨Ba⟩|exact⟨hok⟩|exact⟨fun _ _=>trivial⟩
 refine⟨e,⟨AE.refl _,trivial⟩,⟨hval⟩,?_⟩;intro t ht;replace ht:t=e:=ht;subst ht;conv=>whnf
 repeat' (apply An<;>conv=>whnf)
 all_goals try first|exact⟨Ba⟩|exact⟨fun _ _=>trivial⟩
 all_goals try exact trivial
 all_goals
  refine Or.inl ?_;conv=>whnf
  repeat' (apply An<;>conv=>whnf)
 all_goals try first|exact⟨Bc⟩|exact⟨⟨by show(_+1)*192≤_;omega,by omega⟩⟩|exact⟨fun _ _=>Bg _ _⟩
 all_goals first
  |(refine⟨fun k hk=>?_⟩
    refine cast (congrArg own (Eq.symm (b:=Ak ((Bn f t).es k)) ?_)) (Ee _);replace hk:k<f.n+1:=hk
    rcases Nat.lt_or_ge k f.n with hk2|hk2
    ·exact(if_pos (show 0+k<f.n by omega)).trans (congrArg Ak (show f.es (0+k)=(Bn f t).es k by rw[Nat.zero_add];exact(if_pos hk2).symm))
    ·obtain rfl:k=f.n:=by omega
     refine(if_neg (show¬0+f.n<f.n by omega)).trans ?_
     first
      |(refine(congrArg _ (show 0+f.n - f.n=0 by omega)).trans ?_
        exact Eq.trans (b:=Ak t) rfl (congrArg Ak (show t=(Bn f t).es f.n from(if_neg (Nat.lt_irrefl _)).symm)))
      |(refine(congrArg _ (show 0+(0+f.n - f.n)=0 by omega)).trans ?_
        exact Eq.trans (b:=Ak t) rfl (congrArg Ak (show t=(Bn f t).es f.n from(if_neg (Nat.lt_irrefl _)).symm))))
  |(refine Ld.two (Ld.st (.cons (Cm.refl _) (.cons (Cm.imm rfl fun k hk=>?_) (.cons (Cm.refl _) (.cons (Cm.refl _) .nil))))) (by simp) rfl (by simp[Fl]) rfl
    replace hk:k<f.n+1:=hk
    rcases Nat.lt_or_ge k f.n with hk2|hk2
    ·exact(if_pos (show 0+k<f.n by omega)).trans (congrArg Ak (show f.es (0+k)=(Bn f t).es k by rw[Nat.zero_add];exact(if_pos hk2).symm))
    ·obtain rfl:k=f.n:=by omega
     refine(if_neg (show¬0+f.n<f.n by omega)).trans ?_
     first
      |(refine(congrArg _ (show 0+f.n - f.n=0 by omega)).trans ?_
        exact Eq.trans (b:=Ak t) rfl (congrArg Ak (show t=(Bn f t).es f.n from(if_neg (Nat.lt_irrefl _)).symm)))
      |(refine(congrArg _ (show 0+(0+f.n - f.n)=0 by omega)).trans ?_
        exact Eq.trans (b:=Ak t) rfl (congrArg Ak (show t=(Bn f t).es f.n from(if_neg (Nat.lt_irrefl _)).symm))))
def gO(p:Pf):Pf:=if Op.bytesLess (I6 p.b).1 (I6 p.a).1=true then⟨p.b,p.a⟩else p
def AW6:A7:=Bf (fun(p:Pf)=>[Ak p.a,Ak p.b]) (fun p=>(Cy p.a∧Al p.a=true∧cN p.a)∧(Cy p.b∧Al p.b=true∧cN p.b)) gO aC
theorem AG6:FOk Tryz.prog G 80 AW6:=A8 fun⟨a,b⟩ ⟨⟨ha,ka,va⟩,⟨hb,kb,vb⟩⟩=>by
 simp only at ha ka va hb kb vb
 show CP _ _ _ [Ak a,Ak b] fun v=>Ld v (aC (gO ⟨a,b⟩))
 have k1:=Vt ha.1 ka;have k2:=Vt hb.1 kb;have hm:gO ⟨a,b⟩=if Op.bytesLess (I6 b).1 (I6 a).1=true then⟨b,a⟩else⟨a,b⟩:=rfl;obtain⟨x,hx⟩:∃x,x=(Gz a).by:=⟨_,rfl⟩
 obtain⟨y,hy⟩:∃y,y=(Gz b).by:=⟨_,rfl⟩
 rw[k1,k2,←hx,←hy]at hm;have hΓ:=Ab Tryz.f80.ntmps _ _ [] (.cons (Xw.g) (.cons (sB) .nil)) .nil;refine Aw hΓ Tryz.func80 ?_;conv=>whnf
 repeat' ((first|apply Ap<;>intro _|apply An)<;>conv=>whnf)
 all_goals try exact⟨Ah⟩
 refine⟨a,⟨AE.refl _,trivial⟩,⟨va⟩,fun rr hr=>?_⟩;replace hr:a=rr:=hr.symm;subst hr;conv=>whnf
 repeat' ((first|apply Ap<;>intro _|apply An)<;>conv=>whnf)
 all_goals try exact⟨Ah⟩
 refine⟨b,⟨AE.refl _,trivial⟩,⟨vb⟩,fun rr hr=>?_⟩;replace hr:b=rr:=hr.symm;subst hr;conv=>whnf
 repeat' ((first|apply Ap<;>intro _|apply An)<;>conv=>whnf)
 all_goals try exact⟨Ah⟩
 refine⟨b,⟨AE.refl _,trivial⟩,⟨hb,kb⟩,fun rr hr=>?_⟩;replace hr:y=rr:=(hr.trans hy.symm).symm;subst hr;conv=>whnf
 repeat' ((first|apply Ap<;>intro _|apply An)<;>conv=>whnf)
 all_goals try exact⟨Ah⟩
 refine⟨a,⟨AE.refl _,trivial⟩,⟨ha,ka⟩,fun rr hr=>?_⟩;replace hr:x=rr:=(hr.trans hx.symm).symm;subst hr;conv=>whnf
 repeat' ((first|apply Ap<;>intro _|apply An)<;>conv=>whnf)
 all_goals try exact⟨Ah⟩
 ·rename_i hc
  have hc:Op.bytesLess y x=true:=by
   have h:Op.bytesLess (bytesOf y.length (bf y)) (bytesOf x.length (bf x))=true:=hc
   rwa [Jn,Jn]at h
  rw[hm,if_pos hc];exact Ld.refl _
 ·rename_i hc
  have hc:Op.bytesLess y x=false:=by
   have h:Op.bytesLess (bytesOf y.length (bf y)) (bytesOf x.length (bf x))=false:=hc
   rwa [Jn,Jn]at h
  rw[hm,if_neg (by rw[hc];decide)];exact Ld.refl _
end Go.Proofs.YtaihjcpfjgpmoaaGreatDoor
