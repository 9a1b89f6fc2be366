/- Part of the claim ModelPuts: N54, N55, N56, N57. -/
import Derived.Test.YtaihjcpfjgpmoaaGreatDoorNH
set_option linter.unusedVariables false
set_option linter.unusedSimpArgs false
set_option maxRecDepth 100000
set_option maxHeartbeats 2000000
namespace Go.Proofs.YtaihjcpfjgpmoaaGreatDoor
open Go Go.DD
structure iX where
 k:Int
 l:qP
 e:Bw
def iX.at(x:iX):Int:=En x.l.l x.l.n x.e.author
def iX.f(x:iX):Fd:=x.l.l x.at.toNat
def gH(x:iX):Nat×(Nat→Fd)×Int:=
 if Al x.e=false then(0,x.l.l,1)else if x.at<0 then(0,x.l.l,16)
 else if(K0 ⟨x.f,x.e⟩).2≠0∧(K0 ⟨x.f,x.e⟩).2≠14 then(0,x.l.l,(K0 ⟨x.f,x.e⟩).2)
 else if Bh x.k x.e=false then(0,x.l.l,7)
 else if(K0 ⟨x.f,x.e⟩).2=14 then(x.l.n,fun j=>if j=x.at.toNat then{x.f with shut:=true,pf:=gO ⟨x.f.es (x.e.seq - 1).toNat,x.e⟩}else x.l.l j,14)
 else(x.l.n,fun j=>if j=x.at.toNat then(K0 ⟨x.f,x.e⟩).1 else x.l.l j,0)
structure AUy(x:iX):Prop where
 k:D0 x.k
 n:x.l.n≤1000
 l:∀j,j<x.l.n→G9 (x.l.l j)∧U0 (x.l.l j)∧(x.l.l j).n≤1000∧∀i,i<(x.l.l j).n→Al ((x.l.l j).es i)=true
 e:Cy x.e
def AW2:A7:=Bf (fun(x:iX)=>[.int .i64 x.k,C8 x.l.b x.l.n x.l.l,Ak x.e]) AUy gH (fun r=> .tup (.cons (C8 false r.1 r.2.1) (.cons (.int .i64 r.2.2) .nil)))
theorem cS{x:PsA}(h:(K0 x).2=14):x.e.author=x.f.author∧x.f.shut=false∧x.e.seq≤(x.f.n:Nat)∧eqE (x.f.es (x.e.seq - 1).toNat) x.e=false:=by
 unfold K0 at h
 split at h
 ·exact absurd h (by decide)
 ·split at h
  ·exact absurd h (by decide)
  ·split at h
   ·exact absurd h (by decide)
   ·split at h
    ·split at h
     ·exact absurd h (by decide)
     ·rename_i h2 h3 h4 h5;exact⟨Classical.not_not.1 h2,by simpa using h3,h4,by simpa using h5⟩
    ·split at h
     ·exact absurd h (by decide)
     ·split at h
      ·exact absurd h (by decide)
      ·exact absurd (show(0:Int)=14 from h) (by decide)
theorem tQ{x:PsA}(h:(K0 x).2=0):x.e.author=x.f.author∧x.f.shut=false∧x.e.seq=(x.f.n:Nat)+1∧(K0 x).1=Bn x.f x.e:=by
 unfold K0 at h⊢
 split at h
 ·exact absurd h (by decide)
 ·split at h
  ·exact absurd h (by decide)
  ·split at h
   ·exact absurd h (by decide)
   ·split at h
    ·split at h
     ·exact absurd h (by decide)
     ·exact absurd h (by decide)
    ·split at h
     ·exact absurd h (by decide)
     ·split at h
      ·exact absurd h (by decide)
      ·rename_i h1 h2 h3 h4 h5 h6;rw[if_neg h1,if_neg h2,if_neg h3,if_neg h4,if_neg h5,if_neg h6];exact⟨Classical.not_not.1 h2,by simpa using h3,Classical.not_not.1 h5,rfl⟩
def fdT(f:Fd)(w:Pf):V:= .st (.cons (arrV 32 f.author) (.cons (.imm false 133 f.n fun k=>Ak (f.es k)) (.cons .tt (.cons (aC w) .nil))))
theorem AE3(f:Fd)(w:Pf):Cm (fdT f w) (Fl {f with shut:=true,pf:=w}):=Qz.st (.cons (.refl _) (.cons (.refl _) (.cons ⟨rfl,fun _ _ _ h=>by simpa only[R]using h,id⟩ (.cons (.refl _) .nil))))
theorem AI8(f:Fd)(w:Pf):own (fdT f w):=by
 simp only[fdT,aC,arrV,own,Jz];exact⟨fun k _=>Bg _ k,fun k _=>Ee _,trivial,⟨Ee _,Ee _,trivial⟩,trivial⟩
theorem ALe{a b c:V}(h:a=b)(g:Cm b c):Cm a c:=h▸g
theorem Ld.immR{sz n:Nat}{f g:Nat→V}(h:∀k,k<n→Cm (f k) (g k)):Ld (.imm false sz n f) (.imm false sz n g):=
 ⟨AE.immR h,fun ho=>by simp only[own]at ho⊢;exact fun k hk=>(h k hk).o (ho k hk)⟩
theorem AJi(sz n:Nat)(f:Nat→V)(k s:Nat)(p:List E8):sub (.row sz n f) (.i k s::p)=sub (f k) p:=rfl
theorem uL{c:Prop}[Decidable c]{a b r:V}{p:List E8}{u:V}(h:c)(hr:qI a p u=r):qI (if c then a else b) p u=r:=by rw[if_pos h];exact hr
theorem AI5{c:Prop}[Decidable c]{a b:V}{p:List E8}{K:Prop}(h:c)(hk:Wg a p K):Wg (if c then a else b) p K:=by rw[if_pos h];exact hk
def inV(r:Nat×(Nat→Fd)×Int):V:= .tup (.cons (C8 false r.1 r.2.1) (.cons (.int .i64 r.2.2) .nil))
set_option maxHeartbeats 4000000 in
theorem AG2:FOk Tryz.prog G 37 AW2:=A8 fun⟨k,⟨b,n,l⟩,e⟩ ⟨hk,hn,hl,he⟩=>by
 simp only at hk hn hl he
 show CP _ _ _ [.int .i64 k,C8 b n l,Ak e] fun v=>Ld v (inV (gH ⟨k,⟨b,n,l⟩,e⟩))
 obtain⟨z,hz⟩:∃z,z=En l n e.author:=⟨_,rfl⟩;obtain⟨p,hp⟩:∃p,p=K0 ⟨l z.toNat,e⟩:=⟨_,rfl⟩;obtain⟨q,hq0⟩:∃q,q=Bh k e:=⟨_,rfl⟩
 have hq:gH ⟨k,⟨b,n,l⟩,e⟩=if Al e=false then(0,l,1)else if z<0 then(0,l,16)
  else if p.2≠0∧p.2≠14 then(0,l,p.2)
  else if q=false then(0,l,7)
  else if p.2=14 then(n,fun j=>if j=z.toNat then{l z.toNat with shut:=true,pf:=gO ⟨(l z.toNat).es (e.seq - 1).toNat,e⟩}else l j,14)
  else(n,fun j=>if j=z.toNat then p.1 else l j,0):=by rw[hp,hz,hq0];rfl
 obtain⟨R,hR⟩:∃R,R=gH ⟨k,⟨b,n,l⟩,e⟩:=⟨_,rfl⟩;rw[←hR]at hq⊢;clear hR;have hΓ:=Ab Tryz.f37.ntmps _ _ [] (.cons (oP.g) (.cons (AO1.g) (.cons (ACj.g) (.cons (AGa) (.cons (AO2) (.cons (AG6) .nil)))))) (.cons (hg ANa) .nil);refine Aw hΓ Tryz.func37 ?_;conv=>whnf
 repeat' (apply An<;>conv=>whnf)
 all_goals try first|exact⟨Ah⟩|exact⟨fun _ _=>trivial⟩
 refine⟨k,⟨AE.refl _,trivial⟩,⟨trivial⟩,fun rr hr=>?_⟩;replace hr:rr=true:=hr.trans (by rcases hk with rfl|rfl<;>rfl);subst hr;conv=>whnf
 repeat' (first|(apply Ap<;>intro hp<;>first|(exfalso;revert hp;simp;done)|conv=>whnf)|(apply An<;>conv=>whnf))
 all_goals try first|exact⟨Ah⟩|exact⟨fun _ _=>trivial⟩
 obtain⟨o,ho⟩:∃o,o=Al e:=⟨_,rfl⟩;rw[←ho]at hq;refine⟨e,⟨AE.refl _,trivial⟩,⟨he.1⟩,fun rr hr=>?_⟩;replace hr:o=rr:=(hr.trans ho.symm).symm;subst hr;conv=>whnf
 apply Ap<;>intro h1<;>conv=>whnf
 ·have h1:o=false:=by simpa using h1
  rw[if_pos h1]at hq;rw[hq];exact Ld.two Ld.emp (by simp) rfl (by simp[C8]) rfl
 have h1:o=true:=by simpa using h1
 have hent:Al e=true:=ho.symm.trans h1;have hel:=Cp hent;have hv:cN e:=by show e.val.length≤1000000;omega
 rw[if_neg (by simp[h1])]at hq;clear h1;conv=>whnf
 repeat' (apply An<;>conv=>whnf)
 all_goals try first|exact⟨Ah⟩|exact⟨fun _ _=>trivial⟩
 refine⟨⟨⟨b,n,l⟩,e.author⟩,⟨AE.refl _,AE.refl _,trivial⟩,⟨he.1.1,fun j hj=>(hl j hj).1.1,by show n≤1000000;omega⟩,fun rr hr=>?_⟩;replace hr:z=rr:=(hr.trans hz.symm).symm;subst hr;have hfl:=Lm (l:=l) (author:=e.author) n 0;replace hfl:z<0∨((0:Nat)≤z∧z<(0+n:Nat)∧(l z.toNat).author=e.author):=by rw[hz];exact hfl
 conv=>whnf
 apply Ap<;>intro h1<;>conv=>whnf
 ·rw[if_pos (of_decide_eq_true h1)]at hq;rw[hq];exact Ld.two Ld.emp (by simp) rfl (by simp[C8]) rfl
 have hz0:¬z<0:=of_decide_eq_false h1;rw[if_neg hz0]at hq;obtain⟨k1,k2,k3⟩:=hfl.resolve_left hz0;obtain⟨m,rfl⟩:=Int.eq_ofNat_of_zero_le (Int.not_lt.1 hz0);rw[Int.toNat_natCast]at hq hp k3;have hm:m<n:=by omega
 obtain⟨p1,p2,p3,p4⟩:=hl m hm;clear h1 hz0 hfl k1 k2;conv=>whnf
 repeat' (apply An<;>conv=>whnf)
 all_goals try first|exact⟨Ah⟩|exact⟨fun _ _=>trivial⟩
 refine⟨⟨l m,e⟩,⟨AE.refl _,AE.refl _,trivial⟩,⟨⟨p1,p2,p3,p4,he,hv⟩⟩,fun rr hr=>?_⟩;replace hr:p=rr:=(hr.trans hp.symm).symm;subst hr;obtain⟨pf,c⟩:=p;replace hq:=hq;simp only at hq;have hpo:c=14→_:=fun h=>cS (x:=⟨l m,e⟩) (by rw[←hp];exact h)
 have hpk:c=0→_:=fun h=>tQ (x:=⟨l m,e⟩) (by rw[←hp];exact h)
 clear hp;simp only at hpo hpk
 by_cases c0:c=0
 ·subst c0;rw[if_neg (by simp)]at hq;obtain⟨-,-,-,-⟩:=hpk rfl;conv=>whnf
  repeat' (first|(apply Ap<;>intro hp<;>first|(exfalso;revert hp;simp;done)|conv=>whnf)|(apply An<;>conv=>whnf))
  all_goals try first|exact⟨Ah⟩|exact⟨fun _ _=>trivial⟩
  refine⟨(k,e),⟨AE.refl _,AE.refl _,trivial⟩,⟨⟨hk,he⟩⟩,fun rr hr=>?_⟩;replace hr:q=rr:=(hr.trans hq0.symm).symm;subst hr;conv=>whnf
  apply Ap<;>intro hq1
  ·conv=>whnf
   replace hq1:q=false:=by simpa using hq1
   rw[if_pos hq1]at hq;rw[hq];exact Ld.two Ld.emp (by simp) rfl (by simp[C8]) rfl
  conv=>whnf
  replace hq1:q=true:=by simpa using hq1
  rw[if_neg (by simp[hq1])]at hq;refine⟨⟨b,n,l⟩,[],?_⟩;rw[if_neg (by simp)]at hq;conv=>whnf
  repeat' (first|(apply Ap<;>intro hp<;>first|(exfalso;revert hp;simp;done)|conv=>whnf)|(apply An<;>conv=>whnf))
  all_goals try first|exact⟨Ah⟩|exact⟨fun j hj=>Aa _ (Dq _)⟩|exact⟨⟨by show n≤10000;omega,fun j hj=>(hl j hj).2.1⟩⟩|exact⟨⟨by show(0:Int)≤(m:Int);omega,by show(m:Int)<(n:Int);omega⟩⟩|exact⟨by show 0+Int.toNat (m:Int)<n;omega⟩
  ·refine⟨fun j hj=>?_⟩
   by_cases hkm:j=m
   ·exact cast (congrArg own (if_pos (show 0+j=0+Int.toNat (m:Int) by omega)).symm) (Cl pf)
   ·exact cast (congrArg own (if_neg (show¬0+j=0+Int.toNat (m:Int) by omega)).symm) (Cl _)
  rw[hq];refine Ld.two (Ld.imm fun j hj=>?_) (by simp) rfl (by simp[C8]) rfl
  show _=Fl (if j=m then pf else l j)
  by_cases hkm:j=m
  ·rw[if_pos hkm];exact if_pos (show 0+j=0+Int.toNat (m:Int) by omega)
  ·rw[if_neg hkm];exact(if_neg (show¬0+j=0+Int.toNat (m:Int) by omega)).trans (congrArg (fun j=>Fl (l j)) (Nat.zero_add j))
 ·by_cases c4:c=14
  ·subst c4;rw[if_neg (by simp)]at hq;obtain⟨-,-,k5,k6⟩:=hpo rfl;conv=>whnf
   repeat' (first|(apply Ap<;>intro hp<;>first|(exfalso;revert hp;simp;done)|conv=>whnf)|(apply An<;>conv=>whnf))
   all_goals try first|exact⟨Ah⟩|exact⟨fun _ _=>trivial⟩
   refine⟨(k,e),⟨AE.refl _,AE.refl _,trivial⟩,⟨⟨hk,he⟩⟩,fun rr hr=>?_⟩;replace hr:q=rr:=(hr.trans hq0.symm).symm;subst hr;conv=>whnf
   apply Ap<;>intro hq1
   ·conv=>whnf
    replace hq1:q=false:=by simpa using hq1
    rw[if_pos hq1]at hq;rw[hq];exact Ld.two Ld.emp (by simp) rfl (by simp[C8]) rfl
   conv=>whnf
   replace hq1:q=true:=by simpa using hq1
   rw[if_neg (by simp[hq1])]at hq;refine⟨⟨b,n,l⟩,[],?_⟩;rw[if_pos rfl]at hq;conv=>whnf
   repeat' (first|(apply Ap<;>intro hp<;>first|(exfalso;revert hp;simp;done)|conv=>whnf)|(apply An<;>conv=>whnf))
   all_goals try first|exact⟨Ah⟩|exact⟨fun j hj=>Aa _ (Dq _)⟩|exact⟨⟨by show n≤10000;omega,fun j hj=>(hl j hj).2.1⟩⟩|exact⟨⟨by show(0:Int)≤(m:Int);omega,by show(m:Int)<(n:Int);omega⟩⟩|exact⟨by show 0+Int.toNat (m:Int)<n;omega⟩
   all_goals have f4:IntKind.i64.wrap (e.seq - 1)=e.seq - 1:=A3 (by omega) (by omega)
   refine⟨⟨by show 0≤IntKind.i64.wrap (e.seq - 1);rw[f4];omega,by show IntKind.i64.wrap (e.seq - 1)<(((l m).n:Nat):Int);rw[f4];omega⟩⟩;rw[f4];obtain⟨d,hd⟩:∃d,d=(e.seq - 1).toNat:=⟨_,rfl⟩;have hdl:d<(l m).n:=by omega
   rw[←hd]at hq⊢;obtain⟨g,hg0⟩:∃g,g=(l m).es d:=⟨_,rfl⟩;have hgo:Al g=true:=by rw[hg0];exact p4 d hdl
   obtain⟨w,hw⟩:∃w,w=gO ⟨g,e⟩:=⟨_,rfl⟩;rw[←hg0,←hw]at hq;refine⟨⟨g,e⟩,⟨AE.of (by rw[hg0];rfl),AE.refl _,trivial⟩,⟨⟨by rw[hg0];exact p1.2.1 d hdl,hgo,by rw[hg0];exact p2.2.1 d hdl⟩,he,hent,hv⟩,fun rr hr=>?_⟩;replace hr:w=rr:=(hr.trans hw.symm).symm;subst hr;conv=>whnf
   repeat' ((first|apply Ap<;>intro _|apply An)<;>conv=>whnf)
   all_goals try first|exact⟨Ah⟩|exact⟨⟨by show(0:Int)≤(m:Int);omega,by show(m:Int)<(n:Int);omega⟩⟩|exact⟨by show 0+Int.toNat (m:Int)<n;omega⟩
   refine AI5 rfl ?_;conv=>whnf
   conv in(sub (V.row _ _ _) _)=>rw[AJi,if_pos rfl]
   conv=>whnf
   repeat' ((first|apply Ap<;>intro _|apply An)<;>conv=>whnf)
   all_goals try first|exact⟨Ah⟩|exact⟨⟨by show(0:Int)≤(m:Int);omega,by show(m:Int)<(n:Int);omega⟩⟩|exact⟨by show 0+Int.toNat (m:Int)<n;omega⟩
   ·refine⟨fun j hj=>?_⟩
    by_cases hkm:j=m
    ·exact cast (congrArg own ((if_pos (show 0+j=0+Int.toNat (m:Int) by omega)).trans (uL rfl (r:=fdT (l (0+Int.toNat (m:Int))) w) rfl)).symm) (AI8 _ _)
    ·exact cast (congrArg own ((if_neg (show¬0+j=0+Int.toNat (m:Int) by omega)).trans (if_neg (show¬0+j=0+Int.toNat (m:Int) by omega))).symm) (Cl _)
   rw[hq];refine Ld.two (Ld.immR fun j hj=>?_) (by simp) rfl (by simp[C8]) rfl
   show Cm _ (Fl (if j=m then{l m with shut:=true,pf:=w}else l j))
   by_cases hkm:j=m
   ·rw[if_pos hkm];refine ALe ((if_pos (show 0+j=0+Int.toNat (m:Int) by omega)).trans (uL rfl (r:=fdT (l (0+Int.toNat (m:Int))) w) rfl)) ?_;rw[show 0+Int.toNat (m:Int)=m by omega];exact AE3 _ _
   ·rw[if_neg hkm];exact Cm.of ((if_neg (show¬0+j=0+Int.toNat (m:Int) by omega)).trans ((if_neg (show¬0+j=0+Int.toNat (m:Int) by omega)).trans (congrArg (fun j=>Fl (l j)) (Nat.zero_add j))))
  ·rw[if_pos ⟨c0,c4⟩]at hq;conv=>whnf
   repeat' (first|(apply Ap<;>intro hp<;>first|(exfalso;revert hp;simp[c0,c4];done)|conv=>whnf)|(apply An<;>conv=>whnf))
   rw[hq];exact Ld.two Ld.emp (by simp) rfl (by simp[C8]) rfl
def S9(l:Nat→Fd)(a:List UInt8):Nat→Nat→Nat
 |0,k=>k
 |m+1,k=>if Op.bytesLess (l k).author a=true then S9 l a m (k+1)else k
theorem tO{l:Nat→Fd}{a:List UInt8}:∀m k,k≤S9 l a m k∧S9 l a m k≤k+m
 |0,k=>⟨Nat.le_refl _,Nat.le_refl _⟩
 |m+1,k=>by
  unfold S9
  have:=tO (l:=l) (a:=a) m (k+1)
  split<;>omega
def pY(l:Nat→Fd)(p:Nat)(f:Fd):Nat→Fd:=fun j=>if j<p then l j else if j=p then f else l (j - 1)
def F3(s:Rw):Nat→Nat→Fd
 |0=>fun _=>nG
 |i+1=>pY (F3 s i) (S9 (F3 s i) (s i) i 0) (H5 (s i))
theorem Ia{s:Rw}:∀i j,j<i→∃k,k<i∧F3 s i j=H5 (s k)
 |0,j,h=>absurd h (by omega)
 |i+1,j,h=>by
  have hp:=tO (l:=F3 s i) (a:=s i) i 0
  show∃k,k<i+1∧pY _ _ _ j=_
  unfold pY
  split
  ·obtain⟨k,h1,h2⟩:=Ia (s:=s) i j (by omega);exact⟨k,by omega,h2⟩
  ·split
   ·exact⟨i,by omega,rfl⟩
   ·obtain⟨k,h1,h2⟩:=Ia (s:=s) i (j - 1) (by omega);exact⟨k,by omega,h2⟩
theorem Km{l:List UInt8}{n:Nat}(h:l.length=n):bytesOf n (bf l)=l:=by subst h;exact Jn l
theorem Yo{x B:Nat}(h1:x≤1000000)(h2:B≤1000):Ob (x*B≤140737488355328∧x≤140737488355328):=⟨by have:=Nat.mul_le_mul h1 h2;omega,by omega⟩
def AWa:A7:=Bf (fun(x:RwA)=>[Gm x.b x.n x.l]) (fun x=>x.n≤100∧∀k,k<x.n→(x.l k).length=32) (fun x=>(x.n,F3 x.l x.n)) (fun r=>C8 false r.1 r.2)
set_option maxHeartbeats 4000000 in
theorem AG8:FOk Tryz.prog G 36 AWa:=A8 fun⟨b,n,s⟩ ⟨hn,hl⟩=>by
 replace hn:n≤100:=hn;replace hl:∀k,k<n→(s k).length=32:=hl
 show CP _ _ _ [Gm b n s] fun v=>Ld v (C8 false n (F3 s n))
 have hql:∀i,i<n→∀k,k<i→(F3 s i k).author.length=32:=fun i hi k hk=>by
  obtain⟨j,h1,h2⟩:=Ia (s:=s) i k hk;rw[h2];exact hl j (by omega)
 have hΓ:=Ab Tryz.f36.ntmps _ _ [(9, .one 0 (.one 1 (.one 2 (.one 3 (.one 5 (.one 6 (.one 7 (.many (.cons 4 (.one 8 (.one 9 (.one 10 (.one 11 (.one 12 (.done)))))) (.cons 8 (.one 9 (.many (.cons 4 (.one 10 (.one 11 (.one 12 (.done)))) (.cons 10 (.one 4 (.one 11 (.one 12 (.done)))) (.nil))))) (.nil)))))))))))] .nil .nil;refine Aw hΓ Tryz.func36 ?_;conv=>whnf
 refine A4 (ι:=Nat) (fun i=>[(0,Gm b n s),(3, .sl 0 [] 300 0 i i),(4, .int .i64 (i:Nat))]) (fun i=>[some (.row 300 i fun k=>Fl (F3 s i k))]) (fun i=>i≤n) (fun i=>n - i) 0 [none] ?_ (fun i hi=>vo hΓ ?_)
 ·conv=>whnf
  repeat' ((first|apply Ap<;>intro _|apply An)<;>conv=>whnf)
  all_goals try exact⟨Ah⟩
 ·conv=>whnf
  apply Ap<;>intro h3<;>conv=>whnf
  ·have hin:i<n:=by simpa using h3
   conv=>whnf
   refine A4 (ι:=Nat) (fun k=>[(0,Gm b n s),(3, .sl 0 [] 300 0 i i),(4, .int .i64 (i:Nat)),(5, .int .i64 (k:Nat))]) (fun k=>[some (.row 300 i fun k=>Fl (F3 s i k))]) (fun k=>k≤i∧S9 (F3 s i) (s i) i 0=S9 (F3 s i) (s i) (i - k) k) (fun k=>i - k) 0 [some 0] ?_ (fun k hk=>vo hΓ ?_)
   ·conv=>whnf
    repeat' ((first|apply Ap<;>intro _|apply An)<;>conv=>whnf)
    all_goals try first|exact⟨Ah⟩|exact⟨fun j hj=>Aa _ (Dq _)⟩|exact⟨⟨Nat.zero_le _,rfl⟩⟩
   ·obtain⟨hk1,hk2⟩:=hk;conv=>whnf
    apply Ap<;>intro g1
    ·replace g1:k<i:=by simpa using g1
     conv=>whnf
     repeat' ((first|apply Ap<;>intro _|apply An)<;>conv=>whnf)
     all_goals try first|exact⟨Ah⟩|exact⟨⟨by show(0:Int)≤(k:Int);omega,by show(k:Int)<(i:Int);omega⟩⟩|exact⟨by show 0+Int.toNat (k:Int)<i;omega⟩
     ·exact⟨fun q _=>Dz _ _⟩
     ·exact⟨fun q _=>Dz _ _⟩
     ·rename_i g2
      have g2:Op.bytesLess (F3 s i k).author (s i)=true:=by
       have h:Op.bytesLess (bytesOf 32 (fun q=>bf (F3 s i (0+Int.toNat (k:Int))).author (0+q))) (bytesOf 32 (fun q=>bf (s i) (0+q)))=true:=g2;rw[Nat.zero_add,Int.toNat_natCast]at h;simpa only[Nat.zero_add,Km (hql i hin k g1),Km (hl i hin)]using h
      refine⟨k+1,[some 0],?_⟩;conv=>whnf
      repeat' (apply An<;>conv=>whnf)
      all_goals try first|exact⟨Ah⟩|exact⟨fun j hj=>Aa _ (Dq _)⟩
      ·exact⟨by rw[A3 (by omega) (by omega)];rfl⟩
      refine⟨⟨⟨by omega,?_⟩,by omega⟩⟩;rw[hk2,show i - k=(i - (k+1))+1 by omega,S9,if_pos g2]
     ·rename_i g2
      have g2:Op.bytesLess (F3 s i k).author (s i)=false:=by
       have h:Op.bytesLess (bytesOf 32 (fun q=>bf (F3 s i (0+Int.toNat (k:Int))).author (0+q))) (bytesOf 32 (fun q=>bf (s i) (0+q)))=false:=g2;rw[Nat.zero_add,Int.toNat_natCast]at h;simpa only[Nat.zero_add,Km (hql i hin k g1),Km (hl i hin)]using h
      have hp:S9 (F3 s i) (s i) i 0=k:=by rw[hk2,show i - k=(i - (k+1))+1 by omega,S9,if_neg (by rw[g2];decide)]
      refine vo hΓ ?_;conv=>whnf
      repeat' (apply An<;>conv=>whnf)
      all_goals try first|trivial|exact Yo (by omega) (Nat.le_of_ble_eq_true rfl)|exact⟨⟨by omega,by omega,by omega,by omega⟩⟩|exact⟨⟨by omega,by omega⟩⟩|exact⟨by omega⟩|exact⟨rfl⟩
      repeat' (first|(refine Or.inl ?_;conv=>whnf)|(apply An<;>conv=>whnf))
      all_goals try first|trivial|exact Yo (by omega) (Nat.le_of_ble_eq_true rfl)|exact⟨⟨by omega,by omega,by omega,by omega⟩⟩|exact⟨⟨by omega,by omega⟩⟩|exact⟨by omega⟩|exact⟨rfl⟩
      all_goals
       refine vo hΓ ?_;conv=>whnf
       refine⟨i+1,[some 4],?_⟩;conv=>whnf
       repeat' (apply An<;>conv=>whnf)
       all_goals try first|trivial|exact Yo (by omega) (Nat.le_of_ble_eq_true rfl)|exact⟨⟨by omega,by omega,by omega,by omega⟩⟩|exact⟨⟨by omega,by omega⟩⟩|exact⟨by omega⟩|exact⟨rfl⟩
       all_goals first|exact⟨fun _ _=>rfl⟩|exact⟨⟨rfl,rfl,rfl⟩⟩|exact⟨⟨rfl,rfl⟩⟩|exact⟨by rw[A3 (by omega) (by omega)];rfl⟩|skip
       refine⟨fun j hj=>?_⟩
       show Da _ _ (Fl (pY (F3 s i) (S9 (F3 s i) (s i) i 0) (H5 (s i)) j))
       rw[hp];unfold pY
       by_cases c1:j<k
       ·rw[if_pos c1];exact A5 ((if_pos (show j<Int.toNat (k:Int) - Int.toNat 0+1 by omega)).trans ((if_pos (show j<Int.toNat (k:Int) - Int.toNat 0 by omega)).trans (congrArg (fun q=>Fl (F3 s i q)) (show 0+Int.toNat 0+j=j by omega)))) (Dq _)
       ·rw[if_neg c1]
        by_cases c2:j=k
        ·rw[if_pos c2];have e:∀(F:V),F=wH (s i)→Da [some 4] F (Fl (H5 (s i))):=fun F e=>by rw[e];exact We _ _
         refine e _ ((if_pos (show j<Int.toNat (k:Int) - Int.toNat 0+1 by omega)).trans ((if_neg (show¬j<Int.toNat (k:Int) - Int.toNat 0 by omega)).trans ?_));rw[show j - (Int.toNat (k:Int) - Int.toNat 0)=0 by omega];rfl
        ·rw[if_neg c2];exact A5 ((if_neg (show¬j<Int.toNat (k:Int) - Int.toNat 0+1 by omega)).trans (congrArg (fun q=>Fl (F3 s i q)) (show 0+Int.toNat (k:Int)+(j - (Int.toNat (k:Int) - Int.toNat 0+1))=j - 1 by omega))) (Dq _)
    ·have hki:k=i:=by
      have:¬k<i:=by simpa using g1
      omega
     have hp:S9 (F3 s i) (s i) i 0=k:=by rw[hk2,hki,Nat.sub_self,S9]
     clear hki g1;refine vo hΓ ?_;conv=>whnf
     repeat' (apply An<;>conv=>whnf)
     all_goals try first|trivial|exact Yo (by omega) (Nat.le_of_ble_eq_true rfl)|exact⟨⟨by omega,by omega,by omega,by omega⟩⟩|exact⟨⟨by omega,by omega⟩⟩|exact⟨by omega⟩|exact⟨rfl⟩
     repeat' (first|(refine Or.inl ?_;conv=>whnf)|(apply An<;>conv=>whnf))
     all_goals try first|trivial|exact Yo (by omega) (Nat.le_of_ble_eq_true rfl)|exact⟨⟨by omega,by omega,by omega,by omega⟩⟩|exact⟨⟨by omega,by omega⟩⟩|exact⟨by omega⟩|exact⟨rfl⟩
     all_goals
      refine vo hΓ ?_;conv=>whnf
      refine⟨i+1,[some 4],?_⟩;conv=>whnf
      repeat' (apply An<;>conv=>whnf)
      all_goals try first|trivial|exact Yo (by omega) (Nat.le_of_ble_eq_true rfl)|exact⟨⟨by omega,by omega,by omega,by omega⟩⟩|exact⟨⟨by omega,by omega⟩⟩|exact⟨by omega⟩|exact⟨rfl⟩
      all_goals first|exact⟨fun _ _=>rfl⟩|exact⟨⟨rfl,rfl,rfl⟩⟩|exact⟨⟨rfl,rfl⟩⟩|exact⟨by rw[A3 (by omega) (by omega)];rfl⟩|skip
      refine⟨fun j hj=>?_⟩
      show Da _ _ (Fl (pY (F3 s i) (S9 (F3 s i) (s i) i 0) (H5 (s i)) j))
      rw[hp];unfold pY
      by_cases c1:j<k
      ·rw[if_pos c1];exact A5 ((if_pos (show j<Int.toNat (k:Int) - Int.toNat 0+1 by omega)).trans ((if_pos (show j<Int.toNat (k:Int) - Int.toNat 0 by omega)).trans (congrArg (fun q=>Fl (F3 s i q)) (show 0+Int.toNat 0+j=j by omega)))) (Dq _)
      ·rw[if_neg c1]
       by_cases c2:j=k
       ·rw[if_pos c2];have e:∀(F:V),F=wH (s i)→Da [some 4] F (Fl (H5 (s i))):=fun F e=>by rw[e];exact We _ _
        refine e _ ((if_pos (show j<Int.toNat (k:Int) - Int.toNat 0+1 by omega)).trans ((if_neg (show¬j<Int.toNat (k:Int) - Int.toNat 0 by omega)).trans ?_));rw[show j - (Int.toNat (k:Int) - Int.toNat 0)=0 by omega];rfl
       ·rw[if_neg c2];exact A5 ((if_neg (show¬j<Int.toNat (k:Int) - Int.toNat 0+1 by omega)).trans (congrArg (fun q=>Fl (F3 s i q)) (show 0+Int.toNat (k:Int)+(j - (Int.toNat (k:Int) - Int.toNat 0+1))=j - 1 by omega))) (Dq _)
  ·have hin:i=n:=by
    have:¬i<n:=by simpa using h3
    omega
   subst hin;refine vo hΓ ?_;conv=>whnf
   repeat' (apply An<;>conv=>whnf)
   all_goals try first|exact⟨Ah⟩|exact⟨fun k hk=>Cl _⟩
   exact Ld.imm fun k hk=>congrArg (fun q=>Fl (F3 s i q)) (Nat.zero_add k)
structure FI(k:Int)(f:Fd)(c:Nat):Prop where
 p:G9 f
 o:U0 f
 n:f.n≤c
 e:∀i,i<f.n→Al (f.es i)=true
 v:∀i,i<f.n→Bh k (f.es i)=true
 s:f.shut=true→Bh k f.pf.a=true∧Bh k f.pf.b=true
def SI(k:Int)(p:Nat×(Nat→Fd))(c:Nat):Prop:=p.1≤100∧∀j,j<p.1→FI k (p.2 j) c
theorem FI.up{k:Int}{f:Fd}{c d:Nat}(h:FI k f c)(hd:c≤d):FI k f d:=⟨h.p,h.o,Nat.le_trans h.n hd,h.e,h.v,h.s⟩
theorem cR:Cy Il:=⟨⟨by simp[Il,Kb],by simp[Il,Kb],by simp[Il]⟩,by decide⟩
theorem Ww(k:Int){a:List UInt8}(h:a.length=32):FI k (H5 a) 0:=
 ⟨⟨h,fun _ h=>absurd h (Nat.not_lt_zero _),cR,cR⟩,⟨Nat.zero_le _,fun _ h=>absurd h (Nat.not_lt_zero _),Nat.zero_le _,Nat.zero_le _⟩,Nat.le_refl _,fun _ h=>absurd h (Nat.not_lt_zero _),fun _ h=>absurd h (Nat.not_lt_zero _),fun h=>absurd (show false=true from h) (by decide)⟩
def pG(k:Int)(p:Nat×(Nat→Fd))(e:Bw):Nat×(Nat→Fd):=
 if(gH ⟨k,⟨false,p.1,p.2⟩,e⟩).2.2=0∨(gH ⟨k,⟨false,p.1,p.2⟩,e⟩).2.2=14 then((gH ⟨k,⟨false,p.1,p.2⟩,e⟩).1,(gH ⟨k,⟨false,p.1,p.2⟩,e⟩).2.1)else p
theorem Yg{P:Bw→Prop}{p:Pf}(ha:P p.a)(hb:P p.b):P (gO p).a∧P (gO p).b:=by
 unfold gO
 split
 ·exact⟨hb,ha⟩
 ·exact⟨ha,hb⟩
theorem pM{c:Int}(h:c≠0)(g:c≠14):¬(c=0∨c=14):=fun h1=>h1.elim h g
theorem AHb{k:Int}{p:Nat×(Nat→Fd)}{e:Bw}{c:Nat}(hc:c≤1000)(h:SI k p c)(he:Cy e):SI k (pG k p e) (c+1):=by
 have keep:SI k p (c+1):=⟨h.1,fun j hj=>(h.2 j hj).up (by omega)⟩
 obtain⟨x,hx⟩:∃x:iX,x=⟨k,⟨false,p.1,p.2⟩,e⟩:=⟨_,rfl⟩;have hxk:x.k=k:=by rw[hx]
 have hxn:x.l.n=p.1:=by rw[hx]
 have hxl:x.l.l=p.2:=by rw[hx]
 have hxe:x.e=e:=by rw[hx]
 unfold pG;rw[←hx];unfold gH
 split
 ·rw[if_neg (pM (c:=1) (by decide) (by decide))];exact keep
 ·rename_i h1
  split
  ·rw[if_neg (pM (c:=16) (by decide) (by decide))];exact keep
  ·rename_i h2
   split
   ·rename_i h3;rw[if_neg (by simp only;omega)];exact keep
   ·rename_i h3
    split
    ·rw[if_neg (pM (c:=7) (by decide) (by decide))];exact keep
    ·rename_i h4;have h1:Al e=true:=by rw[←hxe];simpa using h1
     have h4:Bh k e=true:=by rw[←hxe,←hxk];simpa using h4
     have hel:=Cp h1;have hv:cN e:=by show e.val.length≤1000000;omega
     have hfl:=Lm (l:=x.l.l) (author:=x.e.author) x.l.n 0;replace hfl:x.at<0∨((0:Nat)≤x.at∧x.at<(0+x.l.n:Nat)∧(x.l.l x.at.toNat).author=x.e.author):=hfl;obtain⟨k1,k2,k3⟩:=hfl.resolve_left h2;have hm:x.at.toNat<p.1:=by omega
     have hf:=h.2 _ hm;rw[←hxl]at hf;replace hf:FI k x.f c:=hf
     split
     ·rename_i h5;obtain⟨g1,g2,g3,g4⟩:=cS h5;rw[if_pos (.inr rfl)]
      have hi:(x.e.seq - 1).toNat<x.f.n:=by
       have g5:1≤x.e.seq:=by rw[hxe];exact hel.2.2.2.2.2.2.1
       replace g3:x.e.seq≤(x.f.n:Nat):=g3;omega
      refine⟨by show x.l.n≤100;rw[hxn];exact h.1,fun j hj=>?_⟩
      show FI k (if j=x.at.toNat then _ else _) _
      split
      ·have q1:=Yg (P:=Cy) (p:=⟨x.f.es (x.e.seq - 1).toNat,x.e⟩) (hf.p.2.1 _ hi) (by rw[hxe];exact he);have q2:=Yg (P:=cN) (p:=⟨x.f.es (x.e.seq - 1).toNat,x.e⟩) (hf.o.2.1 _ hi) (by rw[hxe];exact hv);have q3:=Yg (P:=fun e=>Bh k e=true) (p:=⟨x.f.es (x.e.seq - 1).toNat,x.e⟩) (hf.v _ hi) (by rw[hxe];exact h4);exact⟨⟨hf.p.1,hf.p.2.1,q1⟩,⟨hf.o.1,hf.o.2.1,q2⟩,Nat.le_trans hf.n (by omega),hf.e,hf.v,fun _=>q3⟩
      ·rw[hxl];exact(h.2 j (by rw[←hxn];exact hj)).up (by omega)
     ·rename_i h5;have h6:(K0 ⟨x.f,x.e⟩).2=0:=Classical.byContradiction fun h6=>h3 ⟨h6,h5⟩;obtain⟨g1,g2,g3,g4⟩:=tQ h6;rw[if_pos (.inl rfl)];refine⟨by show x.l.n≤100;rw[hxn];exact h.1,fun j hj=>?_⟩
      show FI k (if j=x.at.toNat then _ else _) _
      split
      ·rw[g4]
       have al:∀P:Bw→Prop,(∀i,i<x.f.n→P (x.f.es i))→P e→∀i,i<x.f.n+1→P ((Bn x.f x.e).es i):=fun P ha hb i hi=>by
        show P (if i<x.f.n then _ else _)
        split
        ·exact ha i ‹_›
        ·rw[hxe];exact hb
       have hn:=hf.n;exact⟨⟨hf.p.1,al Cy hf.p.2.1 he,hf.p.2.2⟩,⟨by show x.f.n+1≤_;omega,al cN hf.o.2.1 hv,hf.o.2.2⟩,by show x.f.n+1≤_;omega,al (fun e=>Al e=true) hf.e h1,al (fun e=>Bh k e=true) hf.v h4,fun hs=>absurd (g2.symm.trans hs) (by decide)⟩
      ·rw[hxl];exact(h.2 j (by rw[←hxn];exact hj)).up (by omega)
def Ds(k:Int)(es:Nat→Bw)(p:Nat×(Nat→Fd)):Nat→Nat×(Nat→Fd)
 |0=>p
 |i+1=>pG k (Ds k es p i) (es i)
theorem Pj{k:Int}{es:Nat→Bw}{p:Nat×(Nat→Fd)}(h:SI k p 0):∀i,i≤1000→(∀j,j<i→Cy (es j))→SI k (Ds k es p i) i
 |0,_,_=>h
 |i+1,hi,he=>AHb (by omega) (Pj h i (by omega) fun j hj=>he j (by omega)) (he i (by omega))
def twB(t:Rw)(a:List UInt8):Nat→Bool
 |0=>false
 |k+1=>twB t a k||decide (t k=a)
def Ei(s:Rw):Nat→Nat×Rw
 |0=>(0,fun _=>Kb)
 |i+1=>if(Ei s i).1<8∧twB (Ei s i).2 (s i) (Ei s i).1=false then((Ei s i).1+1,fun j=>if j<(Ei s i).1 then(Ei s i).2 j else s i)else Ei s i
theorem fE(s:Rw):∀i,(Ei s i).1≤8∧(Ei s i).1≤i
 |0=>⟨Nat.zero_le _,Nat.le_refl _⟩
 |i+1=>by
  have:=fE s i
  unfold Ei
  split
  ·rename_i h;exact⟨by show _+1≤8;omega,by show _+1≤_;omega⟩
  ·omega
theorem Rb{s:Rw}{n:Nat}(hl:∀k,k<n→(s k).length=32):∀i,i≤n→∀j,j<(Ei s i).1→((Ei s i).2 j).length=32
 |0,_,j,h=>absurd h (Nat.not_lt_zero _)
 |i+1,hi,j,h=>by
  unfold Ei at h⊢
  split
  ·rename_i h1;rw[if_pos h1]at h
   show(if j<_ then _ else _:List UInt8).length=32
   split
   ·exact Rb hl i (by omega) j ‹_›
   ·exact hl i (by omega)
  ·rename_i h1;rw[if_neg h1]at h;exact Rb hl i (by omega) j h
theorem bO{s:Rw}{i:Nat}(h:8≤(Ei s i).1):∀d,Ei s (i+d)=Ei s i
 |0=>rfl
 |d+1=>by
  have:=bO h d
  show Ei s ((i+d)+1)=_
  generalize i+d=q at this
  show(if(Ei s q).1<8∧_ then _ else Ei s q)=_
  rw[if_neg (fun h1=>by have:=h1.1;rw[‹Ei s q=_›]at this;omega),this]
def J1(s:Rw)(n:Nat):Nat×Rw:=if(Ei s n).1=0 then(1,fun _=>Kb)else Ei s n
structure StA where
 k:Int
 b:Bool
 n:Nat
 s:Rw
 c:Bool
 m:Nat
 es:Nat→Bw
def Sf(x:StA):Nat×(Nat→Fd):=Ds x.k x.es ((J1 x.s x.n).1,F3 (J1 x.s x.n).2 (J1 x.s x.n).1) (min x.m 40)
structure ALk(x:StA):Prop where
 k:D0 x.k
 n:x.n≤1000
 s:∀j,j<x.n→(x.s j).length=32
 m:x.m≤1000
 e:∀j,j<x.m→Cy (x.es j)
def AWg:A7:=Bf (fun(x:StA)=>[.int .i64 x.k,Gm x.b x.n x.s, .imm x.c 133 x.m fun j=>Ak (x.es j)]) ALk Sf (fun r=>C8 false r.1 r.2)
set_option maxHeartbeats 4000000 in
theorem AGc:FOk Tryz.prog G 12 AWg:=A8 fun⟨kd,b,n,s,c,m,es⟩ ⟨hk,hn,hs,hm,he⟩=>by
 simp only at hk hn hs hm he
 show CP _ _ _ [.int .i64 kd,Gm b n s, .imm c 133 m fun j=>Ak (es j)] fun v=>Ld v (C8 false (Sf ⟨kd,b,n,s,c,m,es⟩).1 (Sf ⟨kd,b,n,s,c,m,es⟩).2)
 have hΓ:=Ab Tryz.f12.ntmps _ _ [] (.cons (AG8) (.cons (AG2) .nil)) .nil;refine Aw hΓ Tryz.func12 ?_;conv=>whnf
 refine A4 (ι:=Nat) (fun i=>[(0, .int .i64 kd),(1,Gm b n s),(2, .imm c 133 m fun j=>Ak (es j)),(7, .sl 0 [] 32 0 (Ei s i).1 (Ei s i).1),(8, .int .i64 (i:Nat))]) (fun i=>[some (Dv (Ei s i).1 (Ei s i).2)]) (fun i=>i≤n) (fun i=>n - i) 0 [none] ?_ (fun i hi=>vo hΓ ?_)
 ·conv=>whnf
  repeat' ((first|apply Ap<;>intro _|apply An)<;>conv=>whnf)
  all_goals try exact⟨Ah⟩
 ·have hd:=fE s i;have hdl:=Rb hs i hi;have hst:Ei s (i+1)=if(Ei s i).1<8∧twB (Ei s i).2 (s i) (Ei s i).1=false then((Ei s i).1+1,fun j=>if j<(Ei s i).1 then(Ei s i).2 j else s i)else Ei s i:=rfl
  have hsy:8≤(Ei s i).1→Ei s i=Ei s n:=fun h=>by
   have:=bO h (n - i)
   rw[show i+(n - i)=n by omega]at this;exact this.symm
  have hsn:i=n→Ei s i=Ei s n:=fun h=>by rw[h]
  obtain⟨⟨M,t⟩,hD⟩:∃p,p=Ei s i:=⟨_,rfl⟩;rw[←hD]at hd hdl hst hsy hsn⊢;clear hD;simp only at hd hdl hst hsy;conv=>whnf
  apply Ap<;>intro g1
  ·have hin:i<n:=by simpa using g1
   conv=>whnf
   apply Ap<;>intro g2
   ·have hd8:M<8:=by
     have:(M:Int)<8:=by simpa using g2
     omega
    conv=>whnf
    refine A4 (ι:=Nat) (fun k=>[(0, .int .i64 kd),(1,Gm b n s),(2, .imm c 133 m fun j=>Ak (es j)),(7, .sl 0 [] 32 0 M M),(8, .int .i64 (i:Nat)),(9, .bool (twB t (s i) k)),(10, .int .i64 (k:Nat))]) (fun k=>[some (Dv M t)]) (fun k=>k≤M) (fun k=>M - k) 0 [some 0] ?_ (fun k hk=>vo hΓ ?_)
    ·conv=>whnf
     repeat' ((first|apply Ap<;>intro _|apply An)<;>conv=>whnf)
     all_goals try first|exact⟨Ah⟩|exact⟨fun j hj=>Aa _ (by simp[arrV,Mm,bf])⟩
    ·conv=>whnf
     apply Ap<;>intro g3
     ·have hkM:k<M:=by
       have:(k:Int)<M:=by simpa using g3
       omega
      have hau:=B7 (hdl k hkM) (hs i hin);conv=>whnf
      repeat' ((first|apply Ap<;>intro _|apply An)<;>conv=>whnf)
      all_goals try first|exact⟨Ah⟩|exact⟨⟨by show(0:Int)≤(k:Int);omega,by show(k:Int)<(M:Int);omega⟩⟩|exact⟨by show 0+Int.toNat (k:Int)<M;omega⟩|exact⟨⟨by show(0:Int)≤(i:Int);omega,by show(i:Int)<(n:Int);omega⟩⟩
      all_goals
       refine⟨k+1,[some 0],?_⟩;conv=>whnf
       repeat' (apply An<;>conv=>whnf)
       all_goals try first|exact⟨Ah⟩|exact⟨fun j hj=>Aa _ (by simp[arrV,Mm,bf])⟩|exact⟨by rw[A3 (by omega) (by omega)];rfl⟩
      ·rename_i g4;exact⟨by rw[twB,g4];rfl⟩
      ·rename_i g4;refine⟨?_⟩;rw[twB,g4,Bool.false_or,Nat.zero_add,Int.toNat_natCast,Int.toNat_natCast];exact hau
     ·have hkM:k=M:=by
       have:¬((k:Int)<M):=by simpa using g3
       omega
      subst hkM;refine vo hΓ ?_;conv=>whnf
      apply Ap<;>intro g4
      ·replace g4:twB t (s i) k=false:=by simpa using g4
       rw[if_pos ⟨hd8,g4⟩]at hst;conv=>whnf
       repeat' (apply An<;>conv=>whnf)
       all_goals try first|exact⟨Ah⟩|exact⟨⟨by show(0:Int)≤(i:Int);omega,by show(i:Int)<(n:Int);omega⟩⟩
       refine Or.inl ?_;conv=>whnf
       repeat' (apply An<;>conv=>whnf)
       all_goals try first|exact⟨Ah⟩|exact Yo (by omega) (Nat.le_of_ble_eq_true rfl)
       refine vo hΓ ?_;conv=>whnf
       refine⟨i+1,[some 2],?_⟩;rw[hst];conv=>whnf
       repeat' (apply An<;>conv=>whnf)
       all_goals try first|exact⟨Ah⟩|exact⟨by rw[A3 (by omega) (by omega)];rfl⟩
       refine⟨fun j hj=>?_⟩
       show Da _ _ (arrV 32 (if j<k then t j else s i))
       by_cases c1:j<k
       ·rw[if_pos c1];exact A5 (if_pos c1) (by simp[arrV,Mm,bf])
       ·rw[if_neg c1]
        obtain rfl:j=k:=by
         have:j<k+1:=hj
         omega
        refine A5 ((if_neg c1).trans ?_) (by simp[arrV,Mm,bf]);rw[Nat.sub_self];rfl
      ·replace g4:twB t (s i) k=true:=by simpa using g4
       rw[if_neg (by rw[g4];simp)]at hst;refine vo hΓ ?_;conv=>whnf
       refine⟨i+1,[some 0],?_⟩;rw[hst];conv=>whnf
       repeat' (apply An<;>conv=>whnf)
       all_goals try first|exact⟨Ah⟩|exact⟨fun j hj=>Aa _ (by simp[arrV,Mm,bf])⟩|exact⟨by rw[A3 (by omega) (by omega)];rfl⟩
   ·have hd8:8≤M:=by
     have:¬(M:Int)<8:=by simpa using g2
     omega
    have hfin:=hsy hd8;conv=>whnf
    refine vo hΓ ?_;conv=>whnf
    apply Ap<;>intro g5
    ·replace g5:M=0:=by
      have:(M:Int)=0:=by simpa using g5
      omega
     have hsm:J1 s n=(1,fun _=>Kb):=by unfold J1;rw[←hfin,if_pos g5]
     conv=>whnf
     repeat' (apply An<;>conv=>whnf)
     all_goals try first|exact⟨Ah⟩|exact⟨A0 (fun _ _=>trivial) A9⟩
     refine⟨⟨true,1,fun _=>Kb⟩,⟨AE.immR (A0 (Cm.row fun k _=>(Cz 32 k).symm) A9),trivial⟩,⟨by show 1≤100;omega,fun _ _=>rfl⟩,fun rr hr=>?_⟩;replace hr:rr=(1,F3 (fun _=>Kb) 1):=hr;have hsl:∀q,q<1→(((fun _=>Kb):Rw) q).length=32:=fun _ _=>rfl;obtain⟨pn,nq⟩:=rr;rw[show Sf ⟨kd,b,n,s,c,m,es⟩=Ds kd es (pn,nq) (min m 40) by rw[hr];unfold Sf;rw[hsm]]
     have hI:∀i,i≤min m 40→SI kd (Ds kd es (pn,nq) i) i:=fun i hi=>Pj (by
      rw[hr];refine⟨by show 1≤100;omega,fun j hj=>?_⟩;obtain⟨q,h1,h2⟩:=Ia (s:=(fun _=>Kb)) 1 j hj
      show FI kd (F3 (fun _=>Kb) 1 j) 0
      rw[h2];exact Ww kd (hsl q h1)) i (by omega) fun j hj=>he j (by omega)
     clear hr;conv=>whnf
     refine A4 (ι:=Nat) (fun i=>[(0, .int .i64 kd),(2, .imm c 133 m fun j=>Ak (es j)),(11,C8 false (Ds kd es (pn,nq) i).1 (Ds kd es (pn,nq) i).2),(12, .int .i64 (i:Nat))]) (fun i=>[]) (fun i=>i≤min m 40) (fun i=>min m 40 - i) 0 [] ?_ (fun i hi=>vo hΓ ?_)
     ·conv=>whnf
      repeat' ((first|apply Ap<;>intro _|apply An)<;>conv=>whnf)
      all_goals try exact⟨Ah⟩
     have hSI:=hI i hi;have hnx:Ds kd es (pn,nq) (i+1)=pG kd (Ds kd es (pn,nq) i) (es i):=rfl;have hex:i=min m 40→Ds kd es (pn,nq) (min m 40)=Ds kd es (pn,nq) i:=fun h=>by rw[h]
     obtain⟨⟨N,l⟩,hq⟩:∃q,q=Ds kd es (pn,nq) i:=⟨_,rfl⟩;rw[←hq]at hSI hnx hex⊢;clear hq;conv=>whnf
     apply Ap<;>intro g6
     ·have him:i<m:=by simpa using g6
      conv=>whnf
      apply Ap<;>intro g7
      ·have hi4:i<40:=by
        have:(i:Int)<40:=by simpa using g7
        omega
       conv=>whnf
       repeat' (apply An<;>conv=>whnf)
       all_goals try first|exact⟨Ah⟩|exact⟨⟨by show(0:Int)≤(i:Int);omega,by show(i:Int)<(m:Int);omega⟩⟩|exact⟨fun k _=>Jf _⟩
       refine⟨⟨kd,⟨false,N,l⟩,es i⟩,⟨AE.refl _,AE.refl _,AE.refl _,trivial⟩,⟨⟨hk,by show N≤1000;have:=hSI.1;simp only at this;omega,fun j hj=>⟨(hSI.2 j hj).p,(hSI.2 j hj).o,Nat.le_trans (hSI.2 j hj).n (by omega),(hSI.2 j hj).e⟩,(he i him)⟩⟩,fun r2 hr2=>?_⟩
       have hn2:Ds kd es (pn,nq) (i+1)=if r2.2.2=0∨r2.2.2=14 then(r2.1,r2.2.1)else(N,l):=by rw[hnx,hr2];rfl
       obtain⟨N2,l2,c2⟩:=r2;clear hr2 hnx;simp only at hn2
       by_cases c0:c2=0
       ·subst c0;rw[if_pos (.inl rfl)]at hn2;conv=>whnf
        repeat' (first|(apply Ap<;>intro hp<;>first|(exfalso;revert hp;simp;done)|conv=>whnf)|(apply An<;>conv=>whnf))
        all_goals
         refine⟨i+1,[],?_⟩;rw[hn2];conv=>whnf
         repeat' (apply An<;>conv=>whnf)
         all_goals try first|exact⟨Ah⟩|exact⟨by rw[A3 (by omega) (by omega)];rfl⟩
       ·by_cases c4:c2=14
        ·subst c4;rw[if_pos (.inr rfl)]at hn2;conv=>whnf
         repeat' (first|(apply Ap<;>intro hp<;>first|(exfalso;revert hp;simp;done)|conv=>whnf)|(apply An<;>conv=>whnf))
         all_goals
          refine⟨i+1,[],?_⟩;rw[hn2];conv=>whnf
          repeat' (apply An<;>conv=>whnf)
          all_goals try first|exact⟨Ah⟩|exact⟨by rw[A3 (by omega) (by omega)];rfl⟩
        ·rw[if_neg (pM c0 c4)]at hn2;conv=>whnf
         repeat' (first|(apply Ap<;>intro hp<;>first|(exfalso;revert hp;simp[c0,c4];done)|conv=>whnf)|(apply An<;>conv=>whnf))
         all_goals
          refine⟨i+1,[],?_⟩;rw[hn2];conv=>whnf
          repeat' (apply An<;>conv=>whnf)
          all_goals try first|exact⟨Ah⟩|exact⟨by rw[A3 (by omega) (by omega)];rfl⟩
      ·have hi4:¬i<40:=by
        have:¬(i:Int)<40:=by simpa using g7
        omega
       rw[hex (by omega)];conv=>whnf
       refine vo hΓ ?_;conv=>whnf
       repeat' (apply An<;>conv=>whnf)
       all_goals try first|exact⟨Ah⟩|exact⟨fun k _=>Cl _⟩
       exact Ld.refl _
     ·have him:¬i<m:=by simpa using g6
      rw[hex (by omega)];refine vo hΓ ?_;conv=>whnf
      repeat' (apply An<;>conv=>whnf)
      all_goals try first|exact⟨Ah⟩|exact⟨fun k _=>Cl _⟩
      exact Ld.refl _
    ·replace g5:M≠0:=by
      have:¬(M:Int)=0:=by simpa using g5
      omega
     have hsm:J1 s n=(M,t):=by unfold J1;rw[←hfin,if_neg g5]
     conv=>whnf
     repeat' (apply An<;>conv=>whnf)
     all_goals try first|exact⟨Ah⟩|exact⟨by show 0+M≤M;omega⟩|exact⟨fun k _=>fun _ _=>trivial⟩
     refine⟨⟨true,M,t⟩,⟨AE.imm fun k hk=>congrArg (fun j=>arrV 32 (t j)) (Nat.zero_add k),trivial⟩,⟨by show M≤100;omega,hdl⟩,fun rr hr=>?_⟩;replace hr:rr=(M,F3 t M):=hr;have hsl:=hdl;obtain⟨pn,nq⟩:=rr;rw[show Sf ⟨kd,b,n,s,c,m,es⟩=Ds kd es (pn,nq) (min m 40) by rw[hr];unfold Sf;rw[hsm]]
     have hI:∀i,i≤min m 40→SI kd (Ds kd es (pn,nq) i) i:=fun i hi=>Pj (by
      rw[hr];refine⟨by show M≤100;omega,fun j hj=>?_⟩;obtain⟨q,h1,h2⟩:=Ia (s:=t) M j hj
      show FI kd (F3 t M j) 0
      rw[h2];exact Ww kd (hsl q h1)) i (by omega) fun j hj=>he j (by omega)
     clear hr;conv=>whnf
     refine A4 (ι:=Nat) (fun i=>[(0, .int .i64 kd),(2, .imm c 133 m fun j=>Ak (es j)),(11,C8 false (Ds kd es (pn,nq) i).1 (Ds kd es (pn,nq) i).2),(12, .int .i64 (i:Nat))]) (fun i=>[]) (fun i=>i≤min m 40) (fun i=>min m 40 - i) 0 [] ?_ (fun i hi=>vo hΓ ?_)
     ·conv=>whnf
      repeat' ((first|apply Ap<;>intro _|apply An)<;>conv=>whnf)
      all_goals try exact⟨Ah⟩
     have hSI:=hI i hi;have hnx:Ds kd es (pn,nq) (i+1)=pG kd (Ds kd es (pn,nq) i) (es i):=rfl;have hex:i=min m 40→Ds kd es (pn,nq) (min m 40)=Ds kd es (pn,nq) i:=fun h=>by rw[h]
     obtain⟨⟨N,l⟩,hq⟩:∃q,q=Ds kd es (pn,nq) i:=⟨_,rfl⟩;rw[←hq]at hSI hnx hex⊢;clear hq;conv=>whnf
     apply Ap<;>intro g6
     ·have him:i<m:=by simpa using g6
      conv=>whnf
      apply Ap<;>intro g7
      ·have hi4:i<40:=by
        have:(i:Int)<40:=by simpa using g7
        omega
       conv=>whnf
       repeat' (apply An<;>conv=>whnf)
       all_goals try first|exact⟨Ah⟩|exact⟨⟨by show(0:Int)≤(i:Int);omega,by show(i:Int)<(m:Int);omega⟩⟩|exact⟨fun k _=>Jf _⟩
       refine⟨⟨kd,⟨false,N,l⟩,es i⟩,⟨AE.refl _,AE.refl _,AE.refl _,trivial⟩,⟨⟨hk,by show N≤1000;have:=hSI.1;simp only at this;omega,fun j hj=>⟨(hSI.2 j hj).p,(hSI.2 j hj).o,Nat.le_trans (hSI.2 j hj).n (by omega),(hSI.2 j hj).e⟩,(he i him)⟩⟩,fun r2 hr2=>?_⟩
       have hn2:Ds kd es (pn,nq) (i+1)=if r2.2.2=0∨r2.2.2=14 then(r2.1,r2.2.1)else(N,l):=by rw[hnx,hr2];rfl
       obtain⟨N2,l2,c2⟩:=r2;clear hr2 hnx;simp only at hn2
       by_cases c0:c2=0
       ·subst c0;rw[if_pos (.inl rfl)]at hn2;conv=>whnf
        repeat' (first|(apply Ap<;>intro hp<;>first|(exfalso;revert hp;simp;done)|conv=>whnf)|(apply An<;>conv=>whnf))
        all_goals
         refine⟨i+1,[],?_⟩;rw[hn2];conv=>whnf
         repeat' (apply An<;>conv=>whnf)
         all_goals try first|exact⟨Ah⟩|exact⟨by rw[A3 (by omega) (by omega)];rfl⟩
       ·by_cases c4:c2=14
        ·subst c4;rw[if_pos (.inr rfl)]at hn2;conv=>whnf
         repeat' (first|(apply Ap<;>intro hp<;>first|(exfalso;revert hp;simp;done)|conv=>whnf)|(apply An<;>conv=>whnf))
         all_goals
          refine⟨i+1,[],?_⟩;rw[hn2];conv=>whnf
          repeat' (apply An<;>conv=>whnf)
          all_goals try first|exact⟨Ah⟩|exact⟨by rw[A3 (by omega) (by omega)];rfl⟩
        ·rw[if_neg (pM c0 c4)]at hn2;conv=>whnf
         repeat' (first|(apply Ap<;>intro hp<;>first|(exfalso;revert hp;simp[c0,c4];done)|conv=>whnf)|(apply An<;>conv=>whnf))
         all_goals
          refine⟨i+1,[],?_⟩;rw[hn2];conv=>whnf
          repeat' (apply An<;>conv=>whnf)
          all_goals try first|exact⟨Ah⟩|exact⟨by rw[A3 (by omega) (by omega)];rfl⟩
      ·have hi4:¬i<40:=by
        have:¬(i:Int)<40:=by simpa using g7
        omega
       rw[hex (by omega)];conv=>whnf
       refine vo hΓ ?_;conv=>whnf
       repeat' (apply An<;>conv=>whnf)
       all_goals try first|exact⟨Ah⟩|exact⟨fun k _=>Cl _⟩
       exact Ld.refl _
     ·have him:¬i<m:=by simpa using g6
      rw[hex (by omega)];refine vo hΓ ?_;conv=>whnf
      repeat' (apply An<;>conv=>whnf)
      all_goals try first|exact⟨Ah⟩|exact⟨fun k _=>Cl _⟩
      exact Ld.refl _
  ·have hfin:=hsn (by
    have:¬i<n:=by simpa using g1
    omega)
   refine vo hΓ ?_;conv=>whnf
   apply Ap<;>intro g5
   ·replace g5:M=0:=by
     have:(M:Int)=0:=by simpa using g5
     omega
    have hsm:J1 s n=(1,fun _=>Kb):=by unfold J1;rw[←hfin,if_pos g5]
    conv=>whnf
    repeat' (apply An<;>conv=>whnf)
    all_goals try first|exact⟨Ah⟩|exact⟨A0 (fun _ _=>trivial) A9⟩
    refine⟨⟨true,1,fun _=>Kb⟩,⟨AE.immR (A0 (Cm.row fun k _=>(Cz 32 k).symm) A9),trivial⟩,⟨by show 1≤100;omega,fun _ _=>rfl⟩,fun rr hr=>?_⟩;replace hr:rr=(1,F3 (fun _=>Kb) 1):=hr;have hsl:∀q,q<1→(((fun _=>Kb):Rw) q).length=32:=fun _ _=>rfl;obtain⟨pn,nq⟩:=rr;rw[show Sf ⟨kd,b,n,s,c,m,es⟩=Ds kd es (pn,nq) (min m 40) by rw[hr];unfold Sf;rw[hsm]]
    have hI:∀i,i≤min m 40→SI kd (Ds kd es (pn,nq) i) i:=fun i hi=>Pj (by
     rw[hr];refine⟨by show 1≤100;omega,fun j hj=>?_⟩;obtain⟨q,h1,h2⟩:=Ia (s:=(fun _=>Kb)) 1 j hj
     show FI kd (F3 (fun _=>Kb) 1 j) 0
     rw[h2];exact Ww kd (hsl q h1)) i (by omega) fun j hj=>he j (by omega)
    clear hr;conv=>whnf
    refine A4 (ι:=Nat) (fun i=>[(0, .int .i64 kd),(2, .imm c 133 m fun j=>Ak (es j)),(11,C8 false (Ds kd es (pn,nq) i).1 (Ds kd es (pn,nq) i).2),(12, .int .i64 (i:Nat))]) (fun i=>[]) (fun i=>i≤min m 40) (fun i=>min m 40 - i) 0 [] ?_ (fun i hi=>vo hΓ ?_)
    ·conv=>whnf
     repeat' ((first|apply Ap<;>intro _|apply An)<;>conv=>whnf)
     all_goals try exact⟨Ah⟩
    have hSI:=hI i hi;have hnx:Ds kd es (pn,nq) (i+1)=pG kd (Ds kd es (pn,nq) i) (es i):=rfl;have hex:i=min m 40→Ds kd es (pn,nq) (min m 40)=Ds kd es (pn,nq) i:=fun h=>by rw[h]
    obtain⟨⟨N,l⟩,hq⟩:∃q,q=Ds kd es (pn,nq) i:=⟨_,rfl⟩;rw[←hq]at hSI hnx hex⊢;clear hq;conv=>whnf
    apply Ap<;>intro g6
    ·have him:i<m:=by simpa using g6
     conv=>whnf
     apply Ap<;>intro g7
     ·have hi4:i<40:=by
       have:(i:Int)<40:=by simpa using g7
       omega
      conv=>whnf
      repeat' (apply An<;>conv=>whnf)
      all_goals try first|exact⟨Ah⟩|exact⟨⟨by show(0:Int)≤(i:Int);omega,by show(i:Int)<(m:Int);omega⟩⟩|exact⟨fun k _=>Jf _⟩
      refine⟨⟨kd,⟨false,N,l⟩,es i⟩,⟨AE.refl _,AE.refl _,AE.refl _,trivial⟩,⟨⟨hk,by show N≤1000;have:=hSI.1;simp only at this;omega,fun j hj=>⟨(hSI.2 j hj).p,(hSI.2 j hj).o,Nat.le_trans (hSI.2 j hj).n (by omega),(hSI.2 j hj).e⟩,(he i him)⟩⟩,fun r2 hr2=>?_⟩
      have hn2:Ds kd es (pn,nq) (i+1)=if r2.2.2=0∨r2.2.2=14 then(r2.1,r2.2.1)else(N,l):=by rw[hnx,hr2];rfl
      obtain⟨N2,l2,c2⟩:=r2;clear hr2 hnx;simp only at hn2
      by_cases c0:c2=0
      ·subst c0;rw[if_pos (.inl rfl)]at hn2;conv=>whnf
       repeat' (first|(apply Ap<;>intro hp<;>first|(exfalso;revert hp;simp;done)|conv=>whnf)|(apply An<;>conv=>whnf))
       all_goals
        refine⟨i+1,[],?_⟩;rw[hn2];conv=>whnf
        repeat' (apply An<;>conv=>whnf)
        all_goals try first|exact⟨Ah⟩|exact⟨by rw[A3 (by omega) (by omega)];rfl⟩
      ·by_cases c4:c2=14
       ·subst c4;rw[if_pos (.inr rfl)]at hn2;conv=>whnf
        repeat' (first|(apply Ap<;>intro hp<;>first|(exfalso;revert hp;simp;done)|conv=>whnf)|(apply An<;>conv=>whnf))
        all_goals
         refine⟨i+1,[],?_⟩;rw[hn2];conv=>whnf
         repeat' (apply An<;>conv=>whnf)
         all_goals try first|exact⟨Ah⟩|exact⟨by rw[A3 (by omega) (by omega)];rfl⟩
       ·rw[if_neg (pM c0 c4)]at hn2;conv=>whnf
        repeat' (first|(apply Ap<;>intro hp<;>first|(exfalso;revert hp;simp[c0,c4];done)|conv=>whnf)|(apply An<;>conv=>whnf))
        all_goals
         refine⟨i+1,[],?_⟩;rw[hn2];conv=>whnf
         repeat' (apply An<;>conv=>whnf)
         all_goals try first|exact⟨Ah⟩|exact⟨by rw[A3 (by omega) (by omega)];rfl⟩
     ·have hi4:¬i<40:=by
       have:¬(i:Int)<40:=by simpa using g7
       omega
      rw[hex (by omega)];conv=>whnf
      refine vo hΓ ?_;conv=>whnf
      repeat' (apply An<;>conv=>whnf)
      all_goals try first|exact⟨Ah⟩|exact⟨fun k _=>Cl _⟩
      exact Ld.refl _
    ·have him:¬i<m:=by simpa using g6
     rw[hex (by omega)];refine vo hΓ ?_;conv=>whnf
     repeat' (apply An<;>conv=>whnf)
     all_goals try first|exact⟨Ah⟩|exact⟨fun k _=>Cl _⟩
     exact Ld.refl _
   ·replace g5:M≠0:=by
     have:¬(M:Int)=0:=by simpa using g5
     omega
    have hsm:J1 s n=(M,t):=by unfold J1;rw[←hfin,if_neg g5]
    conv=>whnf
    repeat' (apply An<;>conv=>whnf)
    all_goals try first|exact⟨Ah⟩|exact⟨by show 0+M≤M;omega⟩|exact⟨fun k _=>fun _ _=>trivial⟩
    refine⟨⟨true,M,t⟩,⟨AE.imm fun k hk=>congrArg (fun j=>arrV 32 (t j)) (Nat.zero_add k),trivial⟩,⟨by show M≤100;omega,hdl⟩,fun rr hr=>?_⟩;replace hr:rr=(M,F3 t M):=hr;have hsl:=hdl;obtain⟨pn,nq⟩:=rr;rw[show Sf ⟨kd,b,n,s,c,m,es⟩=Ds kd es (pn,nq) (min m 40) by rw[hr];unfold Sf;rw[hsm]]
    have hI:∀i,i≤min m 40→SI kd (Ds kd es (pn,nq) i) i:=fun i hi=>Pj (by
     rw[hr];refine⟨by show M≤100;omega,fun j hj=>?_⟩;obtain⟨q,h1,h2⟩:=Ia (s:=t) M j hj
     show FI kd (F3 t M j) 0
     rw[h2];exact Ww kd (hsl q h1)) i (by omega) fun j hj=>he j (by omega)
    clear hr;conv=>whnf
    refine A4 (ι:=Nat) (fun i=>[(0, .int .i64 kd),(2, .imm c 133 m fun j=>Ak (es j)),(11,C8 false (Ds kd es (pn,nq) i).1 (Ds kd es (pn,nq) i).2),(12, .int .i64 (i:Nat))]) (fun i=>[]) (fun i=>i≤min m 40) (fun i=>min m 40 - i) 0 [] ?_ (fun i hi=>vo hΓ ?_)
    ·conv=>whnf
     repeat' ((first|apply Ap<;>intro _|apply An)<;>conv=>whnf)
     all_goals try exact⟨Ah⟩
    have hSI:=hI i hi;have hnx:Ds kd es (pn,nq) (i+1)=pG kd (Ds kd es (pn,nq) i) (es i):=rfl;have hex:i=min m 40→Ds kd es (pn,nq) (min m 40)=Ds kd es (pn,nq) i:=fun h=>by rw[h]
    obtain⟨⟨N,l⟩,hq⟩:∃q,q=Ds kd es (pn,nq) i:=⟨_,rfl⟩;rw[←hq]at hSI hnx hex⊢;clear hq;conv=>whnf
    apply Ap<;>intro g6
    ·have him:i<m:=by simpa using g6
     conv=>whnf
     apply Ap<;>intro g7
     ·have hi4:i<40:=by
       have:(i:Int)<40:=by simpa using g7
       omega
      conv=>whnf
      repeat' (apply An<;>conv=>whnf)
      all_goals try first|exact⟨Ah⟩|exact⟨⟨by show(0:Int)≤(i:Int);omega,by show(i:Int)<(m:Int);omega⟩⟩|exact⟨fun k _=>Jf _⟩
      refine⟨⟨kd,⟨false,N,l⟩,es i⟩,⟨AE.refl _,AE.refl _,AE.refl _,trivial⟩,⟨⟨hk,by show N≤1000;have:=hSI.1;simp only at this;omega,fun j hj=>⟨(hSI.2 j hj).p,(hSI.2 j hj).o,Nat.le_trans (hSI.2 j hj).n (by omega),(hSI.2 j hj).e⟩,(he i him)⟩⟩,fun r2 hr2=>?_⟩
      have hn2:Ds kd es (pn,nq) (i+1)=if r2.2.2=0∨r2.2.2=14 then(r2.1,r2.2.1)else(N,l):=by rw[hnx,hr2];rfl
      obtain⟨N2,l2,c2⟩:=r2;clear hr2 hnx;simp only at hn2
      by_cases c0:c2=0
      ·subst c0;rw[if_pos (.inl rfl)]at hn2;conv=>whnf
       repeat' (first|(apply Ap<;>intro hp<;>first|(exfalso;revert hp;simp;done)|conv=>whnf)|(apply An<;>conv=>whnf))
       all_goals
        refine⟨i+1,[],?_⟩;rw[hn2];conv=>whnf
        repeat' (apply An<;>conv=>whnf)
        all_goals try first|exact⟨Ah⟩|exact⟨by rw[A3 (by omega) (by omega)];rfl⟩
      ·by_cases c4:c2=14
       ·subst c4;rw[if_pos (.inr rfl)]at hn2;conv=>whnf
        repeat' (first|(apply Ap<;>intro hp<;>first|(exfalso;revert hp;simp;done)|conv=>whnf)|(apply An<;>conv=>whnf))
        all_goals
         refine⟨i+1,[],?_⟩;rw[hn2];conv=>whnf
         repeat' (apply An<;>conv=>whnf)
         all_goals try first|exact⟨Ah⟩|exact⟨by rw[A3 (by omega) (by omega)];rfl⟩
       ·rw[if_neg (pM c0 c4)]at hn2;conv=>whnf
        repeat' (first|(apply Ap<;>intro hp<;>first|(exfalso;revert hp;simp[c0,c4];done)|conv=>whnf)|(apply An<;>conv=>whnf))
        all_goals
         refine⟨i+1,[],?_⟩;rw[hn2];conv=>whnf
         repeat' (apply An<;>conv=>whnf)
         all_goals try first|exact⟨Ah⟩|exact⟨by rw[A3 (by omega) (by omega)];rfl⟩
     ·have hi4:¬i<40:=by
       have:¬(i:Int)<40:=by simpa using g7
       omega
      rw[hex (by omega)];conv=>whnf
      refine vo hΓ ?_;conv=>whnf
      repeat' (apply An<;>conv=>whnf)
      all_goals try first|exact⟨Ah⟩|exact⟨fun k _=>Cl _⟩
      exact Ld.refl _
    ·have him:¬i<m:=by simpa using g6
     rw[hex (by omega)];refine vo hΓ ?_;conv=>whnf
     repeat' (apply An<;>conv=>whnf)
     all_goals try first|exact⟨Ah⟩|exact⟨fun k _=>Cl _⟩
     exact Ld.refl _
end Go.Proofs.YtaihjcpfjgpmoaaGreatDoor
