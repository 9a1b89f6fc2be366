/- Part of the claim ModelPuts: N60. -/
import Derived.Test.YtaihjcpfjgpmoaaGreatDoorZC
import Derived.Test.YtaihjcpfjgpmoaaGreatDoorNH
import Derived.Test.YtaihjcpfjgpmoaaGreatDoorNJ
set_option linter.unusedVariables false
set_option linter.unusedSimpArgs false
set_option maxRecDepth 100000
set_option maxHeartbeats 2000000
namespace Go.Proofs.YtaihjcpfjgpmoaaGreatDoor
open Go Go.DD
theorem AJ8{x:StA}(h:ALk x):SI x.k (Sf x) (min x.m 40):=by
 have hm:=h.m;have hd:=fE x.s x.n;have hl:=Rb h.s x.n (Nat.le_refl _)
 have h1:(J1 x.s x.n).1≤100∧∀q,q<(J1 x.s x.n).1→((J1 x.s x.n).2 q).length=32:=by
  unfold J1
  split
  ·exact⟨by show 1≤100;omega,fun _ _=>rfl⟩
  ·exact⟨by omega,hl⟩
 unfold Sf;refine Pj ⟨h1.1,fun j hj=>?_⟩ _ (by omega) fun j hj=>h.e j (by omega);obtain⟨q,h2,h3⟩:=Ia (s:=(J1 x.s x.n).2) _ j hj
 show FI x.k (F3 _ _ j) 0
 rw[h3];exact Ww x.k (h1.2 q h2)
theorem Uq{l m:Nat→Fd}{author:List UInt8}(h:∀j,(l j).author=(m j).author):∀n i,G5 l author n i=G5 m author n i
 |0,_=>rfl
 |n+1,i=>by
  unfold G5;rw[h i,Uq h n (i+1)]
theorem AGk(l:Nat→Fd)(k:Nat)(e:Bw)(n:Nat)(author:List UInt8):En (Lw l k e) n author=En l n author:=
 Uq (fun j=>by
  by_cases h:j=k
  ·rw[h,Iw];rfl
  ·rw[Ms _ _ h]) n 0
theorem AIl{x:xI}(h:(Sd x).2.2≠0):(Sd x).1=0:=by
 unfold Sd at*
 split
 ·rfl
 ·split
  ·rfl
  ·split
   ·rfl
   ·split
    ·rfl
    ·split
     ·rfl
     ·rename_i g1 g2 g3 g4 g5;rw[if_neg g1,if_neg g2,if_neg g3,if_neg g4,if_neg g5]at h;exact absurd rfl h
theorem bH{f:Nat→V}(h:∀k,gE (f k)=false):∀m lo,eH f lo m=false
 |0,_=>rfl
 |m+1,lo=>by rw[eH,h,bH h m (lo+1)];rfl
theorem ACr{cs:List Ce}{q:List UInt8}{B:Nat}(h:∀c,c∈cs→c.val.length≤B):(Q4 cs q).1.length≤B:=by
 rcases Pm cs q cs.length 0 (by omega)with⟨h1,h2⟩|⟨m,h1,h2,h3⟩
 ·unfold Q4 Qk;rw[if_pos (.inl h1)];exact Nat.zero_le _
 ·have hk:wB ⟨false,cs.length,Dy cs,q⟩=(m:Nat):=h2;unfold Q4 Qk;rw[hk]
  split
  ·exact Nat.zero_le _
  ·show(Dy cs (m:Int).toNat).val.length≤B
   rw[Int.toNat_natCast];exact h _ (H4.2 ⟨m,h1,rfl⟩)
structure PuA where
 kd:Int
 s:List UInt8
 n:Nat
 os:Rw
 m:Nat
 es:Nat→Bw
 q:Nat
 ops:Nat→Bw
 key:List UInt8
structure AV2(x:PuA):Prop where
 s:x.s.length=32
 o:∀k,k<x.n→(x.os k).length=32
 e:∀k,k<x.m→Cy (x.es k)
def F5:A7:=Bf (fun(x:PuA)=>[.int .i64 x.kd,arrV 32 x.s,Gm false x.n x.os, .imm false 133 x.m fun j=>Ak (x.es j), .imm false 3 x.q fun j=>aB (x.ops j), .str x.key]) AV2 (fun _=>true) .bool
set_option maxHeartbeats 4000000 in
theorem AQq:FOk Tryz.prog G 5 F5:=A8 fun⟨kd,s,n,os,m,es,q,ops,key⟩ ⟨hs,ho,he⟩=>by
 simp only at hs ho he
 show CP _ _ _ [.int .i64 kd,arrV 32 s,Gm false n os, .imm false 133 m fun j=>Ak (es j), .imm false 3 q fun j=>aB (ops j), .str key] fun v=>Ld v (.bool true)
 have hΓ:=Ab Tryz.f5.ntmps _ _ [(5, .one 0 (.one 1 (.one 2 (.one 7 (.many (.cons 3 (.one 4 (.one 5 (.one 6 (.one 8 (.one 9 (.done)))))) (.cons 4 (.many (.cons 3 (.one 5 (.one 6 (.one 8 (.one 9 (.done))))) (.cons 5 (.one 3 (.one 6 (.one 8 (.one 9 (.done))))) (.nil)))) (.nil))))))))] (.cons (vP) (.cons (AGc) (.cons (ACj.g) (.cons (fU) (.cons (bU) (.cons (sP) (.cons (fZ.g) (.cons (zX.g) (.cons (AGd) (.cons (AMb) .nil)))))))))) .nil;refine Aw hΓ Tryz.func5 ?_
 by_cases c1:(6:Int)<n
 ·conv=>whnf
  repeat' (first|(apply Ap<;>intro hp<;>first|(exfalso;revert hp;(simp[c1];done);done)|conv=>whnf)|(apply An<;>conv=>whnf))
  exact Ld.refl _
 by_cases c2:(60:Int)<m
 ·conv=>whnf
  repeat' (first|(apply Ap<;>intro hp<;>first|(exfalso;revert hp;(simp[c1,c2];done);done)|conv=>whnf)|(apply An<;>conv=>whnf))
  exact Ld.refl _
 by_cases c3:(20:Int)<q
 ·conv=>whnf
  repeat' (first|(apply Ap<;>intro hp<;>first|(exfalso;revert hp;(simp[c1,c2,c3];done);done)|conv=>whnf)|(apply An<;>conv=>whnf))
  exact Ld.refl _
 by_cases c4:(100:Int)<key.length
 ·conv=>whnf
  repeat' (first|(apply Ap<;>intro hp<;>first|(exfalso;revert hp;(simp[c1,c2,c3,c4];done);done)|conv=>whnf)|(apply An<;>conv=>whnf))
  exact Ld.refl _
 by_cases hk:kd=1∨kd=2
 rotate_left
 ·rw[not_or]at hk;conv=>whnf
  repeat' (first|(apply Ap<;>intro hp<;>first|(exfalso;revert hp;(simp[c1,c2,c3,c4,hk.1,hk.2];done);done)|conv=>whnf)|(apply An<;>conv=>whnf))
  exact Ld.refl _
 by_cases c6:kd=1∧(3:Int)<q
 ·obtain⟨rfl,c6⟩:=c6;conv=>whnf
  repeat' (first|(apply Ap<;>intro hp<;>first|(exfalso;revert hp;(simp[c1,c2,c3,c4,c6];done);done)|conv=>whnf)|(apply An<;>conv=>whnf))
  exact Ld.refl _
 replace hk:D0 kd:=hk;have c7:kd=1→¬(3:Int)<q:=fun h g=>c6 ⟨h,g⟩;have hkk:=hk;have hn6:n≤6:=by omega
 rcases hk with h1|h1
 all_goals
  conv=>whnf
  repeat' (first|(apply Ap<;>intro hp<;>first|(exfalso;revert hp;(first|(simp[c1,c2,c3,c4,h1];done)|(simp[c7 h1];done));done)|conv=>whnf)|(apply An<;>conv=>whnf))
  all_goals try first|exact⟨Ah⟩|exact⟨fun _ _=>trivial⟩
  refine⟨(kd,s),⟨AE.refl _,AE.refl _,trivial⟩,⟨hkk,hs⟩,fun p how=>?_⟩;replace how:p=Dd kd s:=how;have hpl:p.length=32:=by rw[how];exact Ok _ _
  conv=>whnf
  repeat' (first|(refine Or.inl ?_;conv=>whnf)|(apply An<;>conv=>whnf))
  all_goals try trivial
  all_goals try first|exact⟨Ah⟩|exact⟨fun _ _=>trivial⟩|exact⟨⟨by show n*32≤_;omega,by omega⟩⟩|exact⟨⟨by show(n+1)*32≤_;omega,by omega⟩⟩
  all_goals
   rw[bH fun k=>?_]
   rotate_left
   ·show gE (if k<n then _ else _)=false
    split
    ·rfl
    ·generalize k - n=j
     cases j<;>rfl
   conv=>whnf
   repeat' (apply An<;>conv=>whnf)
   ·exact⟨by omega⟩
   ·refine⟨fun k hk=>?_⟩
    show Br (if 0+k<n then _ else _)
    split
    ·exact fun _ _=>trivial
    ·rw[show 0+k - n=0 by omega];exact fun _ _=>trivial
   obtain⟨tt,htt⟩:∃tt:Rw,tt=fun k=>if k<n then os k else p:=⟨_,rfl⟩
   have httl:∀j,j<n+1→(tt j).length=32:=fun j hj=>by
    rw[htt]
    show(if j<n then os j else p).length=32
    split
    ·exact ho j ‹_›
    ·exact hpl
   have hso:ALk ⟨kd,true,n+1,tt,false,m,es⟩:=⟨hkk,by show n+1≤1000;omega,httl,by show m≤1000;omega,he⟩;refine⟨⟨kd,true,n+1,tt,false,m,es⟩,⟨AE.refl _,AE.imm fun k hk=>?_,AE.refl _,trivial⟩,⟨hso⟩,fun r hr=>?_⟩
   ·show(if 0+k<n then _ else _)=arrV 32 (tt k)
    rw[htt]
    by_cases g:k<n
    ·exact(if_pos (show 0+k<n by omega)).trans ((congrArg (fun j=>arrV 32 (os j)) (Nat.zero_add k)).trans (congrArg (arrV 32) (if_pos g).symm))
    ·refine(if_neg (show¬0+k<n by omega)).trans (Eq.trans ?_ (congrArg (arrV 32) (if_neg g).symm));rw[show 0+k - n=0 by omega];rfl
   have hsi:=AJ8 hso;replace hr:r=Sf ⟨kd,true,n+1,tt,false,m,es⟩:=hr;rw[←hr]at hsi;replace hsi:SI kd r (min m 40):=hsi;obtain⟨N,L⟩:=r;clear hr htt httl hso;conv=>whnf
   repeat' (apply An<;>conv=>whnf)
   all_goals try first|exact⟨Ah⟩|exact⟨fun _ _=>trivial⟩
   refine⟨⟨⟨false,N,L⟩,p⟩,⟨AE.refl _,AE.refl _,trivial⟩,⟨hpl,fun j hj=>(hsi.2 j hj).p.1,by show N≤1000000;have:N≤100:=hsi.1;omega⟩,fun z hz=>?_⟩;replace hz:z=En L N p:=hz;have hfl:=Lm (l:=L) (author:=p) N 0;replace hfl:z<0∨((0:Nat)≤z∧z<(0+N:Nat)∧(L z.toNat).author=p):=by rw[hz];exact hfl
   conv=>whnf
   apply Ap<;>intro h2<;>conv=>whnf
   ·exact Ld.refl _
   have hz0:¬z<0:=of_decide_eq_false h2;obtain⟨k1,k2,k3⟩:=hfl.resolve_left hz0;obtain⟨a,rfl⟩:=Int.eq_ofNat_of_zero_le (Int.not_lt.1 hz0);have haN:a<N:=by omega
   clear h2 hz0 hfl k1 k2 k3;have hpre:∀j,j<N→G9 (L j):=fun j hj=>(hsi.2 j hj).p;have hvi:=AQ4 hsi;clear hsi;conv=>whnf
   refine A4 (ι:=Nat×(Nat→Fd)) (fun x=>[(0, .int .i64 kd),(4, .imm false 3 q fun j=>aB (ops j)),(5, .str key),(7, .ref 0 []),(15,C8 false N x.2),(16, .int .i64 (a:Nat)),(17, .int .i64 (x.1:Nat))]) (fun x=>[some (arrV 32 s)]) (fun x=>x.1≤q∧(∀j,j<N→G9 (x.2 j))∧VI kd N x.2∧En x.2 N p=(a:Nat)) (fun x=>q - x.1) (0,L) [some 0] ?_ (fun i hi=>vo hΓ ?_)
   ·conv=>whnf
    repeat' ((first|apply Ap<;>intro _|apply An)<;>conv=>whnf)
    all_goals try first|exact⟨Ah⟩|exact⟨⟨Nat.zero_le _,hpre,hvi,hz.symm⟩⟩
   ·obtain⟨i,M⟩:=i;obtain⟨hi1,gpre,gvi,gfd⟩:=hi;simp only at hi1 gpre gvi gfd;conv=>whnf
    apply Ap<;>intro h3<;>conv=>whnf
    ·have hiq:i<q:=by
      have:((i:Nat):Int)<(q:Nat):=by simpa using h3
      omega
     clear h3 hi1
     by_cases d1:(100:Int)<(ops i).key.length
     ·conv=>whnf
      repeat' (first|(apply Ap<;>intro hp<;>first|(exfalso;revert hp;(simp[d1];done);done)|conv=>whnf)|(apply An<;>conv=>whnf))
      all_goals try first|exact⟨Ah⟩|exact⟨⟨by show(0:Int)≤(i:Int);omega,by show(i:Int)<(q:Int);omega⟩⟩
      exact Ld.refl _
     by_cases d2:(300:Int)<(ops i).val.length
     ·conv=>whnf
      repeat' (first|(apply Ap<;>intro hp<;>first|(exfalso;revert hp;(simp[d1,d2];done);done)|conv=>whnf)|(apply An<;>conv=>whnf))
      all_goals try first|exact⟨Ah⟩|exact⟨⟨by show(0:Int)≤(i:Int);omega,by show(i:Int)<(q:Int);omega⟩⟩
      exact Ld.refl _
     conv=>whnf
     repeat' (first|(apply Ap<;>intro hp<;>first|(exfalso;revert hp;(simp[d1,d2];done);done)|conv=>whnf)|(apply An<;>conv=>whnf))
     all_goals try first|exact⟨Ah⟩|exact⟨⟨by show(0:Int)≤(i:Int);omega,by show(i:Int)<(q:Int);omega⟩⟩|exact⟨fun _ _=>trivial⟩
     refine⟨⟨false,N,M⟩,⟨AE.refl _,trivial⟩,⟨gpre⟩,fun was hwas=>?_⟩;replace hwas:was=Dj N M:=hwas;conv=>whnf
     repeat' (apply An<;>conv=>whnf)
     all_goals try first|exact⟨Ah⟩|exact⟨fun _ _=>trivial⟩
     refine⟨⟨false,N,M⟩,⟨AE.refl _,trivial⟩,⟨gpre⟩,fun ck hck=>?_⟩;replace hck:ck=C7 ⟨false,N,M⟩:=hck;conv=>whnf
     repeat' (apply An<;>conv=>whnf)
     all_goals try first|exact⟨Ah⟩|exact⟨⟨by show(0:Int)≤(i:Int);omega,by show(i:Int)<(q:Int);omega⟩⟩|exact⟨fun _ _=>trivial⟩|exact⟨⟨by show(0:Int)≤(a:Int);omega,by show(a:Int)<(N:Int);omega⟩⟩
     refine⟨⟨kd,s,⟨false,N,M⟩,ops i⟩,⟨AE.refl _,AE.refl _,AE.refl _,AE.refl _,trivial⟩,⟨⟨hkk,hs,gpre⟩⟩,fun r hr=>?_⟩;replace hr:r=Sd ⟨kd,s,⟨false,N,M⟩,ops i⟩:=hr;obtain⟨rn,rl,re⟩:=r
     by_cases e0:re=0
     rotate_left
     ·have hn0:=AIl (x:=⟨kd,s,⟨false,N,M⟩,ops i⟩) (by rw[←hr];exact e0);rw[←hr]at hn0;replace hn0:rn=0:=hn0;subst hn0;clear hr;conv=>whnf
      repeat' (first|(apply Ap<;>intro hp<;>first|(exfalso;revert hp;(simp[e0];done);done)|conv=>whnf)|(apply An<;>conv=>whnf))
      all_goals try first|exact⟨Ah⟩|exact⟨fun _ _=>trivial⟩
      refine⟨(i+1,M),[some 0],?_⟩;conv=>whnf
      repeat' (apply An<;>conv=>whnf)
      all_goals try first|exact⟨Ah⟩|exact⟨by show IntKind.i64.wrap ((i:Int)+1)=_;rw[A3 (by omega) (by omega)];rfl⟩|exact⟨⟨⟨hiq,gpre,gvi,gfd⟩,by show q - (i+1)<q - i;omega⟩⟩
     subst e0;have hps:=ANx (x:=⟨kd,s,⟨false,N,M⟩,ops i⟩) ⟨hkk,hs,gpre,gvi,by rw[←hr]⟩;obtain⟨k,e,u⟩:=hps
     have hn:N=rn:=by
      have:=u.n
      rw[←hr]at this;exact this.symm
     have hl:rl=Lw M k e:=by
      have:=u.l
      rw[←hr]at this;exact this
     subst hn
     have hka:k=a:=by
      have h8:En M N (Dd kd s)=(k:Nat):=u.at_;have h9:En M N (Dd kd s)=(a:Nat):=by rw[←how];exact gfd
      omega
     subst hka;have f1:∀j,j<N→G9 (rl j):=by rw[hl];exact u.pre
     have f2:B3 N rl=true:=by rw[hl];exact u.ok
     have f3:VI kd N rl:=by rw[hl];exact u.v
     have f4:C7 ⟨false,N,rl⟩=ck+1:=by rw[hl,hck];exact u.clock false
     have f5:ck+1≤9223372036854775807:=by rw[hck];exact u.rng
     have f6:Q4 (Dj N rl) (ops i).key=if(ops i).kind=2 then([],10)else((ops i).val,0):=by rw[hl];exact u.see
     have f7:∀y,y≠(ops i).key→Q4 (Dj N M) y=Q4 (Dj N rl) y:=by rw[hl];exact u.other
     have f8:(rl k).n=(M k).n+1:=by rw[hl,Iw];rfl
     have f9:En rl N p=(k:Nat):=by rw[hl,AGk];exact gfd
     have f10:Fq (ops i)=true:=u.op;have fc:0≤ck:=by rw[hck];exact(M8 (a:=⟨false,N,M⟩) gpre).1
     have fn:(rl k).n≤1000:=by
      have:=((C9 f2).2.2 k haN)
      have:=(Gj this).1
      omega
     clear u hl hr gfd hck;conv=>whnf
     repeat' (first|(apply Ap<;>intro hp<;>first|(exfalso;revert hp;(simp;done);done)|conv=>whnf)|(apply An<;>conv=>whnf))
     all_goals try first|exact⟨Ah⟩|exact⟨fun _ _=>trivial⟩
     refine⟨⟨false,N,rl⟩,⟨AE.refl _,trivial⟩,⟨f1⟩,fun now hnow=>?_⟩;replace hnow:now=Dj N rl:=hnow;have gw:∀c,c∈was→AE7 c:=fun c hc=>Ue gpre (by rw[←hwas];exact hc)
     have gn:∀c,c∈now→AE7 c:=fun c hc=>Ue f1 (by rw[←hnow];exact hc)
     have lw:was.length≤1600:=by rw[hwas];exact Ud N M
     have ln:now.length≤1600:=by rw[hnow];exact Ud N rl
     rw[←hnow]at f6 f7;rw[←hwas]at f7;clear hnow hwas;conv=>whnf
     repeat' (apply An<;>conv=>whnf)
     all_goals try first|exact⟨Ah⟩|exact⟨fun _ _=>trivial⟩|exact⟨⟨by show(0:Int)≤(i:Int);omega,by show(i:Int)<(q:Int);omega⟩⟩
     refine⟨⟨false,now.length,Dy now,(ops i).key⟩,⟨AE.refl _,AE.refl _,trivial⟩,⟨by show now.length≤1000000;omega,fun j hj=>?_⟩,fun g hg=>?_⟩
     ·have:=(gn _ (Rs hj)).val
      show(Dy now j).val.length≤1000000
      omega
     replace hg:g=if(ops i).kind=2 then([],10)else((ops i).val,0):=hg.trans f6
     have hkd:(ops i).kind=1∨(ops i).kind=2:=by
      unfold Fq at f10;simp only[Bool.and_eq_true,Bool.or_eq_true,decide_eq_true_eq]at f10;exact f10.2.elim (fun h=> .inl h.1) fun h=> .inr h.1
     have w1:IntKind.i64.wrap (((M k).n:Nat)+1)=((rl k).n:Nat):=by rw[A3 (by omega) (by omega)];omega
     have lv:(ops i).val.length≤9223372036854775807:=by omega
     rcases hkd with k1|k1
     all_goals
      first
       |rw[if_pos k1]at hg
       |rw[if_neg (by rw[k1];decide)]at hg
      subst hg;conv=>whnf
      repeat' (first|(apply Ap<;>intro hp<;>first|(exfalso;revert hp;(simp[k1,w1];done);done)|conv=>whnf)|(apply An<;>conv=>whnf))
      all_goals try first|exact⟨Ah⟩|exact⟨⟨by show(0:Int)≤(i:Int);omega,by show(i:Int)<(q:Int);omega⟩⟩|exact⟨fun _ _=>trivial⟩|exact⟨⟨by show(0:Int)≤(k:Int);omega,by show(k:Int)<(N:Int);omega⟩⟩
      try
       (refine⟨(.of false (ops i).val, .of false (ops i).val),⟨AE.refl _,AE.refl _,trivial⟩,⟨⟨trivial,lv⟩,trivial⟩,fun y hy=>?_⟩
        obtain rfl:y=true:=hy.trans (decide_eq_true rfl))
      conv=>whnf
      repeat' (first|(apply Ap<;>intro hp<;>first|(exfalso;revert hp;(simp[k1,w1];done);done)|conv=>whnf)|(apply An<;>conv=>whnf))
      all_goals try first|exact⟨Ah⟩|exact⟨⟨by show(0:Int)≤(i:Int);omega,by show(i:Int)<(q:Int);omega⟩⟩|exact⟨fun _ _=>trivial⟩|exact⟨⟨by show(0:Int)≤(k:Int);omega,by show(k:Int)<(N:Int);omega⟩⟩
      refine⟨⟨false,N,rl⟩,⟨AE.refl _,trivial⟩,⟨f1⟩,fun c2 hc2=>?_⟩;replace hc2:c2=ck+1:=hc2.trans f4;have w2:IntKind.i64.wrap (ck+1)=c2:=by rw[A3 (by omega) (by omega)];exact hc2.symm
      conv=>whnf
      repeat' (first|(apply Ap<;>intro hp<;>first|(exfalso;revert hp;(simp[w2];done);done)|conv=>whnf)|(apply An<;>conv=>whnf))
      all_goals try first|exact⟨Ah⟩|exact⟨fun _ _=>trivial⟩
      refine⟨(kd,⟨false,N,rl⟩),⟨AE.refl _,AE.refl _,trivial⟩,⟨⟨hkk,f1⟩⟩,fun y hy=>?_⟩;obtain rfl:y=true:=hy.trans (AOj f2 f3)
      by_cases hq:key=(ops i).key
      ·conv=>whnf
       repeat' (first|(apply Ap<;>intro hp<;>first|(exfalso;revert hp;(simp[hq];done);done)|conv=>whnf)|(apply An<;>conv=>whnf))
       all_goals try first|exact⟨Ah⟩|exact⟨⟨by show(0:Int)≤(i:Int);omega,by show(i:Int)<(q:Int);omega⟩⟩
       refine⟨(i+1,rl),[some 0],?_⟩;conv=>whnf
       repeat' (apply An<;>conv=>whnf)
       all_goals try first|exact⟨Ah⟩|exact⟨by show IntKind.i64.wrap ((i:Int)+1)=_;rw[A3 (by omega) (by omega)];rfl⟩|exact⟨⟨⟨hiq,f1,f3,f9⟩,by show q - (i+1)<q - i;omega⟩⟩
      have hs7:=f7 key hq;conv=>whnf
      repeat' (first|(apply Ap<;>intro hp<;>first|(exfalso;revert hp;(simp[hq];done);done)|conv=>whnf)|(apply An<;>conv=>whnf))
      all_goals try first|exact⟨Ah⟩|exact⟨⟨by show(0:Int)≤(i:Int);omega,by show(i:Int)<(q:Int);omega⟩⟩
      refine⟨⟨false,was.length,Dy was,key⟩,⟨AE.refl _,AE.refl _,trivial⟩,⟨⟨by show was.length≤1000000;omega,fun j hj=>?_⟩⟩,fun g hg=>?_⟩
      ·have:=(gw _ (Rs hj)).val
       show(Dy was j).val.length≤1000000
       omega
      replace hg:g=Q4 was key:=hg;conv=>whnf
      repeat' (apply An<;>conv=>whnf)
      refine⟨⟨false,now.length,Dy now,key⟩,⟨AE.refl _,AE.refl _,trivial⟩,⟨⟨by show now.length≤1000000;omega,fun j hj=>?_⟩⟩,fun g2 hg2=>?_⟩
      ·have:=(gn _ (Rs hj)).val
       show(Dy now j).val.length≤1000000
       omega
      obtain rfl:g2=g:=hg2.trans (hs7.symm.trans hg.symm);have lg:g2.1.length≤40:=by rw[hg];exact ACr fun c hc=>(gw c hc).val
      obtain⟨gv,gf⟩:=g2;clear hg hg2;conv=>whnf
      repeat' (first|(apply Ap<;>intro hp<;>first|(exfalso;revert hp;(simp;done);done)|conv=>whnf)|(apply An<;>conv=>whnf))
      refine⟨(.of false gv, .of false gv),⟨AE.refl _,AE.refl _,trivial⟩,⟨⟨⟨trivial,by show gv.length≤9223372036854775807;have:gv.length≤40:=lg;omega⟩,trivial⟩⟩,fun y hy=>?_⟩;obtain rfl:y=true:=hy.trans (decide_eq_true rfl);conv=>whnf
      repeat' (first|(apply Ap<;>intro hp<;>first|(exfalso;revert hp;(simp;done);done)|conv=>whnf)|(apply An<;>conv=>whnf))
      refine⟨(i+1,rl),[some 0],?_⟩;conv=>whnf
      repeat' (apply An<;>conv=>whnf)
      all_goals try first|exact⟨Ah⟩|exact⟨by show IntKind.i64.wrap ((i:Int)+1)=_;rw[A3 (by omega) (by omega)];rfl⟩|exact⟨⟨⟨hiq,f1,f3,f9⟩,by show q - (i+1)<q - i;omega⟩⟩
    ·refine vo hΓ ?_;conv=>whnf
     refine⟨(),trivial,⟨trivial⟩,fun y hy=>?_⟩;replace hy:y=true:=hy;subst hy;conv=>whnf
     repeat' ((first|apply Ap<;>intro _|apply An)<;>conv=>whnf)
     exact Ld.refl _
end Go.Proofs.YtaihjcpfjgpmoaaGreatDoor
