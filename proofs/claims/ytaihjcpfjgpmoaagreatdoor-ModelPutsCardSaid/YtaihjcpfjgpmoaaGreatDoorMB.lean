/- Part of the claim ModelPuts: M4, M5a, M6a. -/
import Derived.Test.YtaihjcpfjgpmoaaGreatDoorZD
import Derived.Test.YtaihjcpfjgpmoaaGreatDoorMA
set_option linter.unusedVariables false
set_option linter.unusedSimpArgs false
set_option maxRecDepth 100000
set_option maxHeartbeats 2000000
namespace Go.Proofs.YtaihjcpfjgpmoaaGreatDoor
open Go Go.DD
structure FnA where
 f:qP
 author:List UInt8
def G5(l:Nat→Fd)(author:List UInt8):Nat→Nat→Int|0,_=>-1|n+1,i=>if(l i).author=author then((i:Nat):Int)else G5 l author n (i+1)
def En(l:Nat→Fd)(n:Nat)(author:List UInt8):Int:=G5 l author n 0
def F62:A7:=Bf (fun(x:Fd×List UInt8)=>[Fl x.1, .pim true (arrV 32 x.2)]) (fun x=>x.1.author.length=32∧x.2.length=32) (fun x=>decide (x.1.author=x.2)) .bool
theorem AMp:FOk Tryz.prog [] 62 F62:=A8 fun⟨f,a⟩ ⟨hf,ha⟩=>by
 have hau:=B7 hf ha;have hΓ:=Ad Tryz.f62.ntmps _ _ (FL.all .nil) (HL.all .nil);refine Aw hΓ Tryz.func62 ?_;conv=>whnf
 repeat' ((first|apply Ap<;>intro _|apply An)<;>conv=>whnf)
 all_goals try first|exact⟨Ah⟩|exact⟨fun _ _=>rfl⟩
 refine Ld.of (congrArg V.bool ?_);exact hau
theorem eT:Aj Tryz.prog (Ka Tryz.f61.ntmps [(62,F62)] []):=Ad Tryz.f61.ntmps [(62,F62)] [] (FL.all (.cons AMp .nil)) (HL.all .nil)
def S61:Ai:=fun xs h κ=>xs.length=2∧B4 Tryz.prog (Ka Tryz.f61.ntmps [(62,F62)] []) (Bd Tryz.f61) Tryz.f61.results.toList xs h κ
theorem AOb:Af Tryz.prog [] 61 S61:=Q6 2 eT Tryz.func61
def AK0:A7:=Bf (fun(x:FnA)=>[C8 x.f.b x.f.n x.f.l,arrV 32 x.author]) (fun x=>x.author.length=32∧(∀k,k<x.f.n→(x.f.l k).author.length=32)∧x.f.n≤1000000) (fun x=>En x.f.l x.f.n x.author) (.int .i64)
theorem AAr:FOk Tryz.prog [] 26 AK0:=A8 fun⟨⟨b,n,l⟩,author⟩ ⟨ha,hl,hn⟩=>by
 replace ha:author.length=32:=ha;replace hl:∀k,k<n→(l k).author.length=32:=hl;replace hn:n≤1000000:=hn
 show CP _ _ _ [C8 b n l,arrV 32 author] fun v=>Ld v (.int .i64 (En l n author))
 have hΓ:=Ad Tryz.f26.ntmps _ _ (FL.all .nil) (HL.all (.cons AOb .nil));refine Aw hΓ Tryz.func26 ?_;conv=>whnf
 refine⟨rfl,?_⟩;refine vj eT ?_;conv=>whnf
 refine A4 (ι:=Nat) (fun i=>[(0,C8 b n l),(1, .fn 62 (.cons (.ref 0 []) .nil)),(7, .int .i64 (n:Nat)),(8, .int .i64 (i:Nat))]) (fun i=>[some (arrV 32 author)]) (fun i=>i≤n∧En l n author=G5 l author (n - i) i) (fun i=>n - i) 0 [some 0] ?_ (fun i hi=>vj eT ?_)
 ·conv=>whnf
  repeat' ((first|apply Ap<;>intro _|apply An)<;>conv=>whnf)
  all_goals try exact⟨Ba⟩
  all_goals exact⟨⟨Nat.zero_le _,rfl⟩⟩
 ·obtain⟨hi1,hi2⟩:=hi;conv=>whnf
  apply Ap<;>intro h3<;>conv=>whnf
  ·have hin:i<n:=by
    have:((i:Nat):Int)<(n:Nat):=by simpa using h3
    omega
   have hau:=B7 (hl i hin) ha
   have hst:G5 l author (n - i) i=if(l i).author=author then((i:Nat):Int)else G5 l author (n - (i+1)) (i+1):=by
    obtain⟨m,hm⟩:∃m,n - i=m+1:=⟨n - i - 1,by omega⟩;rw[hm,G5,show n - (i+1)=m by omega]
   conv=>whnf
   repeat' ((first|apply Ap<;>intro _|apply An)<;>conv=>whnf)
   all_goals(try simp only[decide_eq_true_eq,decide_eq_false_iff_not,Int.toNat_natCast,Bool.not_eq_true,Bool.not_eq_false]at*)
   all_goals try exact⟨Ah⟩
   ·exact⟨⟨fun _ _=>trivial,fun h=>nomatch h⟩⟩
   refine⟨(l i,author),⟨AE.refl _,AE.refl _,trivial⟩,⟨hl i hin,ha⟩,?_⟩;intro r hr;replace hr:r=decide ((l i).author=author):=hr;conv=>whnf
   repeat' ((first|apply Ap<;>intro _|apply An)<;>conv=>whnf)
   ·rename_i g;replace g:r=true:=g;refine Ld.of (congrArg (V.int .i64) ?_);rw[hi2,hst,if_pos (of_decide_eq_true (hr.symm.trans g))]
   ·rename_i g;replace g:r=false:=g;refine⟨i+1,[some 0],?_⟩;conv=>whnf
    repeat' (apply An<;>conv=>whnf)
    all_goals try exact⟨Ba⟩
    ·exact⟨by rw[A3 (by omega) (by omega)];rfl⟩
    exact⟨⟨⟨by omega,by rw[hi2,hst,if_neg (of_decide_eq_false (hr.symm.trans g))]⟩,by omega⟩⟩
  ·have hin:i=n:=by
    have:¬((i:Nat):Int)<(n:Nat):=by simpa using h3
    omega
   refine vj eT ?_;conv=>whnf
   refine Ld.of (congrArg (V.int .i64) ?_);rw[hi2,hin,Nat.sub_self];rfl
structure GtA where
 b:Bool
 n:Nat
 cs:Nat→Ce
 key:List UInt8
def Nd(cs:Nat→Ce)(key:List UInt8):Nat→Nat→Int|0,_=>-1|n+1,i=>if(cs i).key=key then((i:Nat):Int)else Nd cs key n (i+1)
def wB(x:GtA):Int:=Nd x.cs x.key x.n 0
def Qk(x:GtA):List UInt8×Int:=if wB x<0∨(x.cs (wB x).toNat).gone=true then([],10)else((x.cs (wB x).toNat).val,0)
def ADs:A7:=Bf (fun(x:Ce×List UInt8)=>[C1 x.1, .pim true (.str x.2)]) (fun _=>True) (fun x=>decide (x.1.key=x.2)) .bool
theorem AFp:FOk Tryz.prog [] 45 ADs:=A8 fun⟨c,k⟩ _=>by
 have hΓ:=Ad Tryz.f45.ntmps _ _ (FL.all .nil) (HL.all .nil);refine Aw hΓ Tryz.func45 ?_;conv=>whnf
 repeat' ((first|apply Ap<;>intro _|apply An)<;>conv=>whnf)
 refine Ld.of (congrArg V.bool ?_);rw[Bool.eq_iff_iff];simp
theorem eR:Aj Tryz.prog (Ka Tryz.f44.ntmps [(45,ADs)] []):=Ad Tryz.f44.ntmps [(45,ADs)] [] (FL.all (.cons AFp .nil)) (HL.all .nil)
def S44:Ai:=fun xs h κ=>xs.length=2∧B4 Tryz.prog (Ka Tryz.f44.ntmps [(45,ADs)] []) (Bd Tryz.f44) Tryz.f44.results.toList xs h κ
theorem AO6:Af Tryz.prog [] 44 S44:=Q6 2 eR Tryz.func44
def AUn:A7:=Bf (fun(x:GtA)=>[Nr x.b x.n x.cs, .str x.key]) (fun x=>x.n≤1000000∧∀k,k<x.n→(x.cs k).val.length≤1000000) Qk (fun r=> .tup (.cons (Bl false r.1) (.cons (.int .i64 r.2) .nil)))
theorem fZ:FOk Tryz.prog [] 16 AUn:=A8 fun⟨b,n,cs,key⟩ ⟨hn,hv⟩=>by
 replace hn:n≤1000000:=hn;replace hv:∀k,k<n→(cs k).val.length≤1000000:=hv;have hg:Qk ⟨b,n,cs,key⟩=if Nd cs key n 0<0∨(cs (Nd cs key n 0).toNat).gone=true then([],10)else((cs (Nd cs key n 0).toNat).val,0):=rfl;have hΓ:=Ad Tryz.f16.ntmps _ _ (FL.all (.cons oU .nil)) (HL.all (.cons AO6 .nil));refine Aw hΓ Tryz.func16 ?_;conv=>whnf
 refine⟨rfl,?_⟩;refine vj eR ?_;conv=>whnf
 refine A4 (ι:=Nat) (fun i=>[(0,Nr b n cs),(1, .fn 45 (.cons (.ref 0 []) .nil)),(7, .int .i64 (n:Nat)),(8, .int .i64 (i:Nat))]) (fun i=>[some (.str key)]) (fun i=>i≤n∧Nd cs key n 0=Nd cs key (n - i) i) (fun i=>n - i) 0 [some 0] ?_ (fun i hi=>vj eR ?_)
 ·conv=>whnf
  repeat' ((first|apply Ap<;>intro _|apply An)<;>conv=>whnf)
  all_goals try exact⟨Ba⟩
  all_goals exact⟨⟨Nat.zero_le _,rfl⟩⟩
 ·obtain⟨hi1,hi2⟩:=hi;conv=>whnf
  apply Ap<;>intro h3<;>conv=>whnf
  ·have hin:i<n:=by
    have:((i:Nat):Int)<(n:Nat):=by simpa using h3
    omega
   have hst:Nd cs key (n - i) i=if(cs i).key=key then((i:Nat):Int)else Nd cs key (n - (i+1)) (i+1):=by
    obtain⟨m,hm⟩:∃m,n - i=m+1:=⟨n - i - 1,by omega⟩;rw[hm,Nd,show n - (i+1)=m by omega]
   conv=>whnf
   repeat' ((first|apply Ap<;>intro _|apply An)<;>conv=>whnf)
   all_goals(try simp only[decide_eq_true_eq,decide_eq_false_iff_not,Int.toNat_natCast,Bool.not_eq_true,Bool.not_eq_false]at*)
   all_goals try exact⟨Ah⟩
   ·exact⟨⟨trivial,fun h=>nomatch h⟩⟩
   refine⟨(cs i,key),⟨AE.refl _,AE.refl _,trivial⟩,⟨trivial⟩,?_⟩;intro r hr;replace hr:r=decide ((cs i).key=key):=hr;conv=>whnf
   apply Ap<;>intro h4<;>conv=>whnf
   ·replace h4:r=true:=h4;have hk:Nd cs key n 0=(i:Nat):=by rw[hi2,hst,if_pos (of_decide_eq_true (hr.symm.trans h4))]
    rw[hk]at hg;conv=>whnf
    repeat' ((first|apply Ap<;>intro _|apply An)<;>conv=>whnf)
    all_goals(try simp only[decide_eq_true_eq,decide_eq_false_iff_not,Int.toNat_natCast,Bool.not_eq_true,Bool.not_eq_false]at*)
    all_goals try exact⟨Ah⟩
    ·omega
    ·rw[hg,if_pos (.inr (by assumption))];exact Ld.two Ld.emp (by simp) rfl (by simp[Bl]) rfl
    ·refine⟨.of false (cs i).val,rfl,⟨trivial,hv i hin⟩,?_⟩;conv=>whnf
     repeat' ((first|apply Ap<;>intro _|apply An)<;>conv=>whnf)
     all_goals try exact⟨Ah⟩
     rw[hg,if_neg (by rw[not_or,Bool.not_eq_true];exact⟨by omega,by assumption⟩)];exact Ld.of rfl
   ·replace h4:r=false:=h4;conv=>whnf
    repeat' ((first|apply Ap<;>intro _|apply An)<;>conv=>whnf)
    refine⟨i+1,[some 0],?_⟩;conv=>whnf
    repeat' (apply An<;>conv=>whnf)
    all_goals try exact⟨Ba⟩
    ·exact⟨by rw[A3 (by omega) (by omega)];rfl⟩
    exact⟨⟨⟨by omega,by rw[hi2,hst,if_neg (of_decide_eq_false (hr.symm.trans h4))]⟩,by omega⟩⟩
  ·have hin:i=n:=by
    have:¬((i:Nat):Int)<(n:Nat):=by simpa using h3
    omega
   have hk:Nd cs key n 0= -1:=by rw[hi2,hin,Nat.sub_self];rfl
   rw[hk]at hg;refine vj eR ?_;conv=>whnf
   apply Ap<;>intro h4<;>conv=>whnf
   ·conv=>whnf
    rw[hg,if_pos (.inl (by decide))];exact Ld.two Ld.emp (by simp) rfl (by simp[Bl]) rfl
   ·exact absurd h4 (by decide)
def M7(es:Nat→Bw):Nat→Int→Int|0,c=>c|n+1,c=>max (M7 es n c) (es n).stamp
def Ep(l:Nat→Fd):Nat→Int|0=>0|n+1=>if(l n).shut then Ep l n else M7 (l n).es (l n).n (Ep l n)
def C7(a:qP):Int:=if B3 a.n a.l then Ep a.l a.n else 0
def AL6:A7:=Bf (fun(a:qP)=>[C8 a.b a.n a.l]) (fun a=>∀k,k<a.n→G9 (a.l k)) C7 (.int .i64)
theorem bU:FOk Tryz.prog G 15 AL6:=A8 fun⟨b,n,l⟩ hl=>by
 replace hl:∀k,k<n→G9 (l k):=hl
 show CP _ _ _ [C8 b n l] fun v=>Ld v (.int .i64 (C7 ⟨b,n,l⟩))
 have hΓ:=Ab Tryz.f15.ntmps _ _ [] (.cons (fV) .nil) .nil;refine Aw hΓ Tryz.func15 ?_;conv=>whnf
 refine⟨⟨b,n,l⟩,⟨AE.refl _,trivial⟩,⟨hl⟩,?_⟩;intro r hr;replace hr:r=B3 n l:=hr;conv=>whnf
 apply Ap<;>intro h1<;>conv=>whnf
 ·have hr2:r=false:=by cases r<;>simp_all
  refine Ld.of (congrArg (V.int .i64) ?_);rw[C7,if_neg (by rw[←hr,hr2];simp)]
 have hr2:r=true:=by cases r<;>simp_all
 have e1:C7 ⟨b,n,l⟩=Ep l n:=if_pos (by rw[←hr,hr2]);rw[e1];rw[hr2]at hr;obtain⟨n1,n8,hlook⟩:=C9 hr.symm;refine A4 (ι:=Nat) (fun i=>[(3, .int .i64 (Ep l i)),(12,C8 b n l),(13, .int .i64 (n:Nat)),(14, .int .i64 (i:Nat))]) (fun i=>[]) (fun i=>i≤n) (fun i=>n - i) 0 [] ?_ (fun i hi=>vo hΓ ?_)
 ·conv=>whnf
  repeat' ((first|apply Ap<;>intro _|apply An)<;>conv=>whnf)
  all_goals try exact⟨Ah⟩
 ·conv=>whnf
  apply Ap<;>intro h3<;>conv=>whnf
  ·have hin:i<n:=by
    have:((i:Nat):Int)<(n:Nat):=by simpa using h3
    omega
   have hn2:=(Gj (hlook i hin)).1;conv=>whnf
   repeat' ((first|apply Ap<;>intro _|apply An)<;>conv=>whnf)
   all_goals(try simp only[decide_eq_true_eq,decide_eq_false_iff_not,Int.toNat_natCast,Bool.not_eq_true,Bool.not_eq_false]at*)
   all_goals try exact⟨Ah⟩
   ·rename_i g;refine⟨i+1,[],?_⟩;conv=>whnf
    repeat' (apply An<;>conv=>whnf)
    all_goals try exact⟨Ah⟩
    ·refine⟨?_⟩;rw[Ep,if_pos g]
    ·exact⟨by rw[A3 (by omega) (by omega)];rfl⟩
   ·rename_i g;refine A4 (ι:=Nat) (fun j=>[(3, .int .i64 (M7 (l i).es j (Ep l i))),(12,C8 b n l),(13, .int .i64 (n:Nat)),(14, .int .i64 (i:Nat)),(21,Kn false (l i).n (l i).es),(22, .int .i64 ((l i).n:Nat)),(23, .int .i64 (j:Nat))]) (fun j=>[]) (fun j=>j≤(l i).n) (fun j=>(l i).n - j) 0 [] ?_ (fun j hj=>vo hΓ ?_)
    ·conv=>whnf
     repeat' ((first|apply Ap<;>intro _|apply An)<;>conv=>whnf)
     all_goals try exact⟨Ah⟩
    ·conv=>whnf
     apply Ap<;>intro h4<;>conv=>whnf
     ·have hjn:j<(l i).n:=by
       have:((j:Nat):Int)<((l i).n:Nat):=by simpa using h4
       omega
      conv=>whnf
      repeat' ((first|apply Ap<;>intro _|apply An)<;>conv=>whnf)
      all_goals(try simp only[decide_eq_true_eq,decide_eq_false_iff_not,Int.toNat_natCast,Bool.not_eq_true,Bool.not_eq_false]at*)
      all_goals try exact⟨Ah⟩
      refine⟨j+1,[],?_⟩;conv=>whnf
      repeat' (apply An<;>conv=>whnf)
      all_goals try exact⟨Ah⟩
      ·exact⟨by rw[A3 (by omega) (by omega)];rfl⟩
     ·have hjn:j=(l i).n:=by
       have:¬((j:Nat):Int)<((l i).n:Nat):=by simpa using h4
       omega
      refine vo hΓ ?_;conv=>whnf
      subst hjn;refine⟨i+1,[],?_⟩;conv=>whnf
      repeat' (apply An<;>conv=>whnf)
      all_goals try exact⟨Ah⟩
      ·refine⟨?_⟩;rw[Ep,if_neg (by simp[g])]
      ·exact⟨by rw[A3 (by omega) (by omega)];rfl⟩
  ·have hin:i=n:=by
    have:¬((i:Nat):Int)<(n:Nat):=by simpa using h3
    omega
   refine vo hΓ ?_;conv=>whnf
   subst hin;exact Ld.refl _
def P5(e:Bw):Gt:=⟨true,10,Nv e 6⟩
def Li(e:Bw):List UInt8×Int:=if Al e then M9 (P5 e)else([],1)
def Kl(e:Bw):Tr:= .arr (.cons (.leaf ⟨1,1,false,[]⟩) (.cons (.leaf ⟨3,0,true,e.author⟩) (.cons (.leaf ⟨1,e.seq,false,[]⟩) (.cons (.leaf ⟨3,0,true,e.prev⟩) (.cons (.leaf ⟨1,e.stamp,false,[]⟩)
 (.cons (.arr (.cons (.leaf ⟨1,e.kind,false,[]⟩) (.cons (.leaf ⟨4,0,false,e.key⟩) (.cons (.leaf ⟨3,0,false,e.val⟩) .nil)))) .nil))))))
theorem R4{e:Bw}(hw:iQ e)(he:Al e=true)(k:Nat):(Kl e).ok (k+2):=by
 obtain⟨h1,h2,h3,h4,h5,h6,h7,h8⟩:=Cp he;obtain⟨w1,w2,w3⟩:=hw;have hn:∀n:Int,0≤n→Wx ⟨1,n,false,[]⟩:=fun n h=>⟨by simp, .inl ⟨rfl,h,rfl⟩⟩
 have hb:∀(b:Bool) (l:List UInt8),l.length≤2000→Wx ⟨3,0,b,l⟩:=fun b l h=>⟨h, .inr (.inl ⟨rfl,rfl⟩)⟩;simp only[Kl,Tr.ok,L4.ok,L4.len];exact⟨k+1,rfl,by omega,hn _ (by omega),hb _ _ (by omega),hn _ (by omega),hb _ _ (by omega),hn _ h4,⟨k,rfl,by omega,hn _ (by omega),⟨by show e.key.length≤2000;omega, .inr (.inr ⟨rfl,rfl,h6⟩)⟩,hb _ _ (by omega),trivial⟩,trivial⟩
theorem T5{e:Bw}(hw:iQ e)(he:Al e=true):(Kl e).by.length≤400:=by
 obtain⟨h1,h2,h3,h4,h5,h6,h7,h8⟩:=Cp he;obtain⟨w1,w2,w3⟩:=hw;refine Nat.le_trans (Tr.by_len _ 6 (R4 ⟨w1,w2,w3⟩ he 4)) ?_;simp only[Kl,Tr.tk,L4.tk,L4.len,List.map_cons,List.map_nil,List.map_append,List.sum_cons,List.sum_nil,List.sum_append,List.cons_append,List.nil_append,List.append_nil,tkW,List.length_nil,w1,w2];omega
theorem X9(e:Bw):At (P5 e) 0 (Kl e).tk:=by
 refine⟨Nat.le_refl 10,fun j hj=>?_⟩;have hj:j<10:=hj
 match j,hj with
 |0,_|1,_|2,_|3,_|4,_|5,_|6,_|7,_|8,_|9,_=>rfl
theorem Rc{e:Bw}(hw:iQ e)(he:Al e=true):Li e=((Kl e).by,0):=by
 rw[Li,if_pos he];exact jV (R4 hw he 4) (X9 e) rfl (by show 10≤600;omega) (by have:=T5 hw he;omega)
theorem Xm(e:Bw):(Li e).1.length≤32768:=by
 unfold Li
 split
 ·exact rV _
 ·simp
def ADw:A7:=Iq (fun(e:Bw)=>[Ak e, .int .i64 6]) (fun e=>iQ e∧e.stamp≤9223372036854775807) (fun e=>vK (Li e))
theorem pE:FOk Tryz.prog G 129 ADw:=Fz fun e ⟨⟨w1,w2,w3⟩,hst⟩=>by
 have hΓ:=Ab Tryz.f129.ntmps _ _ [] (.cons (fR) (.cons (AA4) .nil)) (.cons (uB) .nil);refine Aw hΓ Tryz.func129 ?_;conv=>whnf
 repeat' ((first|apply Ap<;>intro _|apply An)<;>conv=>whnf)
 all_goals try exact⟨Ah⟩
 refine⟨e,rfl,⟨trivial⟩,?_⟩;conv=>whnf
 apply Ap<;>intro h1<;>conv=>whnf
 ·have hk:Al e=false:=by
   cases hq:Al e
   ·rfl
   ·simp[hq]at h1
  have e1:Li e=([],1):=if_neg (by simp[hk]);have e2:(if Al e=true then(0:Int)else 1)=1:=if_neg (by simp[hk]);rw[e1,e2];exact Ld.two Ld.emp (by simp) rfl (by simp[Bl]) rfl
 ·have hk:Al e=true:=by
   cases hq:Al e
   ·simp[hq]at h1
   ·rfl
  have e1:Li e=M9 (P5 e):=if_pos hk;simp only[Al,Fq,Bool.and_eq_true,decide_eq_true_eq,Bool.or_eq_true]at hk;conv=>whnf
  repeat' ((first|apply Ap<;>intro _|apply An)<;>conv=>whnf)
  all_goals try exact⟨Ah⟩
  ·exact rfl
  refine vj eO ?_;conv=>whnf
  refine⟨6,rfl,⟨trivial⟩,?_⟩;conv=>whnf
  refine⟨1,rfl,⟨trivial⟩,?_⟩;conv=>whnf
  repeat' ((first|apply Ap<;>intro _|apply An)<;>conv=>whnf)
  all_goals try exact⟨Bc⟩
  refine⟨.fld 0 0 0 32 32,[some 1],?_⟩;conv=>whnf
  repeat' ((first|apply Ap<;>intro _|apply An)<;>conv=>whnf)
  all_goals try exact⟨Ib⟩
  refine⟨e.seq,rfl,⟨trivial⟩,?_⟩;conv=>whnf
  repeat' ((first|apply Ap<;>intro _|apply An)<;>conv=>whnf)
  all_goals try exact⟨Ib⟩
  refine⟨.fld 2 33 0 32 32,[some 1],?_⟩;conv=>whnf
  repeat' ((first|apply Ap<;>intro _|apply An)<;>conv=>whnf)
  all_goals try exact⟨Ib⟩
  refine⟨e.stamp,rfl,⟨trivial⟩,?_⟩;conv=>whnf
  repeat' ((first|apply Ap<;>intro _|apply An)<;>conv=>whnf)
  all_goals try exact⟨Ib⟩
  refine⟨3,rfl,⟨trivial⟩,?_⟩;conv=>whnf
  repeat' ((first|apply Ap<;>intro _|apply An)<;>conv=>whnf)
  all_goals try exact⟨Ib⟩
  refine⟨e.kind,rfl,⟨trivial⟩,?_⟩;conv=>whnf
  repeat' ((first|apply Ap<;>intro _|apply An)<;>conv=>whnf)
  all_goals try exact⟨Ib⟩
  refine⟨e.key,rfl,⟨by omega,by omega⟩,?_⟩;conv=>whnf
  repeat' ((first|apply Ap<;>intro _|apply An)<;>conv=>whnf)
  all_goals try exact⟨Ib⟩
  refine⟨.imm false e.val.length (bf e.val),[],?_⟩;conv=>whnf
  repeat' ((first|apply Ap<;>intro _|apply An)<;>conv=>whnf)
  all_goals try first|exact⟨Bc⟩|exact⟨fun _ _=>rfl⟩|exact⟨trivial⟩
  all_goals try(rename_i hx;exact absurd hx (by decide))
  ·refine⟨?_⟩;refine(A0 ?_ (A0 ?_ (A0 ?_ (A0 ?_ (A0 ?_ (A0 ?_ (A0 ?_ (A0 ?_ (A0 ?_ (A0 ?_ A9))))))))));all_goals(conv=>whnf)
   all_goals(repeat' (apply An<;>conv=>whnf))
   all_goals first
    |trivial
    |exact⟨⟨rfl,by decide⟩⟩
    |exact⟨fun _ _=>trivial⟩
  refine⟨⟨_,P5 e⟩,rfl,⟨?_,?_⟩,?_⟩
  ·show∀k,k<10→cE _ _
   refine(A0 ?_ (A0 ?_ (A0 ?_ (A0 ?_ (A0 ?_ (A0 ?_ (A0 ?_ (A0 ?_ (A0 ?_ (A0 ?_ A9))))))))))
   ·exact .inl rfl
   ·exact .inl rfl
   ·exact .inr ⟨rfl,rfl⟩
   ·exact .inr ⟨rfl,rfl⟩
   ·exact .inr ⟨rfl,rfl⟩
   ·exact .inl (Eq.trans rfl (Dh w2))
   ·exact .inr ⟨rfl,rfl⟩
   ·exact .inl (Eq.trans rfl (Dh w1))
   ·exact .inr ⟨rfl,rfl⟩
   ·exact .inr ⟨rfl,rfl⟩
  ·show∀k,k<10→mU (Nv e 6 k)
   refine(A0 ?_ (A0 ?_ (A0 ?_ (A0 ?_ (A0 ?_ (A0 ?_ (A0 ?_ (A0 ?_ (A0 ?_ (A0 ?_ A9))))))))));all_goals(refine⟨by simp only[Nv];decide,?_,?_⟩)
   all_goals(simp only[Nv,List.length_nil,w1,w2,w3])
   all_goals omega
  ·rw[e1];conv=>whnf
   repeat' ((first|apply Ap<;>intro _|apply An)<;>conv=>whnf)
   ·exact⟨fun _ _=>Bg _ _⟩
   ·exact Ld.of rfl
def AL4:A7:=Bf (fun(e:Bw)=>[Ak e]) Cy Li vK
theorem bT:FOk Tryz.prog G 90 AL4:=A8 fun e he=>by
 have hΓ:=Ab Tryz.f90.ntmps _ _ [] (.cons (pE) .nil) .nil;refine Aw hΓ Tryz.func90 ?_;conv=>whnf
 repeat' ((first|apply Ap<;>intro _|apply An)<;>conv=>whnf)
 all_goals try exact⟨Ah⟩
 refine⟨e,rfl,⟨he⟩,?_⟩;conv=>whnf
 repeat' ((first|apply Ap<;>intro _|apply An)<;>conv=>whnf)
 all_goals try exact⟨Ah⟩
 ·exact Ld.refl _
def Bn(f:Fd)(e:Bw):Fd:={f with n:=f.n+1,es:=fun k=>if k<f.n then f.es k else e}
structure PsA where
 f:Fd
 e:Bw
structure AEa(x:PsA):Prop where
 pf:G9 x.f
 ok:U0 x.f
 look:(Be x.f).2=true
 pe:Cy x.e
 ent:Al x.e=true
 auth:x.e.author=x.f.author
 opn:x.f.shut=false
 seq:x.e.seq=(x.f.n:Nat)+1
 prev:x.e.prev=(Be x.f).1
def AJy:A7:=Bf (fun(e:Bw)=>[Ak e]) (fun _=>True) Al (fun b=> .int .i64 (if b then 0 else 1))
theorem kC:FOk Tryz.prog G 63 AJy:=Ge fR
def APt:A7:=Bf (fun(x:PsA)=>[Fl x.f,Ak x.e]) AEa (fun x=>Bn x.f x.e) (fun r=> .tup (.cons (Fl r) (.cons (.int .i64 0) .nil)))
set_option maxHeartbeats 4000000 in
theorem AB0:FOk Tryz.prog G 29 APt:=A8 fun⟨f,e⟩ h=>by
 obtain⟨hpf,hok,hlook,hpe,hent,hau,hsh,hseq,hprev⟩:=h;simp only at hpf hok hlook hpe hent hau hsh hseq hprev;have hl:=lH hlook;have hra:=B7 hpe.1.1 hpf.1;have hrp:=B7 hpe.1.2.1 (Rz f);have hΓ:=Ab Tryz.f29.ntmps [(64,APn),(63,AJy),(66,FNo),(68,xR)] [(67,APy)] [(19, .one 0 (.one 2 (.one 3 (.many (.cons 1 (.one 4 (.one 5 (.one 6 (.one 7 (.done))))) (.cons 4 (.one 1 (.one 5 (.one 6 (.one 7 (.done))))) (.nil)))))))] (.cons (sF) (.cons (kC) (.cons (Xx) (.cons (Rr.g) .nil)))) (.cons (AH9) .nil);refine Aw hΓ Tryz.func29 ?_;conv=>whnf
 repeat' (apply An<;>conv=>whnf)
 all_goals try first|exact⟨Ah⟩|exact⟨fun _ _=>trivial⟩|exact⟨fun _ _=>rfl⟩
 refine⟨f,⟨AE.refl _,trivial⟩,⟨hpf⟩,?_⟩;intro r hr;replace hr:r=(((f.n:Nat):Int),(Be f).1,(0:Int)):=hr.trans hl;subst hr;conv=>whnf
 repeat' (first|(apply Ap<;>intro hp<;>first|(exfalso;revert hp;simp;done)|conv=>whnf)|(apply An<;>conv=>whnf))
 all_goals try first|exact⟨Ah⟩|exact⟨fun _ _=>trivial⟩|exact⟨fun _ _=>rfl⟩
 refine⟨e,⟨AE.refl _,trivial⟩,⟨trivial⟩,?_⟩;intro r hr;replace hr:r=true:=hr.trans hent;subst hr;have hn2:=(Gj hlook).1;have f1:De 32 (bf e.author) (bf f.author)=true:=hra.trans (decide_eq_true hau);have f2:De 32 (bf e.prev) (bf (Be f).1)=true:=hrp.trans (decide_eq_true hprev);have f3:IntKind.i64.wrap (((f.n:Nat):Int)+1)=((f.n:Nat):Int)+1:=A3 (by omega) (by omega);have f4:¬((f.n:Nat):Int)+1≤((f.n:Nat):Int):=by omega
 conv=>whnf
 repeat' (first|(apply Ap<;>intro hp<;>first|(exfalso;revert hp;simp[f1,f2,f3,f4,hsh,hseq];done)|conv=>whnf)|(apply An<;>conv=>whnf))
 all_goals try first|exact⟨Ah⟩|exact⟨fun _ _=>trivial⟩|exact⟨fun _ _=>rfl⟩
 have hev:=(Cp hent).2.1;refine⟨f,[],?_⟩;conv=>whnf
 repeat' (apply An<;>conv=>whnf)
 all_goals try first|exact⟨Ba⟩|exact⟨hok⟩|exact⟨fun _ _=>trivial⟩
 refine⟨e,⟨AE.refl _,trivial⟩,⟨by show e.val.length≤1000000;omega⟩,?_⟩;intro t ht;replace ht:t=e:=ht;subst ht;conv=>whnf
 repeat' (apply An<;>conv=>whnf)
 all_goals try first|exact⟨Ba⟩|exact⟨fun _ _=>trivial⟩
 all_goals try exact trivial
 all_goals
  refine Or.inl ?_;conv=>whnf
  repeat' (apply An<;>conv=>whnf)
 all_goals try first|exact⟨Bc⟩|exact⟨⟨by show(_+1)*192≤_;omega,by omega⟩⟩|exact⟨fun _ _=>Bg _ _⟩
 ·refine⟨fun k hk=>?_⟩;refine cast (congrArg own (Eq.symm (b:=Ak ((Bn f t).es k)) ?_)) (Ee _);replace hk:k<f.n+1:=hk
  rcases Nat.lt_or_ge k f.n with hk2|hk2
  ·exact(if_pos (show 0+k<f.n by omega)).trans (congrArg Ak (show f.es (0+k)=(Bn f t).es k by rw[Nat.zero_add];exact(if_pos hk2).symm))
  ·obtain rfl:k=f.n:=by omega
   refine(if_neg (show¬0+f.n<f.n by omega)).trans ?_
   first
    |(refine(congrArg _ (show 0+f.n - f.n=0 by omega)).trans ?_
      exact Eq.trans (b:=Ak t) rfl (congrArg Ak (show t=(Bn f t).es f.n from(if_neg (Nat.lt_irrefl _)).symm)))
    |(refine(congrArg _ (show 0+(0+f.n - f.n)=0 by omega)).trans ?_
      exact Eq.trans (b:=Ak t) rfl (congrArg Ak (show t=(Bn f t).es f.n from(if_neg (Nat.lt_irrefl _)).symm)))
 ·refine Ld.two (Ld.st (.cons (Cm.refl _) (.cons (Cm.imm rfl fun k hk=>?_) (.cons (Cm.refl _) (.cons (Cm.refl _) .nil))))) (by simp) rfl (by simp[Fl]) rfl
  replace hk:k<f.n+1:=hk
  rcases Nat.lt_or_ge k f.n with hk2|hk2
  ·exact(if_pos (show 0+k<f.n by omega)).trans (congrArg Ak (show f.es (0+k)=(Bn f t).es k by rw[Nat.zero_add];exact(if_pos hk2).symm))
  ·obtain rfl:k=f.n:=by omega
   refine(if_neg (show¬0+f.n<f.n by omega)).trans ?_
   first
    |(refine(congrArg _ (show 0+f.n - f.n=0 by omega)).trans ?_
      exact Eq.trans (b:=Ak t) rfl (congrArg Ak (show t=(Bn f t).es f.n from(if_neg (Nat.lt_irrefl _)).symm)))
    |(refine(congrArg _ (show 0+(0+f.n - f.n)=0 by omega)).trans ?_
      exact Eq.trans (b:=Ak t) rfl (congrArg Ak (show t=(Bn f t).es f.n from(if_neg (Nat.lt_irrefl _)).symm)))
 ·refine⟨fun k hk=>?_⟩;refine cast (congrArg own (Eq.symm (b:=Ak ((Bn f t).es k)) ?_)) (Ee _);replace hk:k<f.n+1:=hk
  rcases Nat.lt_or_ge k f.n with hk2|hk2
  ·exact(if_pos (show 0+k<f.n by omega)).trans (congrArg Ak (show f.es (0+k)=(Bn f t).es k by rw[Nat.zero_add];exact(if_pos hk2).symm))
  ·obtain rfl:k=f.n:=by omega
   refine(if_neg (show¬0+f.n<f.n by omega)).trans ?_
   first
    |(refine(congrArg _ (show 0+f.n - f.n=0 by omega)).trans ?_
      exact Eq.trans (b:=Ak t) rfl (congrArg Ak (show t=(Bn f t).es f.n from(if_neg (Nat.lt_irrefl _)).symm)))
    |(refine(congrArg _ (show 0+(0+f.n - f.n)=0 by omega)).trans ?_
      exact Eq.trans (b:=Ak t) rfl (congrArg Ak (show t=(Bn f t).es f.n from(if_neg (Nat.lt_irrefl _)).symm)))
 ·refine Ld.two (Ld.st (.cons (Cm.refl _) (.cons (Cm.imm rfl fun k hk=>?_) (.cons (Cm.refl _) (.cons (Cm.refl _) .nil))))) (by simp) rfl (by simp[Fl]) rfl
  replace hk:k<f.n+1:=hk
  rcases Nat.lt_or_ge k f.n with hk2|hk2
  ·exact(if_pos (show 0+k<f.n by omega)).trans (congrArg Ak (show f.es (0+k)=(Bn f t).es k by rw[Nat.zero_add];exact(if_pos hk2).symm))
  ·obtain rfl:k=f.n:=by omega
   refine(if_neg (show¬0+f.n<f.n by omega)).trans ?_
   first
    |(refine(congrArg _ (show 0+f.n - f.n=0 by omega)).trans ?_
      exact Eq.trans (b:=Ak t) rfl (congrArg Ak (show t=(Bn f t).es f.n from(if_neg (Nat.lt_irrefl _)).symm)))
    |(refine(congrArg _ (show 0+(0+f.n - f.n)=0 by omega)).trans ?_
      exact Eq.trans (b:=Ak t) rfl (congrArg Ak (show t=(Bn f t).es f.n from(if_neg (Nat.lt_irrefl _)).symm)))
theorem Jf(f:Fd):Br (Fl f):=by simp[Fl,aC,Ak,aB,Bl,arrV,Br,Is,bf]
theorem yX:Aj Tryz.prog (Ka Tryz.f69.ntmps [] []):=Ad Tryz.f69.ntmps [] [] (FL.all .nil) (HL.all .nil)
def S69:Ai:=fun xs h κ=>xs.length=1∧B4 Tryz.prog (Ka Tryz.f69.ntmps [] []) (Bd Tryz.f69) Tryz.f69.results.toList xs h κ
theorem AOd:Af Tryz.prog [] 69 S69:=Q6 1 yX Tryz.func69
theorem eQ:Aj Tryz.prog (Ka Tryz.f30.ntmps [(67,ADu)] [(69,S69)]):=Ad Tryz.f30.ntmps [(67,ADu)] [(69,S69)] (FL.all (.cons AGw .nil)) (HL.all (.cons AOd .nil))
def S30:Ai:=fun xs h κ=>xs.length=1∧B4 Tryz.prog (Ka Tryz.f30.ntmps [(67,ADu)] [(69,S69)]) (Bd Tryz.f30) Tryz.f30.results.toList xs h κ
theorem AO4:Af Tryz.prog [] 30 S30:=Q6 1 eQ Tryz.func30
def AUx:Ai:=L8 (fun(a:qP)=>[C8 a.b a.n a.l]) (fun _=>[]) (fun a=>1≤a.n∧a.n≤10000∧∀k,k<a.n→U0 (a.l k)) (fun a=> .sl 0 [] 300 0 a.n a.n) (fun a=>[some (.row 300 a.n fun k=>Fl (a.l k))])
theorem AHa:Af Tryz.prog [] 30 AUx:=Cq AO4 (fun⟨b,n,l⟩ κ ⟨hn1,hn,hv⟩ h=>by
 replace hn1:1≤n:=hn1;replace hn:n≤10000:=hn;replace hv:∀k,k<n→U0 (l k):=hv;refine⟨rfl,?_⟩;refine vj eQ ?_;conv=>whnf
 refine⟨rfl,?_⟩;refine vj yX ?_;conv=>whnf
 intro q hq;replace hq:q=true→n=0:=hq;conv=>whnf
 repeat' ((first|apply Ap<;>intro _|apply An)<;>conv=>whnf)
 ·rename_i g;exact absurd (hq g) (by omega)
 refine Or.inl ?_;conv=>whnf
 repeat' ((first|apply Ap<;>intro _|apply An)<;>conv=>whnf)
 all_goals try first|exact⟨Ah⟩|exact⟨⟨by show(0+n)*448≤_;omega,by omega⟩⟩
 refine A4 (ι:=Nat) (fun i=>[(3, .sl 0 [] 300 0 n n),(8, .int .i64 (n:Nat)),(9, .int .i64 (i:Nat))]) (fun i=>[some (.row 300 n fun k=>Fl (l k))]) (fun i=>i≤n) (fun i=>n - i) 0 [some 1] ?_ (fun i hi=>vj eQ ?_)
 ·have e0:0+n=n:=Nat.zero_add n;conv=>whnf
  repeat' ((first|apply Ap<;>intro _|apply An)<;>conv=>whnf)
  all_goals try exact⟨Ah⟩
  ·exact⟨congrArg (fun m:Nat=>(m:Int)) e0⟩
  ·refine⟨fun k hk=>A5 ((if_neg (Nat.not_lt_zero k)).trans ?_) (Dq _)⟩
   first|exact congrArg (fun j=>Fl (l j)) (show k - 0=k by omega)|exact congrArg (fun j=>Fl (l j)) (show 0+(k - 0)=k by omega)
 ·conv=>whnf
  apply Ap<;>intro h3<;>conv=>whnf
  ·have hin:i<n:=by
    have:((i:Nat):Int)<(n:Nat):=by simpa using h3
    omega
   conv=>whnf
   repeat' ((first|apply Ap<;>intro _|apply An)<;>conv=>whnf)
   all_goals(try simp only[decide_eq_true_eq,decide_eq_false_iff_not,Int.toNat_natCast,Bool.not_eq_true,Bool.not_eq_false]at*)
   all_goals try exact⟨Ah⟩
   refine⟨l (0+i),⟨AE.refl _,trivial⟩,⟨by rw[Nat.zero_add];exact hv i hin⟩,?_⟩;intro r hr;replace hr:r=l (0+i):=hr;subst hr;conv=>whnf
   repeat' ((first|apply Ap<;>intro _|apply An)<;>conv=>whnf)
   all_goals try exact⟨Ah⟩
   refine⟨i+1,[some 0],?_⟩;conv=>whnf
   repeat' (apply An<;>conv=>whnf)
   all_goals try exact⟨Ah⟩
   ·exact⟨by rw[A3 (by omega) (by omega)];rfl⟩
   refine⟨fun k hk=>A5 ?_ (Dq _)⟩
   by_cases hk2:k=i
   ·subst hk2;refine(if_pos (show k=0+Int.toNat (k:Int) by omega)).trans ?_;exact congrArg (fun j=>Fl (l j)) (Nat.zero_add _)
   ·exact if_neg (show¬k=0+Int.toNat (i:Int) by omega)
  ·have hin:i=n:=by
    have:¬((i:Nat):Int)<(n:Nat):=by simpa using h3
    omega
   refine vj eQ ?_;conv=>whnf
   refine⟨[some 0], .sl 0 [] 300 0 n n,[some (.row 300 n fun k=>Fl (l k))],?_⟩;conv=>whnf
   repeat' (apply An<;>conv=>whnf)
   all_goals try first|exact⟨Bc⟩|exact⟨fun k _=>Aa _ (Dq _)⟩
   exact h) (fun _=>by simp) (fun _=>by simp[Hf]) (fun x u hu=>by
  simp at hu
  subst hu;simp only[Hf];intro k _;exact Jf _)
end Go.Proofs.YtaihjcpfjgpmoaaGreatDoor
