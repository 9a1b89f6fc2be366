/- Part of the claim ModelPuts: Z30, Z32, Z34, Z33, Z35, Z36. -/
import Derived.Test.YtaihjcpfjgpmoaaGreatDoorDC
import Derived.Test.YtaihjcpfjgpmoaaGreatDoorZB
set_option linter.unusedVariables false
set_option linter.unusedSimpArgs false
set_option maxRecDepth 100000
namespace Go.Proofs.YtaihjcpfjgpmoaaGreatDoor
open Go Go.DD
def Dy(cs:List Ce)(k:Nat):Ce:=cs.getD k ce0
def Ay(cs:List Ce)(c:Ce):List Ce:=
 if(iS ⟨true,cs.length,Dy cs,c.key⟩).2=false then cs.take (iS ⟨true,cs.length,Dy cs,c.key⟩).1++[c]++cs.drop (iS ⟨true,cs.length,Dy cs,c.key⟩).1
 else if 0<Io c (Dy cs (iS ⟨true,cs.length,Dy cs,c.key⟩).1)then cs.set (iS ⟨true,cs.length,Dy cs,c.key⟩).1 c else cs
def Eg(es:Nat→Bw):Nat→List Ce→List Ce|0,cs=>cs|n+1,cs=>Ay (Eg es n cs) (Cc (es n))
def Df(l:Nat→Fd):Nat→List Ce|0=>[]|n+1=>if(l n).shut then Df l n else Eg (l n).es (l n).n (Df l n)
def Dj(n:Nat)(l:Nat→Fd):List Ce:=if B3 n l then Df l n else[]
def AUh:A7:=Bf (fun(a:BsA)=>[Nr a.b a.n a.cs, .str a.key, .fn 40 .nil]) (fun a=>a.n≤1000000) iS (fun r=> .tup (.cons (.int .i64 (r.1:Nat)) (.cons (.bool r.2) .nil)))
theorem AFt:FOk Tryz.prog [] 39 AUh:=Ge AMl
def AUi:A7:=Bf (fun(a:Ce×Ce)=>[C1 a.1,C1 a.2]) (fun a=>wfC a.1∧wfC a.2) (fun a=>Io a.1 a.2) (fun r=> .int .i64 r)
theorem AFu:FOk Tryz.prog [] 43 AUi:=Ge AMo
def AUg:A7:=Bf (fun(e:Bw)=>[Ak e]) (fun e=>Cy e∧e.val.length≤1000000) Cc C1
theorem AFs:FOk Tryz.prog G 38 AUg:=Ge AMk
def F25:A7:=Iq (fun(a:qP)=>[C8 a.b a.n a.l]) (fun a=>∀k,k<a.n→G9 (a.l k)) (fun a=>Nr false (Dj a.n a.l).length (Dy (Dj a.n a.l)))
theorem AAx{author:List UInt8}{es:Nat→Bw}{n:Nat}(h:(Er author es n).2=true):∀i,i<n→(W9 (es i)).2=0:=fun i hi=>by
 have h1:(Er author es (i+1)).2=true:=by
  cases hq:(Er author es (i+1)).2
  ·rw[Te hq n (by omega),hq]at h;cases h
  ·rfl
 by_cases h0:(Er author es i).2=false
 ·simp only[Er,if_pos h0]at h1;rw[h0]at h1;cases h1
 ·simp only[Er,if_neg h0]at h1
  split at h1
  ·cases h1
  ·rename_i h2;simp only[not_or,ne_eq,Decidable.not_not]at h2;exact h2.1
theorem zQ{e:Bw}(h:(W9 e).2=0):Al e=true:=by
 have h1:(I6 e).2=0:=by
  unfold W9 at h
  split at h
  ·assumption
  ·exact h
 unfold I6 at h1
 split at h1
 ·assumption
 ·cases h1
theorem Gj{f:Fd}(h:(Be f).2=true):f.n≤200∧∀k,k<f.n→Al (f.es k)=true:=by
 simp only[Be,Bool.and_eq_true]at h;have h1:=h.1;unfold Md at h1
 split at h1
 ·cases h1
 ·exact⟨by omega,fun k hk=>zQ (AAx h1 k hk)⟩
theorem C9{n:Nat}{l:Nat→Fd}(h:B3 n l=true):1≤n∧n≤8∧∀k,k<n→(Be (l k)).2=true:=by
 simp only[B3,Bool.and_eq_true,decide_eq_true_eq,List.all_eq_true,List.mem_range]at h;refine⟨h.1.1,h.1.2,fun k hk=>?_⟩
 have:=h.2 k hk
 simp only[Ls,Bool.and_eq_true]at this;exact this.1
theorem Cp{e:Bw}(h:Al e=true):e.key.length≤16∧e.val.length≤40∧1≤e.key.length∧0≤e.stamp∧(e.kind=1∨e.kind=2)∧Bv e.key=true∧1≤e.seq∧e.seq≤200:=by
 simp only[Al,Fq,Bool.and_eq_true,decide_eq_true_eq,Bool.or_eq_true]at h;refine⟨by omega,by omega,by omega,by omega,?_,h.2.1.2,by omega,by omega⟩
 rcases h.2.2 with h1|h1
 ·exact .inl h1.1
 ·exact .inr h1.1
theorem Rs{cs:List Ce}{k:Nat}(h:k<cs.length):Dy cs k∈cs:=by
 simp only[Dy,List.getD_eq_getElem?_getD,List.getElem?_eq_getElem h,Option.getD_some];exact List.getElem_mem h
theorem ALu(a:BsA):(iS a).1≤a.n:=eM _ _ _ (Nat.zero_le _)
theorem ALv{a:BsA}(h:(iS a).2=true):(iS a).1<a.n:=by
 simp only[iS,Bool.and_eq_true,decide_eq_true_eq]at h⊢;exact h.1
theorem dI{cs:List Ce}{c x:Ce}(h:x∈Ay cs c):x∈cs∨x=c:=by
 unfold Ay at h
 split at h
 ·simp only[List.mem_append,List.mem_singleton]at h
  rcases h with(h|h)|h
  ·exact .inl (List.mem_of_mem_take h)
  ·exact .inr h
  ·exact .inl (List.mem_of_mem_drop h)
 ·split at h
  ·rcases List.mem_or_eq_of_mem_set h with h|h
   ·exact .inl h
   ·exact .inr h
  ·exact .inl h
theorem dG(cs:List Ce)(c:Ce):(Ay cs c).length≤cs.length+1:=by
 unfold Ay
 split
 ·simp;omega
 ·split
  ·simp
  ·omega
theorem gC(cs:List Ce)(k:Nat)(c:Ce)(hk:k≤cs.length)(j:Nat):Dy (cs.take k++[c]++cs.drop k) j=Va (Dy cs) k c j:=by
 simp only[Dy,Va,List.getD_eq_getElem?_getD,List.append_assoc]
 by_cases h1:j<k
 ·rw[if_pos h1,List.getElem?_append_left (by simp;omega),List.getElem?_take_of_lt h1]
 ·rw[if_neg h1,List.getElem?_append_right (by simp;omega)]
  by_cases h2:j=k
  ·subst h2;rw[if_pos rfl,List.length_take,Nat.min_eq_left hk];simp
  ·rw[if_neg h2,List.length_take,Nat.min_eq_left hk,List.getElem?_append_right (by simp;omega),List.getElem?_drop]
   congr 2
   simp;omega
structure VwX where
 i:Nat
 cs:List Ce
 C:Nat
 g:Nat→Ce
def VwX.ok(x:VwX)(m:Nat):Prop:=x.cs.length≤x.C∧(∀j,j<x.cs.length→x.g j=Dy x.cs j)∧x.cs.length≤m∧∀c,c∈x.cs→wfC c
theorem AMc:FOk Tryz.prog G 14 F25:=Fz fun⟨b,n,l⟩ hl=>by
 replace hl:∀k,k<n→G9 (l k):=hl
 show CP _ _ _ _ fun v=>Ld v (Nr false (Dj n l).length (Dy (Dj n l)))
 have hΓ:=Ab Tryz.f14.ntmps _ _ [] (.cons (AA1) (.cons (AFs) (.cons (AFt.g) (.cons (AFu.g) .nil)))) (.cons (AN2) .nil);refine Aw hΓ Tryz.func14 ?_;conv=>whnf
 refine⟨⟨b,n,l⟩,rfl,⟨hl⟩,?_⟩;conv=>whnf
 apply Ap<;>intro h1<;>conv=>whnf
 ·have h2:B3 n l=false:=by
   cases hq:B3 n l
   ·rfl
   ·simp[hq]at h1
  simp only[Dj,h2];exact Ld.emp
 have h2:B3 n l=true:=by
  cases hq:B3 n l
  ·simp[hq]at h1
  ·rfl
 obtain⟨n1,n8,hlook⟩:=C9 h2;have hv:Dj n l=Df l n:=by simp only[Dj,h2,if_true]
 rw[hv];refine A4 (ι:=VwX) (fun x=>[(3, .slx 0 68 0 x.cs.length x.C),(14,C8 b n l),(15, .int .i64 (n:Nat)),(16, .int .i64 (x.i:Nat))]) (fun x=>[some (.row 68 x.C fun j=>C1 (x.g j))]) (fun x=>x.i≤n∧x.cs=Df l x.i∧x.ok (200*x.i)) (fun x=>n - x.i) ⟨0,[],0,fun _=>ce0⟩ [none] ?_ (fun x hx=>vo hΓ ?_)
 ·conv=>whnf
  repeat' ((first|apply Ap<;>intro _|apply An)<;>conv=>whnf)
  all_goals try first|exact⟨Bc⟩|exact⟨fun _ _=>rfl⟩
  ·refine⟨⟨Nat.zero_le _,rfl,Nat.le_refl _,fun j hj=>absurd hj (Nat.not_lt_zero _),Nat.le_refl _,fun c hc=>by cases hc⟩⟩
 obtain⟨hin,hcs,o1,o2,o3,o4⟩:=hx;conv=>whnf
 apply Ap<;>intro h3<;>conv=>whnf
 ·have hi:x.i<n:=by simpa using h3
  have hf:=hl x.i hi;have hk:=hlook x.i hi;conv=>whnf
  repeat' ((first|apply Ap<;>intro _|apply An)<;>conv=>whnf)
  all_goals try exact⟨B9⟩
  ·rename_i hsh;refine⟨⟨x.i+1,x.cs,x.C,x.g⟩,[some 0],?_⟩;conv=>whnf
   repeat' (apply An<;>conv=>whnf)
   all_goals try first|exact⟨Bc⟩|exact⟨fun _ _=>rfl⟩|exact⟨fun k _=>Aa _ (Ef _)⟩
   ·exact⟨by rw[A3 (by omega) (by omega)];rfl⟩
   ·refine⟨⟨⟨hi,?_,o1,o2,by show x.cs.length≤200*(x.i+1);omega,o4⟩,by show n - (x.i+1)<n - x.i;omega⟩⟩
    show x.cs=Df l (x.i+1)
    rw[hcs];exact(if_pos hsh).symm
  ·rename_i hsh;obtain⟨he1,he2⟩:=Gj hk;refine A4 (ι:=VwX) (fun y=>[(3, .slx 0 68 0 y.cs.length y.C),(14,C8 b n l),(15, .int .i64 (n:Nat)),(16, .int .i64 (x.i:Nat)),(23, .imm false 133 (l x.i).n fun k=>Ak ((l x.i).es k)),(24, .int .i64 ((l x.i).n:Nat)),(25, .int .i64 (y.i:Nat))]) (fun y=>[some (.row 68 y.C fun j=>C1 (y.g j))]) (fun y=>y.i≤(l x.i).n∧y.cs=Eg (l x.i).es y.i x.cs∧y.ok (200*x.i+y.i)) (fun y=>(l x.i).n - y.i) ⟨0,x.cs,x.C,x.g⟩ [some 0] ?_ (fun y hy=>vo hΓ ?_)
   ·conv=>whnf
    repeat' ((first|apply Ap<;>intro _|apply An)<;>conv=>whnf)
    all_goals try first|exact⟨Bc⟩|exact⟨fun _ _=>rfl⟩|exact⟨fun k _=>Aa _ (Ef _)⟩
    ·exact⟨⟨Nat.zero_le _,rfl,o1,o2,by show x.cs.length≤200*x.i+0;omega,o4⟩⟩
   obtain⟨hyn,hycs,p1,p2,p3,p4⟩:=hy;conv=>whnf
   apply Ap<;>intro h4<;>conv=>whnf
   ·have hj:y.i<(l x.i).n:=by simpa using h4
    have hpre:=hf.2.1 y.i hj;have Ar:=Cp (he2 y.i hj);have hle:=dG y.cs (Cc ((l x.i).es y.i))
    have hmem:∀c,c∈Ay y.cs (Cc ((l x.i).es y.i))→wfC c:=fun c hc=>by
     rcases dI hc with h|h
     ·exact p4 c h
     ·rw[h];exact⟨(hpre.1).1,Ju _⟩
    conv=>whnf
    repeat' ((first|apply Ap<;>intro _|apply An)<;>conv=>whnf)
    all_goals try exact⟨B9⟩
    refine⟨(l x.i).es y.i,⟨AE.refl _,trivial⟩,⟨hpre,by omega⟩,?_⟩;intro c hc;have hst:Ay y.cs c=_:=rfl
    conv at hst=>rhs;unfold Ay
    have hwc:wfC c:=by rw[hc];exact⟨hpre.1.1,Ju _⟩
    rw[←hc]at hle hmem;conv=>whnf
    repeat' ((first|apply Ap<;>intro _|apply An)<;>conv=>whnf)
    all_goals try first|exact⟨Bc⟩|exact⟨fun k _=>cQ _⟩|exact⟨fun k _=>Uy _⟩
    refine⟨⟨true,y.cs.length,Dy y.cs,c.key⟩,⟨AE.imm fun k hk=>?_,AE.refl _,AE.refl _,trivial⟩,⟨by show y.cs.length≤1000000;omega⟩,?_⟩
    ·show C1 (y.g (0+k))=_
     rw[Nat.zero_add,p2 k hk]
    intro r hr;have hbl:=ALu ⟨true,y.cs.length,Dy y.cs,c.key⟩;have hbt:= @ALv ⟨true,y.cs.length,Dy y.cs,c.key⟩;rw[←hr]at hst hbl hbt;replace hbl:r.1≤y.cs.length:=hbl;replace hbt:r.2=true→r.1<y.cs.length:=hbt;clear hr;conv=>whnf
    repeat' ((first|apply Ap<;>intro _|apply An)<;>conv=>whnf)
    all_goals try exact⟨B9⟩
    ·rename_i hr2;replace hr2:r.2=false:=by simpa using hr2
     rw[if_pos hr2]at hst;refine⟨⟨y.cs.length,r.1,y.C,y.g,c⟩,[some 0,some 3],?_⟩;conv=>whnf
     repeat' ((first|apply Ap<;>intro _|apply An)<;>conv=>whnf)
     all_goals try first|exact⟨Bc⟩|exact⟨fun k _=>Aa _ (Ef _)⟩
     ·refine⟨?_⟩;refine(A0 ?_ A9);exact Aa _ (Ef _)
     ·exact⟨⟨hbl,p1,by show y.cs.length≤100000;omega⟩⟩
     intro q hq;obtain⟨hq1,hq2⟩:=hq;replace hq1:y.cs.length+1≤q.1:=hq1;replace hq2:∀j,j<y.cs.length+1→q.2 j=Va y.g r.1 c j:=hq2;have hl1:(Ay y.cs c).length=y.cs.length+1:=by rw[hst];simp;omega
     conv=>whnf
     repeat' ((first|apply Ap<;>intro _|apply An)<;>conv=>whnf)
     refine⟨⟨y.i+1,Ay y.cs c,q.1,q.2⟩,[some 6],?_⟩;conv=>whnf
     repeat' (apply An<;>conv=>whnf)
     all_goals try first|exact⟨Bc⟩|exact⟨fun _ _=>rfl⟩|exact⟨fun k _=>Aa _ (Ef _)⟩|exact⟨by rw[A3 (by omega) (by omega)];rfl⟩
     ·exact⟨⟨rfl,hl1.symm,rfl⟩⟩
     ·refine⟨⟨hj,?_,⟨by show(Ay y.cs c).length≤q.1;omega,fun j hj=>?_,by show(Ay y.cs c).length≤200*x.i+(y.i+1);omega,hmem⟩⟩,by show(l x.i).n - (y.i+1)<(l x.i).n - y.i;omega⟩
      ·show Ay y.cs c=Ay _ _
       rw[←hycs,←hc]
      ·replace hj:j<(Ay y.cs c).length:=hj
       show q.2 j=Dy (Ay y.cs c) j
       rw[hq2 j (by omega),hst,gC _ _ _ hbl];simp only[Va]
       by_cases h7:j<r.1
       ·rw[if_pos h7,if_pos h7,p2 j (by omega)]
       ·rw[if_neg h7,if_neg h7]
        by_cases h8:j=r.1
        ·rw[if_pos h8,if_pos h8]
        ·rw[if_neg h8,if_neg h8,p2 _ (by omega)]
    all_goals
     rename_i hr2;replace hr2:r.2=true:=by simpa using hr2
     have hb2:=hbt hr2
    ·exact⟨by omega⟩
    ·exact⟨by omega⟩
    rw[if_neg (by simp[hr2])]at hst;refine⟨(c,y.g (0+r.1)),⟨AE.refl _,AE.refl _,trivial⟩,⟨hwc,?_⟩,?_⟩
    ·show wfC (y.g (0+r.1))
     rw[Nat.zero_add,p2 _ hb2];exact p4 _ (Rs hb2)
    intro w hw;replace hw:w=Io c (y.g (0+r.1)):=hw;rw[Nat.zero_add,p2 _ hb2]at hw;rw[←hw]at hst;conv=>whnf
    repeat' ((first|apply Ap<;>intro _|apply An)<;>conv=>whnf)
    all_goals simp only[decide_eq_true_eq,decide_eq_false_iff_not]at*
    ·exact⟨by omega⟩
    ·exact⟨by omega⟩
    ·rename_i hw2;rw[if_pos hw2]at hst;refine⟨⟨y.i+1,Ay y.cs c,y.C,fun j=>if j=r.1 then c else y.g j⟩,[some 0],?_⟩;conv=>whnf
     repeat' (apply An<;>conv=>whnf)
     all_goals try first|exact⟨Bc⟩|exact⟨fun _ _=>rfl⟩|exact⟨fun k _=>Aa _ (Ef _)⟩|exact⟨by rw[A3 (by omega) (by omega)];rfl⟩
     ·exact⟨⟨rfl,by rw[hst];simp,rfl⟩⟩
     ·refine⟨fun k hk=>A5 ?_ (Ef _)⟩
      by_cases h7:k=r.1
      ·refine(if_pos (by omega)).trans ?_
       show C1 c=C1 (if k=r.1 then c else y.g k)
       rw[if_pos h7]
      ·refine(if_neg (by omega)).trans ?_
       show C1 (y.g k)=C1 (if k=r.1 then c else y.g k)
       rw[if_neg h7]
     ·have hl1:(Ay y.cs c).length=y.cs.length:=by rw[hst];simp
      refine⟨⟨hj,?_,⟨by show(Ay y.cs c).length≤y.C;omega,fun j hj=>?_,by show(Ay y.cs c).length≤200*x.i+(y.i+1);omega,hmem⟩⟩,by show(l x.i).n - (y.i+1)<(l x.i).n - y.i;omega⟩
      ·show Ay y.cs c=Ay _ _
       rw[←hycs,←hc]
      ·replace hj:j<(Ay y.cs c).length:=hj
       show(if j=r.1 then c else y.g j)=Dy (Ay y.cs c) j
       rw[hst];simp only[Dy,List.getD_eq_getElem?_getD,List.getElem?_set]
       by_cases h7:r.1=j
       ·rw[if_pos h7.symm,if_pos h7,if_pos hb2];rfl
       ·rw[if_neg (Ne.symm h7),if_neg h7,p2 j (by omega)];simp only[Dy,List.getD_eq_getElem?_getD]
    ·rename_i hw2;rw[if_neg hw2]at hst;refine⟨⟨y.i+1,y.cs,y.C,y.g⟩,[some 0],?_⟩;conv=>whnf
     repeat' (apply An<;>conv=>whnf)
     all_goals try first|exact⟨Bc⟩|exact⟨fun _ _=>rfl⟩|exact⟨fun k _=>Aa _ (Ef _)⟩|exact⟨by rw[A3 (by omega) (by omega)];rfl⟩
     ·refine⟨⟨hj,?_,⟨p1,p2,by show y.cs.length≤200*x.i+(y.i+1);omega,p4⟩⟩,by show(l x.i).n - (y.i+1)<(l x.i).n - y.i;omega⟩
      show y.cs=Ay _ _
      rw[←hycs,←hc,hst]
   ·refine vo hΓ ?_;conv=>whnf
    have hj:y.i=(l x.i).n:=by
     have:¬((y.i:Nat):Int)<((l x.i).n:Nat):=by simpa using h4
     omega
    refine⟨⟨x.i+1,y.cs,y.C,y.g⟩,[some 0],?_⟩;conv=>whnf
    repeat' (apply An<;>conv=>whnf)
    all_goals try first|exact⟨Bc⟩|exact⟨fun _ _=>rfl⟩|exact⟨fun k _=>Aa _ (Ef _)⟩
    ·exact⟨by rw[A3 (by omega) (by omega)];rfl⟩
    ·refine⟨⟨⟨hi,?_,p1,p2,by show y.cs.length≤200*(x.i+1);omega,p4⟩,by show n - (x.i+1)<n - x.i;omega⟩⟩
     show y.cs=Df l (x.i+1)
     rw[hycs,hj,hcs];exact(if_neg (by rw[show(l x.i).shut=false from hsh];simp)).symm
 ·refine vo hΓ ?_;conv=>whnf
  have hi:x.i=n:=by
   have:¬((x.i:Nat):Int)<(n:Nat):=by simpa using h3
   omega
  rw[←hi,←hcs];conv=>whnf
  repeat' (apply An<;>conv=>whnf)
  all_goals try first|exact⟨Bc⟩|exact⟨fun k _=>cQ _⟩
  refine Ld.imm fun k hk=>?_
  show C1 (x.g (0+k))=_
  rw[Nat.zero_add,o2 k hk]
def lTk(l:List Tk)(k:Nat):Tk:=l.getD k ⟨0,0,false,[]⟩
def AUd:A7:=Bf (fun(a:qP)=>[C8 a.b a.n a.l]) (fun a=>∀k,k<a.n→G9 (a.l k)) (fun a=>B3 a.n a.l) (fun r=> .int .i64 (if r then 0 else 1))
theorem fV:FOk Tryz.prog G 25 AUd:=Ge AA1
def APn:A7:=Bf (fun(f:Fd)=>[Fl f]) G9 Yb (fun r=> .tup (.cons (.int .i64 r.1) (.cons (arrV 32 r.2.1) (.cons (.int .i64 r.2.2) .nil))))
theorem sF:FOk Tryz.prog G 64 APn:=Ge AMf
def AUc:A7:=Bf (fun(a:qP)=>[C8 a.b a.n a.l]) (fun a=>∀k,k<a.n→G9 (a.l k)) (fun a=>Dj a.n a.l) (fun r=>Nr false r.length (Dy r))
theorem fU:FOk Tryz.prog G 14 AUc:=Ge AMc
theorem lH{f:Fd}(h:(Be f).2=true):Yb f=(((f.n:Nat):Int),(Be f).1,(0:Int)):=if_pos h
theorem kW(author:List UInt8)(es:Nat→Bw)(n:Nat):(Md author es n).1.length=32:=by
 unfold Md
 split
 ·simp[Kb]
 ·exact Kp _ _ _
theorem Rz(f:Fd):(Be f).1.length=32:=kW _ _ _
theorem bsn(l m:List UInt8):∀k,(if k<l.length then bf l k else bf m (k - l.length))=bf (l++m) k:=fun k=>by
 rw[Jc]
 by_cases h:k<l.length
 ·rw[if_pos h,if_neg (by omega)]
 ·rw[if_neg h]
  by_cases h2:k<l.length+m.length
  ·rw[if_pos ⟨by omega,h2⟩]
  ·rw[if_neg (by omega)];simp only[bf,List.getD_eq_getElem?_getD];rw[List.getElem?_eq_none (by omega),List.getElem?_eq_none (by omega)]
theorem dN(es:Nat→Bw)(cs:List Ce):∀n,(Eg es n cs).length≤cs.length+n
 |0=>Nat.le_refl _
 |n+1=>by have:=dN es cs n;have:=dG (Eg es n cs) (Cc (es n));simp only[Eg];omega
theorem dR{l:Nat→Fd}:∀{n:Nat},(∀k,k<n→(l k).n≤200)→(Df l n).length≤200*n
 |0,_=>by simp[Df]
 |n+1,h=>by
  have h1:=dR (l:=l) (n:=n) (fun k hk=>h k (by omega))
  have h2:=h n (by omega);simp only[Df]
  split
  ·omega
  ·have:=dN (l n).es (Df l n) (l n).n
   omega
theorem Ud(n:Nat)(l:Nat→Fd):(Dj n l).length≤1600:=by
 unfold Dj
 split
 ·rename_i h;obtain⟨h1,h2,h3⟩:=C9 h
  have:=dR (l:=l) (n:=n) (fun k hk=>(Gj (h3 k hk)).1)
  omega
 ·simp
theorem Uc{es:Nat→Bw}{cs:List Ce}{c:Ce}:∀{n:Nat},c∈Eg es n cs→c∈cs∨∃k,k<n∧c=Cc (es k)
 |0,h=> .inl h
 |n+1,h=>by
  rcases dI (show c∈Ay (Eg es n cs) (Cc (es n))from h)with h|h
  ·rcases Uc h with h|⟨k,hk,h⟩
   ·exact .inl h
   ·exact .inr ⟨k,by omega,h⟩
  ·exact .inr ⟨n,by omega,h⟩
theorem Py{l:Nat→Fd}{c:Ce}:∀{n:Nat},c∈Df l n→∃i k,i<n∧k<(l i).n∧(l i).shut=false∧c=Cc ((l i).es k)
 |0,h=>by cases h
 |n+1,h=>by
  simp only[Df]at h
  split at h
  ·obtain⟨i,k,h1,h2⟩:=Py h;exact⟨i,k,by omega,h2⟩
  ·rename_i hs
   rcases Uc h with h|⟨k,hk,h⟩
   ·obtain⟨i,k,h1,h2⟩:=Py h;exact⟨i,k,by omega,h2⟩
   ·exact⟨n,k,by omega,hk,by simpa using hs,h⟩
structure AE7(c:Ce):Prop where
 wf:wfC c
 key1:1≤c.key.length
 key2:c.key.length≤16
 val:c.val.length≤40
 st0:0≤c.stamp
 st1:c.stamp≤9223372036854775807
 utf:Bv c.key=true
theorem Ue{n:Nat}{l:Nat→Fd}(hl:∀k,k<n→G9 (l k)){c:Ce}(h:c∈Dj n l):AE7 c:=by
 unfold Dj at h
 split at h
 ·rename_i hf;obtain⟨i,k,h1,h2,h3,rfl⟩:=Py h;obtain⟨f1,f2,f3⟩:=C9 hf;obtain⟨e1,e2⟩:=Gj (f3 i h1);have h4:=Cp (e2 k h2);have h5:=(hl i h1).2.1 k h2;exact⟨⟨h5.1.1,Ju _⟩,h4.2.2.1,h4.1,h4.2.1,h4.2.2.2.1,h5.2,h4.2.2.2.2.2.1⟩
 ·cases h
def Hk(t:Tk):List UInt8:=if t.kind=1 then Aq 0 t.n.toNat else if t.kind=4 then Aq 3 t.l.length++t.l else Aq 2 t.l.length++t.l
structure Wx(t:Tk):Prop where
 len:t.l.length≤2000
 kind:(t.kind=1∧0≤t.n∧t.l=[])∨(t.kind=3∧t.n=0)∨(t.kind=4∧t.n=0∧Bv t.l=true)
theorem wA{t:Tk}(h:Wx t):(Hk t).length≤9+t.l.length:=by
 have h1:=Cj 0 t.n.toNat;have h2:=Cj 2 t.l.length;have h3:=Cj 3 t.l.length;unfold Hk
 split
 ·omega
 ·split<;>simp<;>omega
theorem qL{a:Gt}{k:Nat}{s:WS}(h1:s.at'<a.n)(h2:s.out.length≤32768)(h3:s.bad=false)(h4:Wx (a.ts s.at')):Cr a k s=⟨s.at'+1,s.out++Hk (a.ts s.at'),false⟩:=by
 have hl:=h4.len;rw[Zt,if_neg (by omega)]
 rcases h4.kind with⟨k1,k2,k3⟩|⟨k1,k2⟩|⟨k1,k2,k3⟩
 ·rw[if_pos k1];obtain⟨m,hm⟩:∃m:Nat,(a.ts s.at').n=m:=⟨(a.ts s.at').n.toNat,by omega⟩;simp only[Hg,B6,k3,Hk,k1,if_true,hm,Int.toNat_natCast,h3];rw[Pz];simp
 ·rw[if_neg (by omega),if_neg (by omega),if_pos (.inl k1),Cd,if_neg (by simp[Ea,B6,h3,k1,k2];omega)];simp[B6,Hk,k1]
 ·rw[if_neg (by omega),if_neg (by omega),if_pos (.inr k1),Cd,if_neg (by simp[Ea,B6,h3,k1,k2,k3];omega)];simp[B6,Hk,k1]
theorem xF{a:Gt}{k:Nat}{s:WS}{n:Nat}(h1:s.at'<a.n)(h2:s.out.length≤32768)(h3:s.bad=false)(h4:(a.ts s.at').kind=5)(h5:(a.ts s.at').n=(n:Nat))(h6:(a.ts s.at').l=[])(h7:n≤64):
  Cr a (k+1) s=Lx (Cr a k) n ⟨s.at'+1,s.out++Aq 4 n,false⟩:=by
 rw[Zt,if_neg (by omega),if_neg (by omega),if_neg (by omega),if_neg (by omega),if_pos h4,Ga];refine(if_neg (by simp[J9,h6,h5];omega)).trans ?_;rw[h5,Pz];simp[B6,h3]
def AUb:A7:=Bf (fun(a:By)=>[a.v]) pR (fun a=>sha a.l) (arrV 32)
theorem AFn:FOk Tryz.prog [] 100 AUb:=Ge AA0
def F71:A7:=Bf (fun(a:By×By)=>[a.1.v,a.2.v]) (fun a=>(a.1.ok∧a.1.l.length≤9223372036854775807)∧a.2.ok) (fun a=>decide (a.1.l=a.2.l)) .bool
def inI(n lo hi:Int):Bool:=decide (lo≤n)&&decide (n≤hi)
def F42:A7:=Bf (fun(a:Int×Int×Int)=>[.int .i64 a.1, .int .i64 a.2.1, .int .i64 a.2.2]) (fun _=>True) (fun a=>inI a.1 a.2.1 a.2.2) .bool
theorem fM:FOk Tryz.prog [] 95 F42:=A8 fun a _=>by
 have hΓ:=Ad Tryz.f95.ntmps _ _ (FL.all .nil) (HL.all .nil);refine Aw hΓ Tryz.func95 ?_;conv=>whnf
 repeat' ((first|apply Ap<;>intro _|apply An)<;>conv=>whnf)
 ·rename_i h1;refine Ld.of (congrArg V.bool ?_);have h2:a.2.1≤a.1:=of_decide_eq_true h1;rw[inI,decide_eq_true h2,Bool.true_and]
 ·rename_i h1;refine Ld.of (congrArg V.bool ?_);have h2:¬a.2.1≤a.1:=of_decide_eq_false h1;rw[inI,decide_eq_false h2,Bool.false_and]
theorem vW:∀x:Fin 256,Ag .and .i64 (x.val:Nat) 31=((x.val%32:Nat):Int):=by decide
theorem vV:∀x:Fin 256,Ag .and .i64 (x.val:Nat) 15=((x.val%16:Nat):Int):=by decide
theorem ABd:∀x:Fin 256,Ag .and .i64 (x.val:Nat) 7=((x.val%8:Nat):Int):=by decide
theorem AD7:∀x:Fin 256,Ag .and .u8 (x.val:Nat) 63=((x.val%64:Nat):Int):=by decide
theorem xD:∀x:Fin 256,(Ag .and .u8 (x.val:Nat) 192 !=128)= !(decide (128≤x.val)&&decide (x.val<192)):=by decide
theorem gF{a m:Nat}(ha:a<2^40)(hm:m<64):Ag .or .i64 (Ch .i64 (a:Nat) 6) (m:Nat)=((a*64+m:Nat):Int):=by
 have h1:Ch .i64 (a:Nat) 6=((a*64:Nat):Int):=by
  simp only[Ch,IntKind.bits,show min (Int.toNat 6) 64=6 from rfl];rw[A3 (by omega) (by omega)];omega
 have hb:∀x:Nat,x<2^63→BitVec.ofInt 64 (x:Nat)=BitVec.ofNat 64 x:=fun x hx=>Zm x (by omega)
 have h2:a*64|||m=a*64+m:=by
  have:=Nat.two_pow_add_eq_or_of_lt (i:=6) (b:=m) (by omega) a
  rw[show 2^6*a=a*64 by omega]at this;exact this.symm
 rw[h1];simp only[Ag,IntKind.bits,hb (a*64) (by omega),hb m (by omega)]
 show IntKind.i64.wrap (((BitVec.ofNat 64 (a*64)|||BitVec.ofNat 64 m).toNat:Nat):Int)=_
 rw[BitVec.toNat_or,BitVec.toNat_ofNat,BitVec.toNat_ofNat,Nat.mod_eq_of_lt (by omega),Nat.mod_eq_of_lt (by omega),h2];rw[A3 (by omega) (by omega)]
def N0(c:Nat)(r:List UInt8):Nat→Nat|0=>c|k+1=>N0 c r k*64+(r.getD (k+1) 0).toNat%64
def Dm(r:List UInt8)(k:Nat):Bool:=decide (128≤(r.getD k 0).toNat)&&decide ((r.getD k 0).toNat<192)
theorem Cx(l:List UInt8)(i k:Nat):(l.drop i).getD k 0=l.getD (i+k) 0:=by
 simp[List.getD_eq_getElem?_getD]
theorem sN{c:Nat}(h:128≤c)(h':c<0xC2):Bx c=0xF1:=by rw[Bx,if_neg (by omega),if_pos (by omega)]
theorem AGl{c:Nat}(h:0xC2≤c)(h':c<0xE0):Bx c=0x02:=by rw[Bx,if_neg (by omega),if_neg (by omega),if_pos (by omega)]
theorem AGm:Bx 0xE0=0x13:=rfl
theorem AGn{c:Nat}(h:0xE0<c)(h':c<0xED):Bx c=0x03:=by rw[Bx,if_neg (by omega),if_neg (by omega),if_neg (by omega),if_neg (by omega),if_pos (by omega)]
theorem AGo:Bx 0xED=0x23:=rfl
theorem AGp{c:Nat}(h:0xED<c)(h':c<0xF0):Bx c=0x03:=by rw[Bx,if_neg (by omega),if_neg (by omega),if_neg (by omega),if_neg (by omega),if_neg (by omega),if_neg (by omega),if_pos (by omega)]
theorem AGq:Bx 0xF0=0x34:=rfl
theorem AGr{c:Nat}(h:0xF0<c)(h':c<0xF4):Bx c=0x04:=by rw[Bx,if_neg (by omega),if_neg (by omega),if_neg (by omega),if_neg (by omega),if_neg (by omega),if_neg (by omega),if_neg (by omega),if_neg (by omega),if_pos (by omega)]
theorem AGs:Bx 0xF4=0x44:=rfl
theorem sO{c:Nat}(h:0xF4<c):Bx c=0xF1:=by rw[Bx,if_neg (by omega),if_neg (by omega),if_neg (by omega),if_neg (by omega),if_neg (by omega),if_neg (by omega),if_neg (by omega),if_neg (by omega),if_neg (by omega),if_neg (by omega)]
def S6(r:List UInt8):Nat→Bool
 |1=>decide (2≤r.length)&&Dm r 1&&decide (128≤N0 ((r.getD 0 0).toNat%32) r 1)
 |2=>decide (3≤r.length)&&Dm r 1&&Dm r 2&&decide (2048≤N0 ((r.getD 0 0).toNat%16) r 2)&& !(decide (55296≤N0 ((r.getD 0 0).toNat%16) r 2)&&decide (N0 ((r.getD 0 0).toNat%16) r 2≤57343))
 |_=>decide (4≤r.length)&&Dm r 1&&Dm r 2&&Dm r 3&&decide (65536≤N0 ((r.getD 0 0).toNat%8) r 3)&&decide (N0 ((r.getD 0 0).toNat%8) r 3≤1114111)
theorem E9{x y:Bool}(h:x=true↔y=true):x=y:=Bool.eq_iff_iff.2 h
theorem AOw{r:List UInt8}(h:0<r.length)(h1:192≤(r.getD 0 0).toNat)(h2:(r.getD 0 0).toNat<224):Bv r=(S6 r 1&&Bv (r.drop 2)):=by
 rw[Jh r h]
 rcases Nat.lt_or_ge (r.getD 0 0).toNat 0xC2 with h3|h3
 ·rw[if_neg (by omega),sN (by omega) h3];simp only[S6,Dm,Ut,Lg,show(0xF1:UInt8).toNat=241 from rfl,show(0x02:UInt8).toNat=2 from rfl,show(0x13:UInt8).toNat=19 from rfl,show(0x03:UInt8).toNat=3 from rfl,show(0x23:UInt8).toNat=35 from rfl,show(0x34:UInt8).toNat=52 from rfl,show(0x04:UInt8).toNat=4 from rfl,show(0x44:UInt8).toNat=68 from rfl,Nat.reduceMod,Nat.reduceDiv,Nat.reduceEqDiff,if_true,if_false,show(0x80:UInt8).toNat=128 from rfl,show(0xBF:UInt8).toNat=191 from rfl,show(0xA0:UInt8).toNat=160 from rfl,show(0x9F:UInt8).toNat=159 from rfl,show(0x90:UInt8).toNat=144 from rfl,show(0x8F:UInt8).toNat=143 from rfl];refine(Bool.and_eq_false_iff.2 (.inl ?_)).symm;simp only[Bool.and_eq_false_iff,decide_eq_false_iff_not,Bool.not_eq_false',Bool.and_eq_true,decide_eq_true_eq];simp only[N0,Nat.reduceAdd];omega
 ·rw[if_neg (by omega),AGl h3 h2];simp only[S6,Dm,Ut,Lg,show(0xF1:UInt8).toNat=241 from rfl,show(0x02:UInt8).toNat=2 from rfl,show(0x13:UInt8).toNat=19 from rfl,show(0x03:UInt8).toNat=3 from rfl,show(0x23:UInt8).toNat=35 from rfl,show(0x34:UInt8).toNat=52 from rfl,show(0x04:UInt8).toNat=4 from rfl,show(0x44:UInt8).toNat=68 from rfl,Nat.reduceMod,Nat.reduceDiv,Nat.reduceEqDiff,if_true,if_false,show(0x80:UInt8).toNat=128 from rfl,show(0xBF:UInt8).toNat=191 from rfl,show(0xA0:UInt8).toNat=160 from rfl,show(0x9F:UInt8).toNat=159 from rfl,show(0x90:UInt8).toNat=144 from rfl,show(0x8F:UInt8).toNat=143 from rfl];refine congrArg (·&&_) (E9 ?_);simp only[Bool.and_eq_true,Bool.not_eq_true',Bool.and_eq_false_iff,decide_eq_true_eq,decide_eq_false_iff_not];simp only[N0,Nat.reduceAdd];omega
theorem AOx{r:List UInt8}(h:0<r.length)(h1:224≤(r.getD 0 0).toNat)(h2:(r.getD 0 0).toNat<240):Bv r=(S6 r 2&&Bv (r.drop 3)):=by
 rw[Jh r h]
 rcases Nat.lt_or_ge 0xE0 (r.getD 0 0).toNat with h3|h3
 ·rcases Nat.lt_or_ge (r.getD 0 0).toNat 0xED with h4|h4
  ·rw[if_neg (by omega),AGn h3 h4];simp only[S6,Dm,Ut,Lg,show(0xF1:UInt8).toNat=241 from rfl,show(0x02:UInt8).toNat=2 from rfl,show(0x13:UInt8).toNat=19 from rfl,show(0x03:UInt8).toNat=3 from rfl,show(0x23:UInt8).toNat=35 from rfl,show(0x34:UInt8).toNat=52 from rfl,show(0x04:UInt8).toNat=4 from rfl,show(0x44:UInt8).toNat=68 from rfl,Nat.reduceMod,Nat.reduceDiv,Nat.reduceEqDiff,if_true,if_false,show(0x80:UInt8).toNat=128 from rfl,show(0xBF:UInt8).toNat=191 from rfl,show(0xA0:UInt8).toNat=160 from rfl,show(0x9F:UInt8).toNat=159 from rfl,show(0x90:UInt8).toNat=144 from rfl,show(0x8F:UInt8).toNat=143 from rfl];refine congrArg (·&&_) (E9 ?_);simp only[Bool.and_eq_true,Bool.not_eq_true',Bool.and_eq_false_iff,decide_eq_true_eq,decide_eq_false_iff_not];simp only[N0,Nat.reduceAdd];omega
  ·rcases Nat.lt_or_ge 0xED (r.getD 0 0).toNat with h5|h5
   ·rw[if_neg (by omega),AGp h5 h2];simp only[S6,Dm,Ut,Lg,show(0xF1:UInt8).toNat=241 from rfl,show(0x02:UInt8).toNat=2 from rfl,show(0x13:UInt8).toNat=19 from rfl,show(0x03:UInt8).toNat=3 from rfl,show(0x23:UInt8).toNat=35 from rfl,show(0x34:UInt8).toNat=52 from rfl,show(0x04:UInt8).toNat=4 from rfl,show(0x44:UInt8).toNat=68 from rfl,Nat.reduceMod,Nat.reduceDiv,Nat.reduceEqDiff,if_true,if_false,show(0x80:UInt8).toNat=128 from rfl,show(0xBF:UInt8).toNat=191 from rfl,show(0xA0:UInt8).toNat=160 from rfl,show(0x9F:UInt8).toNat=159 from rfl,show(0x90:UInt8).toNat=144 from rfl,show(0x8F:UInt8).toNat=143 from rfl];refine congrArg (·&&_) (E9 ?_);simp only[Bool.and_eq_true,Bool.not_eq_true',Bool.and_eq_false_iff,decide_eq_true_eq,decide_eq_false_iff_not];simp only[N0,Nat.reduceAdd];omega
   ·rw[if_neg (by omega),show(r.getD 0 0).toNat=0xED by omega,AGo];simp only[S6,Dm,Ut,Lg,show(0xF1:UInt8).toNat=241 from rfl,show(0x02:UInt8).toNat=2 from rfl,show(0x13:UInt8).toNat=19 from rfl,show(0x03:UInt8).toNat=3 from rfl,show(0x23:UInt8).toNat=35 from rfl,show(0x34:UInt8).toNat=52 from rfl,show(0x04:UInt8).toNat=4 from rfl,show(0x44:UInt8).toNat=68 from rfl,Nat.reduceMod,Nat.reduceDiv,Nat.reduceEqDiff,if_true,if_false,show(0x80:UInt8).toNat=128 from rfl,show(0xBF:UInt8).toNat=191 from rfl,show(0xA0:UInt8).toNat=160 from rfl,show(0x9F:UInt8).toNat=159 from rfl,show(0x90:UInt8).toNat=144 from rfl,show(0x8F:UInt8).toNat=143 from rfl];refine congrArg (·&&_) (E9 ?_);simp only[Bool.and_eq_true,Bool.not_eq_true',Bool.and_eq_false_iff,decide_eq_true_eq,decide_eq_false_iff_not];simp only[N0,Nat.reduceAdd];omega
 ·rw[if_neg (by omega),show(r.getD 0 0).toNat=0xE0 by omega,AGm];simp only[S6,Dm,Ut,Lg,show(0xF1:UInt8).toNat=241 from rfl,show(0x02:UInt8).toNat=2 from rfl,show(0x13:UInt8).toNat=19 from rfl,show(0x03:UInt8).toNat=3 from rfl,show(0x23:UInt8).toNat=35 from rfl,show(0x34:UInt8).toNat=52 from rfl,show(0x04:UInt8).toNat=4 from rfl,show(0x44:UInt8).toNat=68 from rfl,Nat.reduceMod,Nat.reduceDiv,Nat.reduceEqDiff,if_true,if_false,show(0x80:UInt8).toNat=128 from rfl,show(0xBF:UInt8).toNat=191 from rfl,show(0xA0:UInt8).toNat=160 from rfl,show(0x9F:UInt8).toNat=159 from rfl,show(0x90:UInt8).toNat=144 from rfl,show(0x8F:UInt8).toNat=143 from rfl];refine congrArg (·&&_) (E9 ?_);simp only[Bool.and_eq_true,Bool.not_eq_true',Bool.and_eq_false_iff,decide_eq_true_eq,decide_eq_false_iff_not];simp only[N0,Nat.reduceAdd];omega
theorem AOy{r:List UInt8}(h:0<r.length)(h1:240≤(r.getD 0 0).toNat)(h2:(r.getD 0 0).toNat<248):Bv r=(S6 r 3&&Bv (r.drop 4)):=by
 rw[Jh r h]
 rcases Nat.lt_or_ge 0xF0 (r.getD 0 0).toNat with h3|h3
 ·rcases Nat.lt_or_ge (r.getD 0 0).toNat 0xF4 with h4|h4
  ·rw[if_neg (by omega),AGr h3 h4];simp only[S6,Dm,Ut,Lg,show(0xF1:UInt8).toNat=241 from rfl,show(0x02:UInt8).toNat=2 from rfl,show(0x13:UInt8).toNat=19 from rfl,show(0x03:UInt8).toNat=3 from rfl,show(0x23:UInt8).toNat=35 from rfl,show(0x34:UInt8).toNat=52 from rfl,show(0x04:UInt8).toNat=4 from rfl,show(0x44:UInt8).toNat=68 from rfl,Nat.reduceMod,Nat.reduceDiv,Nat.reduceEqDiff,if_true,if_false,show(0x80:UInt8).toNat=128 from rfl,show(0xBF:UInt8).toNat=191 from rfl,show(0xA0:UInt8).toNat=160 from rfl,show(0x9F:UInt8).toNat=159 from rfl,show(0x90:UInt8).toNat=144 from rfl,show(0x8F:UInt8).toNat=143 from rfl];refine congrArg (·&&_) (E9 ?_);simp only[Bool.and_eq_true,Bool.not_eq_true',Bool.and_eq_false_iff,decide_eq_true_eq,decide_eq_false_iff_not];simp only[N0,Nat.reduceAdd];omega
  ·rcases Nat.lt_or_ge 0xF4 (r.getD 0 0).toNat with h5|h5
   ·rw[if_neg (by omega),sO h5];simp only[S6,Dm,Ut,Lg,show(0xF1:UInt8).toNat=241 from rfl,show(0x02:UInt8).toNat=2 from rfl,show(0x13:UInt8).toNat=19 from rfl,show(0x03:UInt8).toNat=3 from rfl,show(0x23:UInt8).toNat=35 from rfl,show(0x34:UInt8).toNat=52 from rfl,show(0x04:UInt8).toNat=4 from rfl,show(0x44:UInt8).toNat=68 from rfl,Nat.reduceMod,Nat.reduceDiv,Nat.reduceEqDiff,if_true,if_false,show(0x80:UInt8).toNat=128 from rfl,show(0xBF:UInt8).toNat=191 from rfl,show(0xA0:UInt8).toNat=160 from rfl,show(0x9F:UInt8).toNat=159 from rfl,show(0x90:UInt8).toNat=144 from rfl,show(0x8F:UInt8).toNat=143 from rfl];refine(Bool.and_eq_false_iff.2 (.inl ?_)).symm;simp only[Bool.and_eq_false_iff,decide_eq_false_iff_not,Bool.not_eq_false',Bool.and_eq_true,decide_eq_true_eq];simp only[N0,Nat.reduceAdd];omega
   ·rw[if_neg (by omega),show(r.getD 0 0).toNat=0xF4 by omega,AGs];simp only[S6,Dm,Ut,Lg,show(0xF1:UInt8).toNat=241 from rfl,show(0x02:UInt8).toNat=2 from rfl,show(0x13:UInt8).toNat=19 from rfl,show(0x03:UInt8).toNat=3 from rfl,show(0x23:UInt8).toNat=35 from rfl,show(0x34:UInt8).toNat=52 from rfl,show(0x04:UInt8).toNat=4 from rfl,show(0x44:UInt8).toNat=68 from rfl,Nat.reduceMod,Nat.reduceDiv,Nat.reduceEqDiff,if_true,if_false,show(0x80:UInt8).toNat=128 from rfl,show(0xBF:UInt8).toNat=191 from rfl,show(0xA0:UInt8).toNat=160 from rfl,show(0x9F:UInt8).toNat=159 from rfl,show(0x90:UInt8).toNat=144 from rfl,show(0x8F:UInt8).toNat=143 from rfl];refine congrArg (·&&_) (E9 ?_);simp only[Bool.and_eq_true,Bool.not_eq_true',Bool.and_eq_false_iff,decide_eq_true_eq,decide_eq_false_iff_not];simp only[N0,Nat.reduceAdd];omega
 ·rw[if_neg (by omega),show(r.getD 0 0).toNat=0xF0 by omega,AGq];simp only[S6,Dm,Ut,Lg,show(0xF1:UInt8).toNat=241 from rfl,show(0x02:UInt8).toNat=2 from rfl,show(0x13:UInt8).toNat=19 from rfl,show(0x03:UInt8).toNat=3 from rfl,show(0x23:UInt8).toNat=35 from rfl,show(0x34:UInt8).toNat=52 from rfl,show(0x04:UInt8).toNat=4 from rfl,show(0x44:UInt8).toNat=68 from rfl,Nat.reduceMod,Nat.reduceDiv,Nat.reduceEqDiff,if_true,if_false,show(0x80:UInt8).toNat=128 from rfl,show(0xBF:UInt8).toNat=191 from rfl,show(0xA0:UInt8).toNat=160 from rfl,show(0x9F:UInt8).toNat=159 from rfl,show(0x90:UInt8).toNat=144 from rfl,show(0x8F:UInt8).toNat=143 from rfl];refine congrArg (·&&_) (E9 ?_);simp only[Bool.and_eq_true,Bool.not_eq_true',Bool.and_eq_false_iff,decide_eq_true_eq,decide_eq_false_iff_not];simp only[N0,Nat.reduceAdd];omega
theorem AOv{r:List UInt8}(h:0<r.length)(h1:(128≤(r.getD 0 0).toNat∧(r.getD 0 0).toNat<192)∨248≤(r.getD 0 0).toNat):Bv r=false:=by
 rw[Jh r h]
 rcases h1 with h1|h1
 ·rw[if_neg (by omega),sN h1.1 (by omega)];rfl
 ·rw[if_neg (by omega),sO (by omega)];rfl
theorem P7(c:UInt8):IntKind.i64.wrap ((c.toNat:Nat):Int)=(c.toNat:Nat):=by
 have:=c.toNat_lt
 exact A3 (by omega) (by omega)
theorem eG(c:UInt8):Ag .and .i64 (c.toNat:Nat) 31=((c.toNat%32:Nat):Int):=vW ⟨c.toNat,c.toNat_lt⟩
theorem eF(c:UInt8):Ag .and .i64 (c.toNat:Nat) 15=((c.toNat%16:Nat):Int):=vV ⟨c.toNat,c.toNat_lt⟩
theorem qV(c:UInt8):Ag .and .i64 (c.toNat:Nat) 7=((c.toNat%8:Nat):Int):=ABd ⟨c.toNat,c.toNat_lt⟩
theorem nT(c:UInt8):Ag .and .u8 (c.toNat:Nat) 63=((c.toNat%64:Nat):Int):=AD7 ⟨c.toNat,c.toNat_lt⟩
theorem P4(c:UInt8):(Ag .and .u8 (c.toNat:Nat) 192 !=128)= !(decide (128≤c.toNat)&&decide (c.toNat<192)):=xD ⟨c.toNat,c.toNat_lt⟩
theorem oE{c:Nat}(r:List UInt8)(hc:c<32):∀k,k≤3→N0 c r k<2^24
 |0,_=>by simp only[N0];omega
 |1,_=>by simp only[N0];omega
 |2,_=>by simp only[N0];omega
 |3,_=>by simp only[N0];omega
def AU2:A7:=Bf (fun(a:By)=>[a.v]) pR (fun a=>Bv a.l) .bool
theorem pS{r:List UInt8}{s j:Nat}(hs:s=1∨s=2∨s=3)(h1:1≤j)(h2:j≤s)(h:Dm r j=false):S6 r s=false:=by
 rcases hs with rfl|rfl|rfl
 ·obtain rfl:j=1:=by omega
  simp only[S6,h,Bool.and_false,Bool.false_and]
 ·rcases(show j=1∨j=2 by omega)with rfl|rfl<;>simp only[S6,h,Bool.and_false,Bool.false_and]
 ·rcases(show j=1∨j=2∨j=3 by omega)with rfl|rfl|rfl<;>simp only[S6,h,Bool.and_false,Bool.false_and]
theorem sC:FOk Tryz.prog [] 135 AU2:=A8 fun a ⟨ha,hn⟩=>by
 refine CP.by1 ha ?_;generalize a.l=l at hn;generalize a.b=b;have hΓ:=Ad Tryz.f135.ntmps _ _ (FL.all (.cons fM .nil)) (HL.all .nil);refine Aw hΓ Tryz.func135 ?_;conv=>whnf
 refine A4 (ι:=Nat) (fun i=>[(0,Bl b l),(3, .int .i64 (i:Nat))]) (fun i=>[]) (fun i=>i≤l.length∧Bv (l.drop i)=Bv l) (fun i=>l.length - i) 0 [] ?_ (fun i hi=>vo hΓ ?_)
 ·conv=>whnf
  repeat' ((first|apply Ap<;>intro _|apply An)<;>conv=>whnf)
  all_goals try exact⟨Ah⟩
  exact⟨⟨Nat.zero_le _,rfl⟩⟩
 obtain⟨i1,i2⟩:=hi;have hst:=Jh (l.drop i);have hu0:= @AOv (l.drop i);have hu1:= @AOw (l.drop i);have hu2:= @AOx (l.drop i);have hu3:= @AOy (l.drop i);rw[List.length_drop,i2]at hst hu0 hu1 hu2 hu3;simp only[Cx,List.drop_drop,Nat.add_zero]at hst hu0 hu1 hu2 hu3
 have w1:IntKind.i64.wrap (IntKind.i64.wrap ((l.length:Int) - (i:Nat)) - 1)=(l.length:Int) - (i:Nat) - 1:=by
  rw[A3 (x:=(l.length:Int) - (i:Nat)) (by omega) (by omega),A3 (by omega) (by omega)]
 have hb0:=Bs l i;conv=>whnf
 repeat' ((first|apply Ap<;>intro _|apply An)<;>conv=>whnf)
 all_goals try simp only[P7,eG,eF,qV,Int.toNat_natCast,decide_eq_true_eq,decide_eq_false_iff_not,w1,beq_iff_eq,beq_eq_false_iff_ne,ne_eq]at*
 ·exact⟨by omega⟩
 ·refine⟨i+1,[],?_⟩;conv=>whnf
  repeat' (apply An<;>conv=>whnf)
  all_goals try exact⟨Ah⟩
  ·exact⟨by rw[A3 (by omega) (by omega)];rfl⟩
  ·refine⟨⟨⟨by omega,?_⟩,by omega⟩⟩;rw[hst (by omega),if_pos (by omega)]
 all_goals try(exfalso;omega)
 ·have hu:=hu1 (by omega) (by omega) (by omega);refine Ld.of (congrArg V.bool (Eq.symm ?_));rw[hu];refine Bool.and_eq_false_iff.2 (.inl ?_);simp only[S6,Bool.and_eq_false_iff,decide_eq_false_iff_not,List.length_drop];omega
 ·have hu:=hu1 (by omega) (by omega) (by omega);have hc0:(l.getD i 0).toNat%32<32:=by omega
  refine A4 (ι:=Nat) (fun k=>[(0,Bl b l),(3, .int .i64 (i:Nat)),(4, .int .i64 (N0 ((l.getD i 0).toNat%32) (l.drop i) k:Nat)),(5, .int .i64 1),(6, .int .i64 128),(7, .int .i64 ((k:Nat)+1))]) (fun k=>[]) (fun k=>k≤1∧∀j,1≤j→j≤k→Dm (l.drop i) j=true) (fun k=>1 - k) 0 [] ?_ (fun k hk=>vo hΓ ?_)
  ·conv=>whnf
   repeat' ((first|apply Ap<;>intro _|apply An)<;>conv=>whnf)
   all_goals try first|exact⟨Ah⟩|exact⟨by rw[P7];first|exact eG _|exact eF _|exact qV _⟩
   all_goals exact⟨⟨Nat.zero_le _,fun j hj hj'=>by omega⟩⟩
  obtain⟨hk1,hk2⟩:=hk;have hcl:=oE (l.drop i) hc0 k (by omega);have w2:IntKind.i64.wrap ((i:Int)+((k:Nat)+1))=((i+(k+1):Nat):Int):=by rw[A3 (by omega) (by omega)];omega
  conv=>whnf
  apply Ap<;>intro h7<;>conv=>whnf
  ·have hk7:k+1≤1:=by
    have:((k:Nat):Int)+1≤1:=by simpa using h7
    omega
   conv=>whnf
   repeat' ((first|apply Ap<;>intro _|apply An)<;>conv=>whnf)
   all_goals try exact⟨by rw[w2];omega⟩
   all_goals try exact⟨by omega⟩
   ·rename_i h8;rw[w2,Int.toNat_natCast,P4]at h8;refine Ld.of (congrArg V.bool (Eq.symm ?_));rw[hu];refine Bool.and_eq_false_iff.2 (.inl ?_);refine pS (j:=k+1) (by omega) (by omega) (by omega) ?_;rw[Dm,Cx];simp only[Bool.not_eq_true',Bool.and_eq_true,decide_eq_true_eq]at h8;exact h8
   ·rename_i h8;rw[w2,Int.toNat_natCast,P4]at h8
    have h9:Dm (l.drop i) (k+1)=true:=by
     rw[Dm,Cx];simpa using h8
    refine⟨k+1,[],?_⟩;conv=>whnf
    repeat' (apply An<;>conv=>whnf)
    all_goals try exact⟨Ah⟩
    ·refine⟨?_⟩;rw[w2,Int.toNat_natCast,nT,A3 (by omega) (by omega),gF (by omega) (by omega)];simp only[N0,Cx]
    ·exact⟨by rw[A3 (by omega) (by omega)];rfl⟩
    ·refine⟨⟨⟨hk7,fun j hj hj'=>?_⟩,by omega⟩⟩
     rcases Nat.lt_or_ge j (k+1)with h10|h10
     ·exact hk2 j hj (by omega)
     ·obtain rfl:j=k+1:=by omega
      exact h9
  ·have hk7:k=1:=by
    have:¬((k:Nat):Int)+1≤1:=by simpa using h7
    omega
   subst hk7;have Ar:(l.drop i).length=l.length - i:=by simp
   have hv:N0 ((l.getD i 0).toNat%32) (l.drop i) 1<2^(6*1+5):=by simp only[N0];omega
   have hgo:S6 (l.drop i) 1=true→Bv (l.drop (i+(1+1)))=Bv l:=fun h=>by rw[hu,h,Bool.true_and]
   have hno:S6 (l.drop i) 1=false→Ld (V.bool false) (V.bool (Bv l)):=fun h=>Ld.of (congrArg V.bool (by rw[hu,h,Bool.false_and]))
   have he1:(decide (1+1≤(l.drop i).length))=true:=decide_eq_true (by rw[Ar];omega);simp only[S6,Cx,Nat.add_zero,he1,hk2 1 (by decide) (by decide),Bool.and_true,Bool.true_and,Nat.reduceAdd]at hgo hno he1;generalize N0 ((l.getD i 0).toNat%32) (l.drop i) 1=v at hv hgo hno⊢;have w3:IntKind.i64.wrap (IntKind.i64.wrap ((i:Int)+1)+1)=((i+(1+1):Nat):Int):=by rw[A3 (x:=(i:Int)+1) (by omega) (by omega),A3 (by omega) (by omega)];omega
   refine vo hΓ ?_;conv=>whnf
   repeat' ((first|apply Ap<;>intro _|apply An)<;>conv=>whnf)
   all_goals try simp only[decide_eq_true_eq,decide_eq_false_iff_not]at*
   ·refine hno ?_
    try simp only[Bool.and_eq_false_iff,decide_eq_false_iff_not,Bool.not_eq_false',Bool.and_eq_true,decide_eq_true_eq]
    omega
   ·refine hno ?_
    try simp only[Bool.and_eq_false_iff,decide_eq_false_iff_not,Bool.not_eq_false',Bool.and_eq_true,decide_eq_true_eq]
    omega
   ·refine⟨((v:Nat),55296,57343),⟨AE.refl _,AE.refl _,AE.refl _,trivial⟩,⟨trivial⟩,?_⟩;intro q hq;replace hq:q=(decide ((55296:Int)≤(v:Nat))&&decide (((v:Nat):Int)≤57343)):=hq;conv=>whnf
    repeat' ((first|apply Ap<;>intro _|apply An)<;>conv=>whnf)
    ·rename_i hq2;replace hq2:q=true:=hq2;rw[hq2]at hq;have hq3:=hq.symm;simp only[Bool.and_eq_true,decide_eq_true_eq]at hq3;refine hno ?_
     try simp only[Bool.and_eq_false_iff,decide_eq_false_iff_not,Bool.not_eq_false',Bool.and_eq_true,decide_eq_true_eq]
     omega
    ·rename_i hq2;replace hq2:q=false:=hq2;rw[hq2]at hq;have hq3:=hq.symm;simp only[Bool.and_eq_false_iff,decide_eq_false_iff_not]at hq3;refine⟨i+(1+1),[],?_⟩;conv=>whnf
     repeat' (apply An<;>conv=>whnf)
     all_goals try first|exact⟨Ah⟩|exact⟨w3⟩
     ·refine⟨⟨⟨by omega,hgo ?_⟩,by omega⟩⟩
      try simp only[Bool.and_eq_true,Bool.not_eq_true',Bool.and_eq_false_iff,decide_eq_true_eq,decide_eq_false_iff_not]
      omega
 ·have hu:=hu2 (by omega) (by omega) (by omega);refine Ld.of (congrArg V.bool (Eq.symm ?_));rw[hu];refine Bool.and_eq_false_iff.2 (.inl ?_);simp only[S6,Bool.and_eq_false_iff,decide_eq_false_iff_not,List.length_drop];omega
 ·have hu:=hu2 (by omega) (by omega) (by omega);have hc0:(l.getD i 0).toNat%16<32:=by omega
  refine A4 (ι:=Nat) (fun k=>[(0,Bl b l),(3, .int .i64 (i:Nat)),(4, .int .i64 (N0 ((l.getD i 0).toNat%16) (l.drop i) k:Nat)),(5, .int .i64 2),(6, .int .i64 2048),(7, .int .i64 ((k:Nat)+1))]) (fun k=>[]) (fun k=>k≤2∧∀j,1≤j→j≤k→Dm (l.drop i) j=true) (fun k=>2 - k) 0 [] ?_ (fun k hk=>vo hΓ ?_)
  ·conv=>whnf
   repeat' ((first|apply Ap<;>intro _|apply An)<;>conv=>whnf)
   all_goals try first|exact⟨Ah⟩|exact⟨by rw[P7];first|exact eG _|exact eF _|exact qV _⟩
   all_goals exact⟨⟨Nat.zero_le _,fun j hj hj'=>by omega⟩⟩
  obtain⟨hk1,hk2⟩:=hk;have hcl:=oE (l.drop i) hc0 k (by omega);have w2:IntKind.i64.wrap ((i:Int)+((k:Nat)+1))=((i+(k+1):Nat):Int):=by rw[A3 (by omega) (by omega)];omega
  conv=>whnf
  apply Ap<;>intro h7<;>conv=>whnf
  ·have hk7:k+1≤2:=by
    have:((k:Nat):Int)+1≤2:=by simpa using h7
    omega
   conv=>whnf
   repeat' ((first|apply Ap<;>intro _|apply An)<;>conv=>whnf)
   all_goals try exact⟨by rw[w2];omega⟩
   all_goals try exact⟨by omega⟩
   ·rename_i h8;rw[w2,Int.toNat_natCast,P4]at h8;refine Ld.of (congrArg V.bool (Eq.symm ?_));rw[hu];refine Bool.and_eq_false_iff.2 (.inl ?_);refine pS (j:=k+1) (by omega) (by omega) (by omega) ?_;rw[Dm,Cx];simp only[Bool.not_eq_true',Bool.and_eq_true,decide_eq_true_eq]at h8;exact h8
   ·rename_i h8;rw[w2,Int.toNat_natCast,P4]at h8
    have h9:Dm (l.drop i) (k+1)=true:=by
     rw[Dm,Cx];simpa using h8
    refine⟨k+1,[],?_⟩;conv=>whnf
    repeat' (apply An<;>conv=>whnf)
    all_goals try exact⟨Ah⟩
    ·refine⟨?_⟩;rw[w2,Int.toNat_natCast,nT,A3 (by omega) (by omega),gF (by omega) (by omega)];simp only[N0,Cx]
    ·exact⟨by rw[A3 (by omega) (by omega)];rfl⟩
    ·refine⟨⟨⟨hk7,fun j hj hj'=>?_⟩,by omega⟩⟩
     rcases Nat.lt_or_ge j (k+1)with h10|h10
     ·exact hk2 j hj (by omega)
     ·obtain rfl:j=k+1:=by omega
      exact h9
  ·have hk7:k=2:=by
    have:¬((k:Nat):Int)+1≤2:=by simpa using h7
    omega
   subst hk7;have Ar:(l.drop i).length=l.length - i:=by simp
   have hv:N0 ((l.getD i 0).toNat%16) (l.drop i) 2<2^(6*2+5):=by simp only[N0];omega
   have hgo:S6 (l.drop i) 2=true→Bv (l.drop (i+(2+1)))=Bv l:=fun h=>by rw[hu,h,Bool.true_and]
   have hno:S6 (l.drop i) 2=false→Ld (V.bool false) (V.bool (Bv l)):=fun h=>Ld.of (congrArg V.bool (by rw[hu,h,Bool.false_and]))
   have he1:(decide (2+1≤(l.drop i).length))=true:=decide_eq_true (by rw[Ar];omega);simp only[S6,Cx,Nat.add_zero,he1,hk2 1 (by decide) (by decide),hk2 2 (by decide) (by decide),Bool.and_true,Bool.true_and,Nat.reduceAdd]at hgo hno he1;generalize N0 ((l.getD i 0).toNat%16) (l.drop i) 2=v at hv hgo hno⊢;have w3:IntKind.i64.wrap (IntKind.i64.wrap ((i:Int)+1)+2)=((i+(2+1):Nat):Int):=by rw[A3 (x:=(i:Int)+1) (by omega) (by omega),A3 (by omega) (by omega)];omega
   refine vo hΓ ?_;conv=>whnf
   repeat' ((first|apply Ap<;>intro _|apply An)<;>conv=>whnf)
   all_goals try simp only[decide_eq_true_eq,decide_eq_false_iff_not]at*
   ·refine hno ?_
    try simp only[Bool.and_eq_false_iff,decide_eq_false_iff_not,Bool.not_eq_false',Bool.and_eq_true,decide_eq_true_eq]
    omega
   ·refine hno ?_
    try simp only[Bool.and_eq_false_iff,decide_eq_false_iff_not,Bool.not_eq_false',Bool.and_eq_true,decide_eq_true_eq]
    omega
   ·refine⟨((v:Nat),55296,57343),⟨AE.refl _,AE.refl _,AE.refl _,trivial⟩,⟨trivial⟩,?_⟩;intro q hq;replace hq:q=(decide ((55296:Int)≤(v:Nat))&&decide (((v:Nat):Int)≤57343)):=hq;conv=>whnf
    repeat' ((first|apply Ap<;>intro _|apply An)<;>conv=>whnf)
    ·rename_i hq2;replace hq2:q=true:=hq2;rw[hq2]at hq;have hq3:=hq.symm;simp only[Bool.and_eq_true,decide_eq_true_eq]at hq3;refine hno ?_
     try simp only[Bool.and_eq_false_iff,decide_eq_false_iff_not,Bool.not_eq_false',Bool.and_eq_true,decide_eq_true_eq]
     omega
    ·rename_i hq2;replace hq2:q=false:=hq2;rw[hq2]at hq;have hq3:=hq.symm;simp only[Bool.and_eq_false_iff,decide_eq_false_iff_not]at hq3;refine⟨i+(2+1),[],?_⟩;conv=>whnf
     repeat' (apply An<;>conv=>whnf)
     all_goals try first|exact⟨Ah⟩|exact⟨w3⟩
     ·refine⟨⟨⟨by omega,hgo ?_⟩,by omega⟩⟩
      try simp only[Bool.and_eq_true,Bool.not_eq_true',Bool.and_eq_false_iff,decide_eq_true_eq,decide_eq_false_iff_not]
      omega
 ·have hu:=hu3 (by omega) (by omega) (by omega);refine Ld.of (congrArg V.bool (Eq.symm ?_));rw[hu];refine Bool.and_eq_false_iff.2 (.inl ?_);simp only[S6,Bool.and_eq_false_iff,decide_eq_false_iff_not,List.length_drop];omega
 ·have hu:=hu3 (by omega) (by omega) (by omega);have hc0:(l.getD i 0).toNat%8<32:=by omega
  refine A4 (ι:=Nat) (fun k=>[(0,Bl b l),(3, .int .i64 (i:Nat)),(4, .int .i64 (N0 ((l.getD i 0).toNat%8) (l.drop i) k:Nat)),(5, .int .i64 3),(6, .int .i64 65536),(7, .int .i64 ((k:Nat)+1))]) (fun k=>[]) (fun k=>k≤3∧∀j,1≤j→j≤k→Dm (l.drop i) j=true) (fun k=>3 - k) 0 [] ?_ (fun k hk=>vo hΓ ?_)
  ·conv=>whnf
   repeat' ((first|apply Ap<;>intro _|apply An)<;>conv=>whnf)
   all_goals try first|exact⟨Ah⟩|exact⟨by rw[P7];first|exact eG _|exact eF _|exact qV _⟩
   all_goals exact⟨⟨Nat.zero_le _,fun j hj hj'=>by omega⟩⟩
  obtain⟨hk1,hk2⟩:=hk;have hcl:=oE (l.drop i) hc0 k (by omega);have w2:IntKind.i64.wrap ((i:Int)+((k:Nat)+1))=((i+(k+1):Nat):Int):=by rw[A3 (by omega) (by omega)];omega
  conv=>whnf
  apply Ap<;>intro h7<;>conv=>whnf
  ·have hk7:k+1≤3:=by
    have:((k:Nat):Int)+1≤3:=by simpa using h7
    omega
   conv=>whnf
   repeat' ((first|apply Ap<;>intro _|apply An)<;>conv=>whnf)
   all_goals try exact⟨by rw[w2];omega⟩
   all_goals try exact⟨by omega⟩
   ·rename_i h8;rw[w2,Int.toNat_natCast,P4]at h8;refine Ld.of (congrArg V.bool (Eq.symm ?_));rw[hu];refine Bool.and_eq_false_iff.2 (.inl ?_);refine pS (j:=k+1) (by omega) (by omega) (by omega) ?_;rw[Dm,Cx];simp only[Bool.not_eq_true',Bool.and_eq_true,decide_eq_true_eq]at h8;exact h8
   ·rename_i h8;rw[w2,Int.toNat_natCast,P4]at h8
    have h9:Dm (l.drop i) (k+1)=true:=by
     rw[Dm,Cx];simpa using h8
    refine⟨k+1,[],?_⟩;conv=>whnf
    repeat' (apply An<;>conv=>whnf)
    all_goals try exact⟨Ah⟩
    ·refine⟨?_⟩;rw[w2,Int.toNat_natCast,nT,A3 (by omega) (by omega),gF (by omega) (by omega)];simp only[N0,Cx]
    ·exact⟨by rw[A3 (by omega) (by omega)];rfl⟩
    ·refine⟨⟨⟨hk7,fun j hj hj'=>?_⟩,by omega⟩⟩
     rcases Nat.lt_or_ge j (k+1)with h10|h10
     ·exact hk2 j hj (by omega)
     ·obtain rfl:j=k+1:=by omega
      exact h9
  ·have hk7:k=3:=by
    have:¬((k:Nat):Int)+1≤3:=by simpa using h7
    omega
   subst hk7;have Ar:(l.drop i).length=l.length - i:=by simp
   have hv:N0 ((l.getD i 0).toNat%8) (l.drop i) 3<2^(6*3+5):=by simp only[N0];omega
   have hgo:S6 (l.drop i) 3=true→Bv (l.drop (i+(3+1)))=Bv l:=fun h=>by rw[hu,h,Bool.true_and]
   have hno:S6 (l.drop i) 3=false→Ld (V.bool false) (V.bool (Bv l)):=fun h=>Ld.of (congrArg V.bool (by rw[hu,h,Bool.false_and]))
   have he1:(decide (3+1≤(l.drop i).length))=true:=decide_eq_true (by rw[Ar];omega);simp only[S6,Cx,Nat.add_zero,he1,hk2 1 (by decide) (by decide),hk2 2 (by decide) (by decide),hk2 3 (by decide) (by decide),Bool.and_true,Bool.true_and,Nat.reduceAdd]at hgo hno he1;generalize N0 ((l.getD i 0).toNat%8) (l.drop i) 3=v at hv hgo hno⊢;have w3:IntKind.i64.wrap (IntKind.i64.wrap ((i:Int)+1)+3)=((i+(3+1):Nat):Int):=by rw[A3 (x:=(i:Int)+1) (by omega) (by omega),A3 (by omega) (by omega)];omega
   refine vo hΓ ?_;conv=>whnf
   repeat' ((first|apply Ap<;>intro _|apply An)<;>conv=>whnf)
   all_goals try simp only[decide_eq_true_eq,decide_eq_false_iff_not]at*
   ·refine hno ?_
    try simp only[Bool.and_eq_false_iff,decide_eq_false_iff_not,Bool.not_eq_false',Bool.and_eq_true,decide_eq_true_eq]
    omega
   ·refine hno ?_
    try simp only[Bool.and_eq_false_iff,decide_eq_false_iff_not,Bool.not_eq_false',Bool.and_eq_true,decide_eq_true_eq]
    omega
   ·refine⟨((v:Nat),55296,57343),⟨AE.refl _,AE.refl _,AE.refl _,trivial⟩,⟨trivial⟩,?_⟩;intro q hq;replace hq:q=(decide ((55296:Int)≤(v:Nat))&&decide (((v:Nat):Int)≤57343)):=hq;conv=>whnf
    repeat' ((first|apply Ap<;>intro _|apply An)<;>conv=>whnf)
    ·rename_i hq2;replace hq2:q=true:=hq2;rw[hq2]at hq;have hq3:=hq.symm;simp only[Bool.and_eq_true,decide_eq_true_eq]at hq3;refine hno ?_
     try simp only[Bool.and_eq_false_iff,decide_eq_false_iff_not,Bool.not_eq_false',Bool.and_eq_true,decide_eq_true_eq]
     omega
    ·rename_i hq2;replace hq2:q=false:=hq2;rw[hq2]at hq;have hq3:=hq.symm;simp only[Bool.and_eq_false_iff,decide_eq_false_iff_not]at hq3;refine⟨i+(3+1),[],?_⟩;conv=>whnf
     repeat' (apply An<;>conv=>whnf)
     all_goals try first|exact⟨Ah⟩|exact⟨w3⟩
     ·refine⟨⟨⟨by omega,hgo ?_⟩,by omega⟩⟩
      try simp only[Bool.and_eq_true,Bool.not_eq_true',Bool.and_eq_false_iff,decide_eq_true_eq,decide_eq_false_iff_not]
      omega
 ·refine Ld.of (congrArg V.bool ?_);rw[hu0 (by omega) (by omega)]
 ·refine Ld.of (congrArg V.bool ?_);rw[hu0 (by omega) (by omega)]
 ·refine vo hΓ ?_;conv=>whnf
  have hl:i=l.length:=by omega
  rw[hl,List.drop_length]at i2;rw[←i2];exact Ld.refl _
theorem zX:FOk Tryz.prog [] 17 F71:=A8 fun a ⟨⟨ha,hn⟩,hb⟩=>by
 refine CP.by1 ha (CP.by2 hb ?_);generalize a.1.l=l at hn;generalize a.2.l=m;generalize a.1.b=b1;generalize a.2.b=b2;have hΓ:=Ad Tryz.f17.ntmps _ _ (FL.all .nil) (HL.all .nil);refine Aw hΓ Tryz.func17 ?_;conv=>whnf
 apply Ap<;>intro h1<;>conv=>whnf
 ·have h2:l.length≠m.length:=by
   simp only[bne_iff_ne,ne_eq]at h1;omega
  refine Ld.of (congrArg V.bool ?_);exact(decide_eq_false fun e=>h2 (by rw[e])).symm
 ·have h2:l.length=m.length:=by
   simp only[bne_eq_false_iff_eq]at h1;omega
  refine A4 (ι:=Nat) (fun i=>[(0,Bl b1 l),(1,Bl b2 m),(5, .int .i64 (i:Nat))]) (fun i=>[]) (fun i=>i≤l.length∧∀j,j<i→l.getD j 0=m.getD j 0) (fun i=>l.length - i) 0 [] ?_ (fun i hi=>vo hΓ ?_)
  ·conv=>whnf
   repeat' ((first|apply Ap<;>intro _|apply An)<;>conv=>whnf)
   all_goals try exact⟨Ah⟩
   all_goals exact⟨⟨Nat.zero_le _,fun j hj=>absurd hj (by omega)⟩⟩
  ·obtain⟨hi1,hi2⟩:=hi;conv=>whnf
   repeat' ((first|apply Ap<;>intro _|apply An)<;>conv=>whnf)
   all_goals(try simp only[decide_eq_true_eq,decide_eq_false_iff_not,Int.toNat_natCast,Bool.not_eq_true,Bool.not_eq_false]at*)
   all_goals try exact⟨Ah⟩
   ·rename_i hne _;have h3:l.getD i 0≠m.getD i 0:=fun e=>by simp only[bne_iff_ne,ne_eq,e,not_true]at hne
    refine Ld.of (congrArg V.bool ?_);exact(decide_eq_false fun e=>h3 (by rw[e])).symm
   ·rename_i hne _
    have h3:l.getD i 0=m.getD i 0:=by
     refine UInt8.toNat_inj.1 ?_;simp only[bne_eq_false_iff_eq]at hne;omega
    refine⟨i+1,[],?_⟩;conv=>whnf
    repeat' (apply An<;>conv=>whnf)
    all_goals try exact⟨Ah⟩
    ·exact⟨by rw[A3 (by omega) (by omega)];rfl⟩
    refine⟨⟨⟨by omega,fun j hj=>?_⟩,by omega⟩⟩
    rcases Nat.lt_or_ge j i with h4|h4
    ·exact hi2 j h4
    ·obtain rfl:j=i:=by omega
     exact h3
   ·refine vo hΓ ?_;conv=>whnf
    refine Ld.of (congrArg V.bool ?_);refine(decide_eq_true (List.ext_getElem h2 fun j k1 k2=>?_)).symm
    have:=hi2 j (by omega)
    simpa[List.getD_eq_getElem?_getD,k1,k2]using this
def eqO(a b:Bw):Bool:=decide (a.kind=b.kind)&&decide (a.key=b.key)&&decide (a.val=b.val)
def eqE(a b:Bw):Bool:=decide (a.author=b.author)&&decide (a.seq=b.seq)&&decide (a.prev=b.prev)&&decide (a.stamp=b.stamp)&&eqO a b&&decide (a.sig=b.sig)
def okV(e:Bw):Prop:=iQ e∧e.val.length≤9223372036854775807
def ATz:A7:=Bf (fun(a:Bw×Bw)=>[aB a.1,aB a.2]) (fun a=>a.1.val.length≤9223372036854775807) (fun a=>eqO a.1 a.2) .bool
theorem AF7:FOk Tryz.prog [] 110 ATz:=A8 fun a hv=>by
 have hΓ:=Ad Tryz.f110.ntmps _ _ (FL.all (.cons zX .nil)) (HL.all .nil);refine Aw hΓ Tryz.func110 ?_;conv=>whnf
 repeat' ((first|apply Ap<;>intro _|apply An)<;>conv=>whnf)
 all_goals(try simp only[beq_iff_eq,beq_eq_false_iff_ne,ne_eq]at*)
 ·refine⟨(.of _ _, .of _ _),⟨AE.refl _,AE.refl _,trivial⟩,⟨⟨trivial,hv⟩,trivial⟩,?_⟩;intro r hr;conv=>whnf
  repeat' ((first|apply Ap<;>intro _|apply An)<;>conv=>whnf)
  rename_i g1 g2;refine Ld.of (congrArg V.bool ?_);replace hr:r=decide (a.1.val=a.2.val):=hr;refine E9 ?_;simp[hr,eqO,g1,g2]
 ·rename_i g1 g2;refine Ld.of (congrArg V.bool ?_);simp_all[eqO]
 ·rename_i g1;refine Ld.of (congrArg V.bool ?_);simp_all[eqO]
def F72:A7:=Bf (fun(a:Bw×Bw)=>[Ak a.1,Ak a.2]) (fun a=>okV a.1∧iQ a.2) (fun a=>eqE a.1 a.2) .bool
theorem AMs:FOk Tryz.prog [] 70 F72:=A8 fun a ⟨⟨⟨a1,a2,a3⟩,av⟩,⟨b1,b2,b3⟩⟩=>by
 have e1:=B7 a1 b1;have e2:=B7 a2 b2;have e3:=B7 a3 b3;have hΓ:=Ad Tryz.f70.ntmps _ _ (FL.all (.cons AF7 .nil)) (HL.all .nil);refine Aw hΓ Tryz.func70 ?_;conv=>whnf
 repeat' ((first|apply Ap<;>intro _|apply An)<;>conv=>whnf)
 all_goals try first|exact⟨Ah⟩|exact⟨fun _ _=>rfl⟩
 all_goals(try simp only[e1,e2,e3,beq_iff_eq,beq_eq_false_iff_ne,ne_eq,decide_eq_true_eq,decide_eq_false_iff_not]at*)
 ·rename_i g1 g2 g3 g4;refine⟨(a.1,a.2),⟨AE.refl _,AE.refl _,trivial⟩,⟨av⟩,?_⟩;intro r hr;conv=>whnf
  repeat' ((first|apply Ap<;>intro _|apply An)<;>conv=>whnf)
  ·exact⟨fun _ _=>rfl⟩
  ·exact⟨fun _ _=>rfl⟩
  ·rename_i g5;replace g5:r=true:=g5;refine Ld.of (congrArg V.bool (E9 ?_));have e3:=B7 a3 b3;rw[show De 64 (bf a.1.sig) (bf a.2.sig)=_ from e3];simp[eqE,g1,g2,g3,g4,show eqO a.1 a.2=true from hr.symm.trans g5]
  ·rename_i g5;replace g5:r=false:=g5;refine Ld.of (congrArg V.bool (E9 ?_));simp[eqE,show eqO a.1 a.2=false from hr.symm.trans g5]
 all_goals
  refine Ld.of (congrArg V.bool (E9 ?_));simp_all[eqE]
end Go.Proofs.YtaihjcpfjgpmoaaGreatDoor
