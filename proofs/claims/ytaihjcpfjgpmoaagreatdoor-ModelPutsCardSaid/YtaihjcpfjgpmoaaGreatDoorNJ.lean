/- Part of the claim ModelPuts: N58, N59. -/
import Derived.Test.YtaihjcpfjgpmoaaGreatDoorNH
import Derived.Test.YtaihjcpfjgpmoaaGreatDoorNI
set_option linter.unusedVariables false
set_option linter.unusedSimpArgs false
set_option maxRecDepth 100000
set_option maxHeartbeats 2000000
namespace Go.Proofs.YtaihjcpfjgpmoaaGreatDoor
open Go Go.DD
theorem wM(f:Nat→Int):cO f 3=if f 0≠0 then f 0 else if f 1≠0 then f 1 else f 2:=by
 have h1:cO f 1=f 0:=if_neg (by simp[cO]);have h2:cO f 2=if f 0≠0 then f 0 else f 1:=by rw[←h1];rfl
 have h3:cO f 3=if cO f 2≠0 then cO f 2 else f 2:=rfl;rw[h3,h2]
 by_cases h:f 0≠0
 ·simp[h]
 ·simp[h]
def X3(cs:List Ce):Prop:=∀i j,i<j→j<cs.length→Ct (Dy cs i).key (Dy cs j).key<0
theorem Xa{c:Nat→Int}{n:Nat}:∀i j,i≤j→j≤n→(∀k,k<i→c k<0)→(∀k,j≤k→k<n→¬c k<0)→(∀a b,a≤b→b<n→c b<0→c a<0)→(∀k,k<Qd c i j→c k<0)∧(∀k,Qd c i j≤k→k<n→¬c k<0):=by
 intro i j
 induction i,j using Qd.induct c with
 |case1 i j h1 h2 ih=>
  intro hij hj cD nH hm;rw[Qd,if_pos h1,if_pos h2];exact ih (by omega) hj (fun k hk=>hm k ((i+j)/2) (by omega) (by omega) h2) nH hm
 |case2 i j h1 h2 ih=>
  intro hij hj cD nH hm;rw[Qd,if_pos h1,if_neg h2];exact ih (by omega) (by omega) cD (fun k hk hk2 h=>h2 (hm _ k hk hk2 h)) hm
 |case3 i j h1=>
  intro hij hj cD nH hm;rw[Qd,if_neg h1];exact⟨cD,fun k hk hk2=>nH k (by omega) hk2⟩
theorem T7{cs:List Ce}(h:X3 cs)(key:List UInt8):∀a b,a≤b→b<cs.length→Gy (Dy cs) key b<0→Gy (Dy cs) key a<0:=fun a b hab hb h1=>by
 rcases Nat.lt_or_ge a b with h2|h2
 ·exact Xj (h a b h2 hb) h1
 ·obtain rfl:a=b:=by omega
  exact h1
theorem AEn{cs:List Ce}(h:X3 cs){key:List UInt8}{k:Nat}(h1:k≤cs.length)(h2:∀j,j<k→Ct (Dy cs j).key key<0)(h3:k<cs.length→¬Ct (Dy cs k).key key<0):iS ⟨true,cs.length,Dy cs,key⟩=(k,decide (k<cs.length)&&decide ((Dy cs k).key=key)):=by
 obtain⟨g1,g2⟩:=Xa (c:=Gy (Dy cs) key) (n:=cs.length) 0 cs.length (Nat.zero_le _) (Nat.le_refl _) (fun k hk=>absurd hk (by omega)) (fun k hk hk2=>absurd hk2 (by omega)) (T7 h key)
 have hle:=eM (Gy (Dy cs) key) 0 cs.length (Nat.zero_le _)
 have hk:Qd (Gy (Dy cs) key) 0 cs.length=k:=by
  rcases Nat.lt_trichotomy (Qd (Gy (Dy cs) key) 0 cs.length) k with hlt|he|hgt
  ·exact absurd (h2 _ hlt) (g2 _ (Nat.le_refl _) (by omega))
  ·exact he
  ·exact absurd (g1 _ hgt) (h3 (by omega))
 rw[iS];simp only[hk];refine Prod.ext rfl ?_
 show(decide (k<cs.length)&&decide (Ct (Dy cs k).key key=0))=_
 simp only[Jd]
def AHo(cs:List Ce)(k:Nat)(c:Ce):List Ce:=if k<cs.length∧(Dy cs k).key=c.key then(if 0<Io c (Dy cs k)then cs.set k c else cs)else cs.take k++[c]++cs.drop k
theorem dH{cs:List Ce}(h:X3 cs){c:Ce}{k:Nat}(h1:k≤cs.length)(h2:∀j,j<k→Ct (Dy cs j).key c.key<0)(h3:k<cs.length→¬Ct (Dy cs k).key c.key<0):Ay cs c=AHo cs k c:=by
 rw[Ay,AEn h h1 h2 h3,AHo]
 by_cases g:k<cs.length∧(Dy cs k).key=c.key
 ·rw[if_pos g,if_neg (by simp[g])]
 ·rw[if_neg g,if_pos];simpa using g
theorem Rt(cs:List Ce)(k:Nat)(c:Ce)(hk:k<cs.length)(j:Nat):Dy (cs.set k c) j=if j=k then c else Dy cs j:=by
 simp only[Dy,List.getD_eq_getElem?_getD,List.getElem?_set]
 by_cases h:k=j
 ·subst h;simp[hk]
 ·rw[if_neg h,if_neg fun e=>h e.symm]
theorem wZ{cs:List Ce}(h:X3 cs)(c:Ce):X3 (Ay cs c):=by
 obtain⟨g1,g2⟩:=Xa (c:=Gy (Dy cs) c.key) (n:=cs.length) 0 cs.length (Nat.zero_le _) (Nat.le_refl _) (fun k hk=>absurd hk (by omega)) (fun k hk hk2=>absurd hk2 (by omega)) (T7 h c.key)
 have hle:=eM (Gy (Dy cs) c.key) 0 cs.length (Nat.zero_le _);revert g1 g2 hle;generalize Qd (Gy (Dy cs) c.key) 0 cs.length=k;intro g1 g2 hle;rw[dH h hle g1 (fun hk=>g2 k (Nat.le_refl _) hk),AHo]
 split
 ·rename_i g
  split
  ·intro i j hij hj;rw[List.length_set]at hj;rw[Rt _ _ _ g.1,Rt _ _ _ g.1]
   have:=h i j hij hj
   split
   ·rename_i e;rw[if_neg (by omega),←g.2,←e];exact this
   ·split
    ·rename_i e;rw[←g.2,←e];exact this
    ·exact this
  ·exact h
 ·rename_i g;intro i j hij hj;have hl:(cs.take k++[c]++cs.drop k).length=cs.length+1:=by simp;omega
  rw[hl]at hj;rw[gC _ _ _ hle,gC _ _ _ hle];simp only[Va]
  have hc:∀j,k≤j→j<cs.length→Ct c.key (Dy cs j).key<0:=fun j h1 h2=>by
   have e1:=g2 j h1 h2
   have e2:¬Ct (Dy cs j).key c.key=0:=fun e=>by
    have e3:=Jd.1 e
    rcases Nat.lt_or_ge k j with h4|h4
    ·have h5:=h k j h4 h2;have h6:=g2 k (Nat.le_refl _) (by omega);rw[e3]at h5;exact h6 h5
    ·obtain rfl:j=k:=by omega
     exact g ⟨h2,e3⟩
   have e4:=bN (Dy cs j).key c.key;have e1:¬Ct (Dy cs j).key c.key<0:=e1;omega
  by_cases a1:i<k
  ·rw[if_pos a1]
   by_cases a2:j<k
   ·rw[if_pos a2];exact h i j hij (by omega)
   ·rw[if_neg a2]
    by_cases a3:j=k
    ·rw[if_pos a3];exact g1 i a1
    ·rw[if_neg a3];exact h i (j - 1) (by omega) (by omega)
  ·rw[if_neg a1,if_neg (show¬j<k by omega),if_neg (show¬j=k by omega)]
   by_cases a3:i=k
   ·rw[if_pos a3];exact hc (j - 1) (by omega) (by omega)
   ·rw[if_neg a3];exact h (i - 1) (j - 1) (by omega) (by omega)
theorem H4{cs:List Ce}{x:Ce}:x∈cs↔∃j,j<cs.length∧Dy cs j=x:=by
 constructor
 ·intro h;obtain⟨j,hj,e⟩:=List.getElem_of_mem h;exact⟨j,hj,by simp[Dy,List.getD_eq_getElem?_getD,hj,e]⟩
 ·rintro⟨j,hj,rfl⟩
  simp[Dy,List.getD_eq_getElem?_getD,hj]
theorem X3.one{cs:List Ce}(h:X3 cs){i j:Nat}(hi:i<cs.length)(hj:j<cs.length)(he:(Dy cs i).key=(Dy cs j).key):i=j:=by
 rcases Nat.lt_trichotomy i j with g|g|g
 ·have:=h i j g hj
  rw[he,Jd.2 rfl]at this;omega
 ·exact g
 ·have:=h j i g hi
  rw[he,Jd.2 rfl]at this;omega
theorem X3.uni{cs:List Ce}(h:X3 cs){x y:Ce}(hx:x∈cs)(hy:y∈cs)(he:x.key=y.key):x=y:=by
 obtain⟨i,hi,rfl⟩:=H4.1 hx;obtain⟨j,hj,rfl⟩:=H4.1 hy;rw[h.one hi hj he]
def AKx(cs:List Ce)(c x:Ce):Prop:=(x=c∧∀d,d∈cs→d.key=c.key→0<Io c d)∨(x∈cs∧x.key=c.key∧¬0<Io c x)
theorem P0{cs:List Ce}(h:X3 cs){c x:Ce}:x∈Ay cs c↔(x∈cs∧x.key≠c.key)∨AKx cs c x:=by
 obtain⟨g1,g2⟩:=Xa (c:=Gy (Dy cs) c.key) (n:=cs.length) 0 cs.length (Nat.zero_le _) (Nat.le_refl _) (fun k hk=>absurd hk (by omega)) (fun k hk hk2=>absurd hk2 (by omega)) (T7 h c.key)
 have hle:=eM (Gy (Dy cs) c.key) 0 cs.length (Nat.zero_le _);revert g1 g2 hle;generalize Qd (Gy (Dy cs) c.key) 0 cs.length=k;intro g1 g2 hle;rw[dH h hle g1 (fun hk=>g2 k (Nat.le_refl _) hk),AHo]
 split
 ·rename_i g;have hkm:Dy cs k∈cs:=H4.2 ⟨k,g.1,rfl⟩
  split
  ·rename_i hl;rw[H4]
   constructor
   ·rintro⟨j,hj,rfl⟩
    rw[List.length_set]at hj;rw[Rt _ _ _ g.1]
    split
    ·exact .inr (.inl ⟨rfl,fun d hd he=>by rw[h.uni hd hkm (he.trans g.2.symm)];exact hl⟩)
    ·rename_i hjk;exact .inl ⟨H4.2 ⟨j,hj,rfl⟩,fun he=>hjk (h.one hj g.1 (he.trans g.2.symm))⟩
   ·rintro(⟨hx,hne⟩|⟨rfl,_⟩|⟨hx,he,hn⟩)
    ·obtain⟨j,hj,rfl⟩:=H4.1 hx;refine⟨j,by rw[List.length_set];exact hj,?_⟩;rw[Rt _ _ _ g.1,if_neg fun e=>hne (by rw[e];exact g.2)]
    ·exact⟨k,by rw[List.length_set];exact g.1,by rw[Rt _ _ _ g.1,if_pos rfl]⟩
    ·rw[h.uni hx hkm (he.trans g.2.symm)]at hn;exact absurd hl hn
  ·rename_i hl
   constructor
   ·intro hx
    by_cases he:x.key=c.key
    ·refine .inr (.inr ⟨hx,he,?_⟩);rw[h.uni hx hkm (he.trans g.2.symm)];exact hl
    ·exact .inl ⟨hx,he⟩
   ·rintro(⟨hx,_⟩|⟨rfl,hb⟩|⟨hx,_⟩)
    ·exact hx
    ·exact absurd (hb _ hkm g.2) hl
    ·exact hx
 ·rename_i g
  have hno:∀d,d∈cs→d.key≠c.key:=fun d hd he=>by
   obtain⟨j,hj,rfl⟩:=H4.1 hd;have hz:Gy (Dy cs) c.key j=0:=Jd.2 he
   rcases Nat.lt_or_ge j k with h1|h1
   ·have:=g1 j h1;omega
   ·rcases Nat.lt_or_ge k j with h2|h2
    ·have h3:=h k j h2 hj;rw[he]at h3;exact g2 k (Nat.le_refl _) (by omega) h3
    ·obtain rfl:j=k:=by omega
     exact g ⟨hj,he⟩
  have ht:x∈cs.take k++[c]++cs.drop k↔x∈cs∨x=c:=by
   rw[List.mem_append,List.mem_append,List.mem_singleton]
   conv=>rhs;rw[←List.take_append_drop k cs,List.mem_append]
   constructor
   ·rintro((h1|h1)|h1)
    ·exact .inl (.inl h1)
    ·exact .inr h1
    ·exact .inl (.inr h1)
   ·rintro((h1|h1)|h1)
    ·exact .inl (.inl h1)
    ·exact .inr h1
    ·exact .inl (.inr h1)
  rw[ht]
  constructor
  ·rintro(hx|rfl)
   ·exact .inl ⟨hx,hno x hx⟩
   ·exact .inr (.inl ⟨rfl,fun d hd he=>absurd he (hno d hd)⟩)
  ·rintro(⟨hx,_⟩|⟨rfl,_⟩|⟨hx,he,_⟩)
   ·exact .inl hx
   ·exact .inr rfl
   ·exact .inl hx
def xH(q:List UInt8)(cs ds:List Ce):Prop:=∀x:Ce,x.key=q→(x∈cs↔x∈ds)
theorem xH.trans{q:List UInt8}{a b c:List Ce}(h:xH q a b)(g:xH q b c):xH q a c:=fun x hx=>(h x hx).trans (g x hx)
theorem Qt{cs:List Ce}(h:X3 cs){c:Ce}{q:List UInt8}(hq:c.key≠q):xH q (Ay cs c) cs:=fun x hx=>by
 rw[P0 h]
 constructor
 ·rintro(⟨h1,_⟩|⟨rfl,_⟩|⟨h1,_⟩)
  ·exact h1
  ·exact absurd hx hq
  ·exact h1
 ·intro h1;exact .inl ⟨h1,fun e=>hq (e.symm.trans hx)⟩
theorem ACy{cs ds:List Ce}(h:X3 cs)(g:X3 ds){c:Ce}{q:List UInt8}(he:xH q cs ds):xH q (Ay cs c) (Ay ds c):=by
 by_cases hq:c.key=q
 ·intro x hx
  have hb:(∀d,d∈cs→d.key=c.key→0<Io c d)↔(∀d,d∈ds→d.key=c.key→0<Io c d):=
   ⟨fun k d hd e=>k d ((he d (e.trans hq)).2 hd) e,fun k d hd e=>k d ((he d (e.trans hq)).1 hd) e⟩
  rw[P0 h,P0 g,AKx,AKx,he x hx,hb]
 ·exact(Qt h hq).trans (he.trans fun x hx=>(Qt g hq x hx).symm)
theorem AEc:X3 []:=fun i j _ hj=>absurd hj (Nat.not_lt_zero _)
theorem Hw{es:Nat→Bw}{cs:List Ce}(h:X3 cs):∀n,X3 (Eg es n cs)
 |0=>h
 |n+1=>wZ (Hw h n) _
theorem Dl(l:Nat→Fd):∀n,X3 (Df l n)
 |0=>AEc
 |n+1=>by
  unfold Df
  split
  ·exact Dl l n
  ·exact Hw (Dl l n) _
theorem Ub{es:Nat→Bw}{q:List UInt8}{cs ds:List Ce}(h:X3 cs)(g:X3 ds)(he:xH q cs ds):∀n,xH q (Eg es n cs) (Eg es n ds)
 |0=>he
 |n+1=>ACy (Hw h n) (Hw g n) (Ub h g he n)
theorem V5{es fs:Nat→Bw}{cs:List Ce}:∀n,(∀i,i<n→es i=fs i)→Eg es n cs=Eg fs n cs
 |0,_=>rfl
 |n+1,h=>by
  show Ay _ (Cc (es n))=Ay _ (Cc (fs n))
  rw[V5 n (fun i hi=>h i (by omega)),h n (by omega)]
def Lw(l:Nat→Fd)(k:Nat)(e:Bw):Nat→Fd:=fun j=>if j=k then Bn (l k) e else l j
theorem Iw(l:Nat→Fd)(k:Nat)(e:Bw):Lw l k e k=Bn (l k) e:=if_pos rfl
theorem Ms(l:Nat→Fd){k j:Nat}(e:Bw)(h:j≠k):Lw l k e j=l j:=if_neg h
theorem cT(f:Fd)(e:Bw)(cs:List Ce):Eg (Bn f e).es (Bn f e).n cs=Ay (Eg f.es f.n cs) (Cc e):=by
 show Ay (Eg _ f.n cs) (Cc ((Bn f e).es f.n))=_
 rw[show(Bn f e).es f.n=e from if_neg (Nat.lt_irrefl _),V5 (es:=(Bn f e).es) (fs:=f.es) f.n fun i hi=>if_pos hi]
theorem Sm{l:Nat→Fd}{k:Nat}{e:Bw}(ho:(l k).shut=false){q:List UInt8}(hq:e.key≠q):∀n,xH q (Df (Lw l k e) n) (Df l n)
 |0=>fun _ _=>Iff.rfl
 |n+1=>by
  by_cases hk:n=k
  ·subst hk
   have h1:Df (Lw l n e) (n+1)=Ay (Eg (l n).es (l n).n (Df (Lw l n e) n)) (Cc e):=by
    show(if(Lw l n e n).shut then _ else Eg (Lw l n e n).es (Lw l n e n).n _)=_
    rw[Iw,if_neg (by show¬(l n).shut=true;rw[ho];decide),cT]
   have h2:Df l (n+1)=Eg (l n).es (l n).n (Df l n):=if_neg (by rw[ho];decide);rw[h1,h2];exact(Qt (Hw (Dl _ _) _) hq).trans (Ub (Dl _ _) (Dl _ _) (Sm ho hq n) _)
  ·show xH q (if(Lw l k e n).shut then Df (Lw l k e) n else Eg (Lw l k e n).es (Lw l k e n).n (Df (Lw l k e) n)) (if(l n).shut then Df l n else Eg (l n).es (l n).n (Df l n))
   rw[Ms l e hk]
   split
   ·exact Sm ho hq n
   ·exact Ub (Dl _ _) (Dl _ _) (Sm ho hq n) _
theorem lI{c d:Ce}(h:d.stamp<c.stamp):0<Io c d∧¬0<Io d c:=by
 have k:∀c d:Ce,Io d c=if aI d.stamp c.stamp≠0 then aI d.stamp c.stamp else if Ct d.author c.author≠0 then Ct d.author c.author else Ct d.id c.id:=fun c d=>wM _;rw[k d c,k c d];have h1:aI c.stamp d.stamp=1:=by unfold aI;rw[if_neg (by omega),if_pos h]
 have h2:aI d.stamp c.stamp= -1:=by unfold aI;rw[if_pos h]
 rw[h1,h2,if_pos (by decide),if_pos (by decide)]
 decide
theorem dQ{es:Nat→Bw}{cs:List Ce}{c:Ce}(h:X3 cs)(hc:c∈cs):∀n,(∀i,i<n→(es i).stamp<c.stamp)→c∈Eg es n cs
 |0,_=>hc
 |n+1,hs=>by
  show c∈Ay _ _
  rw[P0 (Hw h n)];have ih:=dQ h hc n fun i hi=>hs i (by omega)
  by_cases hk:c.key=(Cc (es n)).key
  ·exact .inr (.inr ⟨ih,hk,(lI (c:=c) (d:=Cc (es n)) (hs n (by omega))).2⟩)
  ·exact .inl ⟨ih,hk⟩
theorem AD8{l:Nat→Fd}{k:Nat}{e:Bw}(ho:(l k).shut=false){n:Nat}(hs:∀j i,j<n→(l j).shut=false→i<(l j).n→((l j).es i).stamp<e.stamp):∀m,m≤n→k<m→Cc e∈Df (Lw l k e) m
 |0,_,h=>absurd h (Nat.not_lt_zero _)
 |m+1,hm,h=>by
  by_cases hk:m=k
  ·subst hk
   show Cc e∈(if(Lw l m e m).shut then _ else Eg (Lw l m e m).es (Lw l m e m).n _)
   rw[Iw,if_neg (by show¬(l m).shut=true;rw[ho];decide),cT,P0 (Hw (Dl _ _) _)];refine .inr (.inl ⟨rfl,fun d hd _=>(lI ?_).1⟩)
   rcases Uc hd with h1|⟨i,hi,rfl⟩
   ·obtain⟨j,i,hj,hi,h2,rfl⟩:=Py h1;rw[Ms l e (by omega)]at hi h2⊢;exact hs j i (by omega) h2 hi
   ·exact hs m i (by omega) ho hi
  ·show Cc e∈(if(Lw l k e m).shut then Df (Lw l k e) m else Eg (Lw l k e m).es (Lw l k e m).n (Df (Lw l k e) m))
   rw[Ms l e hk];have ih:=AD8 ho hs m (by omega) (by omega)
   split
   ·exact ih
   ·rename_i h2;exact dQ (Dl _ _) ih _ fun i hi=>hs m i (by omega) (by simpa using h2) hi
theorem Pm(cs:List Ce)(q:List UInt8):∀n i,i+n=cs.length→(Nd (Dy cs) q n i<0∧∀j,i≤j→j<cs.length→(Dy cs j).key≠q)∨∃m,m<cs.length∧Nd (Dy cs) q n i=(m:Nat)∧(Dy cs m).key=q
 |0,i,h=> .inl ⟨by simp[Nd],fun j h1 h2=>absurd h1 (by omega)⟩
 |n+1,i,h=>by
  unfold Nd
  split
  ·rename_i hk;exact .inr ⟨i,by omega,rfl,hk⟩
  ·rename_i hk
   rcases Pm cs q n (i+1) (by omega)with⟨h1,h2⟩|h1
   ·refine .inl ⟨h1,fun j hj hl=>?_⟩
    rcases Nat.lt_or_ge i j with h3|h3
    ·exact h2 j h3 hl
    ·obtain rfl:j=i:=by omega
     exact hk
   ·exact .inr h1
def Q4(cs:List Ce)(q:List UInt8):List UInt8×Int:=Qk ⟨false,cs.length,Dy cs,q⟩
theorem Yz{cs:List Ce}(h:X3 cs){c:Ce}(hc:c∈cs):Q4 cs c.key=if c.gone=true then([],10)else(c.val,0):=by
 rcases Pm cs c.key cs.length 0 (by omega)with⟨h1,h2⟩|⟨m,h1,h2,h3⟩
 ·obtain⟨j,hj,rfl⟩:=H4.1 hc;exact absurd rfl (h2 j (Nat.zero_le _) hj)
 ·have hm:Dy cs m=c:=h.uni (H4.2 ⟨m,h1,rfl⟩) hc h3;have hk:wB ⟨false,cs.length,Dy cs,c.key⟩=(m:Nat):=h2;unfold Q4 Qk;rw[hk]
  show(if(m:Int)<0∨(Dy cs (m:Int).toNat).gone=true then([],10)else((Dy cs (m:Int).toNat).val,0))=_
  rw[Int.toNat_natCast,hm]
  by_cases hg:c.gone=true
  ·rw[if_pos (.inr hg),if_pos hg]
  ·rw[if_neg (fun h=>h.elim (by omega) hg),if_neg hg]
theorem mL{cs:List Ce}{q:List UInt8}(h:∀x:Ce,x∈cs→x.key≠q):Q4 cs q=([],10):=by
 rcases Pm cs q cs.length 0 (by omega)with⟨h1,h2⟩|⟨m,h1,h2,h3⟩
 ·unfold Q4 Qk;rw[if_pos (.inl h1)]
 ·exact absurd h3 (h _ (H4.2 ⟨m,h1,rfl⟩))
theorem AJ6{cs ds:List Ce}(h:X3 cs)(g:X3 ds){q:List UInt8}(he:xH q cs ds):Q4 cs q=Q4 ds q:=by
 by_cases hx:∃x:Ce,x∈cs∧x.key=q
 ·obtain⟨x,h1,rfl⟩:=hx;rw[Yz h h1,Yz g ((he x rfl).1 h1)]
 ·rw[mL fun x h1 h2=>hx ⟨x,h1,h2⟩,mL fun x h1 h2=>hx ⟨x,(he x h2).2 h1,h2⟩]
theorem Xf{es:Nat→Bw}{c d:Int}:∀n,M7 es n c≤d↔c≤d∧∀i,i<n→(es i).stamp≤d
 |0=>⟨fun h=>⟨h,fun i hi=>absurd hi (Nat.not_lt_zero _)⟩,fun h=>h.1⟩
 |n+1=>by
  show max (M7 es n c) (es n).stamp≤d↔_
  rw[Int.max_le,Xf n]
  constructor
  ·rintro⟨⟨h1,h2⟩,h3⟩
   refine⟨h1,fun i hi=>?_⟩
   rcases Nat.lt_or_ge i n with h4|h4
   ·exact h2 i h4
   ·obtain rfl:i=n:=by omega
    exact h3
  ·rintro⟨h1,h2⟩
   exact⟨⟨h1,fun i hi=>h2 i (by omega)⟩,h2 n (by omega)⟩
theorem Jq{l:Nat→Fd}{d:Int}:∀n,Ep l n≤d↔0≤d∧∀j i,j<n→(l j).shut=false→i<(l j).n→((l j).es i).stamp≤d
 |0=>⟨fun h=>⟨h,fun j i hj=>absurd hj (Nat.not_lt_zero _)⟩,fun h=>h.1⟩
 |n+1=>by
  unfold Ep
  split
  ·rename_i hs;rw[Jq n]
   constructor
   ·rintro⟨h1,h2⟩
    refine⟨h1,fun j i hj ho hi=>?_⟩
    rcases Nat.lt_or_ge j n with h4|h4
    ·exact h2 j i h4 ho hi
    ·obtain rfl:j=n:=by omega
     rw[hs]at ho;cases ho
   ·rintro⟨h1,h2⟩
    exact⟨h1,fun j i hj=>h2 j i (by omega)⟩
  ·rename_i hs;rw[Xf,Jq n]
   constructor
   ·rintro⟨⟨h1,h2⟩,h3⟩
    refine⟨h1,fun j i hj ho hi=>?_⟩
    rcases Nat.lt_or_ge j n with h4|h4
    ·exact h2 j i h4 ho hi
    ·obtain rfl:j=n:=by omega
     exact h3 i hi
   ·rintro⟨h1,h2⟩
    exact⟨⟨h1,fun j i hj=>h2 j i (by omega)⟩,fun i hi=>h2 n i (by omega) (by simpa using hs) hi⟩
theorem kS{n:Nat}{l:Nat→Fd}:B3 n l=true↔(1≤n∧n≤8)∧(∀k,k<n→(Be (l k)).2=true)∧∀k,0<k→k<n→Ct (l (k - 1)).author (l k).author<0:=by
 simp only[B3,Bool.and_eq_true,decide_eq_true_eq,List.all_eq_true,List.mem_range,Ls,Bool.or_eq_true]
 constructor
 ·rintro⟨h1,h2⟩
  exact⟨h1,fun k hk=>(h2 k hk).1,fun k h0 hk=>(h2 k hk).2.resolve_left (by omega)⟩
 ·rintro⟨h1,h2,h3⟩
  refine⟨h1,fun k hk=>⟨h2 k hk,?_⟩⟩
  by_cases h0:k=0
  ·exact .inl h0
  ·exact .inr (h3 k (by omega) hk)
theorem Xy{a:List UInt8}{es fs:Nat→Bw}:∀n,(∀i,i<n→es i=fs i)→Er a es n=Er a fs n
 |0,_=>rfl
 |n+1,h=>by
  simp only[Er];rw[Xy n fun i hi=>h i (by omega),h n (by omega)]
theorem wG{f:Fd}{e:Bw}(h:(Be f).2=true)(ho:f.shut=false)(hn:f.n<200)(he:(W9 e).2=0)(ha:e.author=f.author)(hs:e.seq=(f.n:Nat)+1)(hp:e.prev=(Be f).1):(Be (Bn f e)).2=true:=by
 have hr:Md f.author f.es f.n=Er f.author f.es f.n:=if_neg (by omega);simp only[Be,hr,Bool.and_eq_true]at h hp;have hr2:Md f.author (Bn f e).es (f.n+1)=Er f.author (Bn f e).es (f.n+1):=if_neg (by omega);have hc:Er f.author (Bn f e).es f.n=Er f.author f.es f.n:=Xy _ fun i hi=>if_pos hi;have hl:(Bn f e).es f.n=e:=if_neg (Nat.lt_irrefl _)
 have h2:Er f.author (Bn f e).es (f.n+1)=((W9 e).1,true):=by
  simp only[Er,hc,hl];rw[if_neg (by rw[h.1];decide),if_neg (by rintro(g|g|g|g)<;>first|exact g he|exact g ha|exact g hs|exact g hp)]
 simp only[Be,Bool.and_eq_true];refine⟨?_,?_⟩
 ·show(Md f.author (Bn f e).es (f.n+1)).2=true
  rw[hr2,h2]
 ·exact h.2
def VI(k:Int)(n:Nat)(l:Nat→Fd):Prop:=∀j,j<n→(∀i,i<(l j).n→Bh k ((l j).es i)=true)∧((l j).shut=true→Bh k (l j).pf.a=true∧Bh k (l j).pf.b=true)
theorem AQ4{k:Int}{p:Nat×(Nat→Fd)}{c:Nat}(h:SI k p c):VI k p.1 p.2:=fun j hj=>⟨(h.2 j hj).v,(h.2 j hj).s⟩
theorem AOj{k:Int}{n:Nat}{l:Nat→Fd}(h:B3 n l=true)(hv:VI k n l):wU k n l=true:=by
 unfold wU;rw[h,Bool.true_and,List.all_eq_true];intro j hj;have hj:=List.mem_range.1 hj;have hlk:=(C9 h).2.2 j hj;simp only[Be,Bool.and_eq_true]at hlk;have hp:=hlk.2;obtain⟨h1,h2⟩:=hv j hj;unfold So;rw[Bool.and_eq_true,List.all_eq_true];refine⟨?_,fun i hi=>h1 i (List.mem_range.1 hi)⟩
 cases hs:(l j).shut with
 |false=>rfl
 |true=>
  obtain⟨h3,h4⟩:=h2 hs;rw[if_pos hs]at hp;simp only[Bool.and_eq_true]at hp;simp[Zp,h3,h4,hp.1]
theorem zO{e:Bw}(h:iQ e)(hk:Al e=true){s:List UInt8}(hs:s.length=64):Li {e with sig:=s}=Li e:=by
 rw[Rc h hk,Rc (e:={e with sig:=s}) ⟨h.1,h.2.1,hs⟩ hk];rfl
theorem ADb{k:Int}(hk:D0 k){s:List UInt8}{e:Bw}(hw:iQ e)(he:Al e=true):Bh k (Sg k s e)=true:=by
 have h1:∀t:List UInt8,t.length=64→Bh k {e with author:=Dd k s,sig:=t}=Ua k (Dd k s) (Li {e with author:=Dd k s}).1 t:=fun t ht=>by
  have h2:Al {e with author:=Dd k s,sig:=t}=true:=he;unfold Bh;rw[h2,Bool.true_and,zO (e:={e with author:=Dd k s}) ⟨Ok _ _,hw.2⟩ he ht]
 unfold Sg;rw[h1 _ (mM _ _ _)];exact ADa hk s _
structure AQ0(x:xI):Prop where
 kd:D0 x.kd
 s:x.s.length=32
 l:∀j,j<x.a.n→G9 (x.a.l j)
 v:VI x.kd x.a.n x.a.l
 r:(Sd x).2.2=0
structure AQ1(x:xI)(k:Nat)(e:Bw):Prop where
 n:(Sd x).1=x.a.n
 l:(Sd x).2.1=Lw x.a.l k e
 lt:k<x.a.n
 at_:En x.a.l x.a.n (Dd x.kd x.s)=(k:Nat)
 key:e.key=x.o.key
 val:e.val=x.o.val
 kind:e.kind=x.o.kind
 op:Fq x.o=true
 pe:Cy e
 ok:B3 x.a.n (Lw x.a.l k e)=true
 pre:∀j,j<x.a.n→G9 (Lw x.a.l k e j)
 v:VI x.kd x.a.n (Lw x.a.l k e)
 clock:∀b,C7 ⟨b,x.a.n,Lw x.a.l k e⟩=C7 x.a+1
 rng:C7 x.a+1≤9223372036854775807
 see:Q4 (Dj x.a.n (Lw x.a.l k e)) x.o.key=if x.o.kind=2 then([],10)else(x.o.val,0)
 other:∀q,q≠x.o.key→Q4 (Dj x.a.n x.a.l) q=Q4 (Dj x.a.n (Lw x.a.l k e)) q
set_option maxHeartbeats 1000000 in
theorem ANx{x:xI}(h:AQ0 x):∃k e,AQ1 x k e:=by
 obtain⟨hkd,hs,hl,hv,h0⟩:=h
 have hr:B3 x.a.n x.a.l=true∧¬En x.a.l x.a.n (Dd x.kd x.s)<0∧Fq x.o=true∧(Fg x.nx).2=0∧Sd x=(x.a.n,Lw x.a.l x.nx.k (Fg x.nx).1,0):=by
  unfold Sd at h0⊢
  split at h0
  ·cases h0
  ·split at h0
   ·cases h0
   ·split at h0
    ·cases h0
    ·split at h0
     ·rename_i g;exact absurd h0 g.2
     ·split at h0
      ·rename_i g;exact absurd h0 g
      ·rename_i g1 g2 g3 g4 g5;rw[if_neg g1,if_neg g2,if_neg g3,if_neg g4,if_neg g5];exact⟨by simpa using g1,g2,by simpa using g3,by simpa using g5,rfl⟩
 obtain⟨hf,hz,ho,hn0,hput⟩:=hr;have hfl:=Lm (l:=x.a.l) (author:=Dd x.kd x.s) x.a.n 0;replace hfl:=hfl.resolve_left hz
 have hat:En x.a.l x.a.n (Dd x.kd x.s)=(x.nx.k:Nat):=by
  show _=(((En x.a.l x.a.n (Dd x.kd x.s)).toNat:Nat):Int)
  omega
 have hk:x.nx.k<x.a.n:=by
  have h1:En x.a.l x.a.n (Dd x.kd x.s)<(0+x.a.n:Nat):=hfl.2.1;omega
 have hau:(x.a.l x.nx.k).author=Dd x.kd x.s:=hfl.2.2;have hnx:uX x.nx:=⟨hkd,hs,hl,hf,hk,ho⟩;obtain⟨e1,hsh,htop⟩:=lO hn0;obtain⟨hpe,hent⟩:=Yj hnx htop;have hps:=Wp hnx hn0 hau;obtain⟨k,hkk⟩:∃k,k=x.nx.k:=⟨_,rfl⟩;obtain⟨e,hee⟩:∃e,e=(Fg x.nx).1:=⟨_,rfl⟩;have he:e=Sg x.kd x.s (Jy x.nx):=by rw[hee,e1];rfl
 replace hps:AEa ⟨x.a.l k,e⟩:=by rw[hkk,hee];exact hps
 rw[←hkk,←hee]at hput;rw[←hkk]at hat hk hau;replace hsh:(x.a.l k).shut=false:=by rw[hkk];exact hsh
 have hstamp:e.stamp=C7 x.a+1:=by rw[he];rfl
 have hseq:e.seq=((x.a.l k).n:Nat)+1:=by rw[he,hkk];rfl
 have hprev:e.prev=(Be (x.a.l k)).1:=by rw[he,hkk];rfl
 have hauth:e.author=(x.a.l k).author:=by rw[hau,he];rfl
 have hval:e.val=x.o.val:=by rw[he];rfl
 have hkey:e.key=x.o.key:=by rw[he];rfl
 have hkind:e.kind=x.o.kind:=by rw[he];rfl
 have hee2:Al e=true:=hps.ent;have hpre2:Cy e:=hps.pe;have hver:Bh x.kd e=true:=by rw[he];exact ADb hkd hpe.1 hent
 have hlk:=(C9 hf).2.2
 have hn2:(x.a.l k).n<200:=by
  simp only[Vh,Bool.or_eq_false_iff,decide_eq_false_iff_not]at htop
  have:=htop.1
  have h2:(x.nx.a.l x.nx.k).n=(x.a.l k).n:=by rw[hkk];rfl
  omega
 have hct:C7 x.a+1≤9223372036854775807:=by
  simp only[Vh,Bool.or_eq_false_iff,decide_eq_false_iff_not]at htop;have h1:¬C7 x.a=9223372036854775807:=htop.2;have h2:=M8 hl;omega
 have hcl:C7 x.a=Ep x.a.l x.a.n:=if_pos hf;have hst:=(Jq (l:=x.a.l) (d:=C7 x.a) x.a.n).1 (by omega)
 have hok:B3 x.a.n (Lw x.a.l k e)=true:=by
  rw[kS]at hf⊢
  have ha:∀j,(Lw x.a.l k e j).author=(x.a.l j).author:=fun j=>by
   by_cases hj:j=k
   ·rw[hj,Iw];rfl
   ·rw[Ms _ _ hj]
  refine⟨hf.1,fun j hj=>?_,fun j h0 hj=>by rw[ha,ha];exact hf.2.2 j h0 hj⟩
  by_cases hjk:j=k
  ·rw[hjk,Iw];exact wG (hlk k hk) hsh hn2 ((ABe hpre2.1).2 hee2) hauth hseq hprev
  ·rw[Ms _ _ hjk];exact hlk j hj
 have all:∀P:Bw→Prop,(∀i,i<(x.a.l k).n→P ((x.a.l k).es i))→P e→∀i,i<(x.a.l k).n+1→P ((Bn (x.a.l k) e).es i):=fun P ha hb i hi=>by
  show P (if i<(x.a.l k).n then _ else _)
  split
  ·exact ha i ‹_›
  ·exact hb
 have hvw:Dj x.a.n (Lw x.a.l k e)=Df (Lw x.a.l k e) x.a.n:=if_pos hok;have hvo:Dj x.a.n x.a.l=Df x.a.l x.a.n:=if_pos hf;refine⟨k,e,⟨by rw[hput],by rw[hput],hk,hat,hkey,hval,hkind,ho,hpre2,hok,fun j hj=>?_,fun j hj=>?_,fun b=>?_,hct,?_,fun q hq=>?_⟩⟩
 ·by_cases hjk:j=k
  ·rw[hjk,Iw];exact⟨(hl k hk).1,all Cy (hl k hk).2.1 hpre2,(hl k hk).2.2⟩
  ·rw[Ms _ _ hjk];exact hl j hj
 ·by_cases hjk:j=k
  ·rw[hjk,Iw];exact⟨all (fun e=>Bh x.kd e=true) (hv k hk).1 hver,(hv k hk).2⟩
  ·rw[Ms _ _ hjk];exact hv j hj
 ·have h1:C7 ⟨b,x.a.n,Lw x.a.l k e⟩=Ep (Lw x.a.l k e) x.a.n:=if_pos hok
  have h2:Ep (Lw x.a.l k e) x.a.n≤C7 x.a+1:=(Jq _).2 ⟨by omega,fun j i hj hso hi=>by
   by_cases hjk:j=k
   ·rw[hjk,Iw]at hi⊢;exact all (fun e=>e.stamp≤C7 x.a+1) (fun i hi=>by have:=hst.2 k i hk hsh hi;omega) (by omega) i hi
   ·rw[Ms _ _ hjk]at hi hso⊢
    have:=hst.2 j i hj hso hi
    omega⟩
  have h3:=((Jq (l:=Lw x.a.l k e) (d:=Ep (Lw x.a.l k e) x.a.n) x.a.n).1 (Int.le_refl _)).2 k (x.a.l k).n hk (by rw[Iw];exact hsh) (by rw[Iw];exact Nat.lt_succ_self _);rw[Iw,show(Bn (x.a.l k) e).es (x.a.l k).n=e from if_neg (Nat.lt_irrefl _)]at h3;rw[h1];omega
 ·rw[hvw,←hkey];refine(Yz (c:=Cc e) (Dl _ _) (AD8 hsh (fun j i hj hso hi=>by have:=hst.2 j i hj hso hi;omega) _ (Nat.le_refl _) hk)).trans ?_
  show(if decide (e.kind=2)=true then([],10)else(e.val,0))=_
  by_cases h2:x.o.kind=2
  ·rw[if_pos (decide_eq_true (hkind.trans h2)),if_pos h2]
  ·rw[if_neg (fun g=>h2 (hkind.symm.trans (of_decide_eq_true g))),if_neg h2,hval]
 ·rw[hvw,hvo];exact AJ6 (Dl _ _) (Dl _ _) fun y hy=>(Sm hsh (by rw[hkey];exact fun h=>hq h.symm) _ y hy).symm
end Go.Proofs.YtaihjcpfjgpmoaaGreatDoor
