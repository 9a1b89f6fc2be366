/- Part of the claim ModelPuts: E1, E2, E3, E4, E5, E6, E7. -/
set_option linter.unusedVariables false
set_option linter.unusedSimpArgs false
set_option maxRecDepth 100000
namespace Go.EE
structure Pt (n:Nat) where
 x:Fin n
 y:Fin n
structure Q9(n:Nat)[NeZero n](inv:Fin n→Fin n)(d:Fin n):Prop where
 inv:∀a:Fin n,a≠0→a*inv a=1
 one:(1:Fin n)≠0
 two:(2:Fin n)≠0
 i:∃i:Fin n,i*i= -1
 d:∀t:Fin n,t*t≠d
section
variable {n:Nat} [NeZero n] {inv:Fin n→Fin n} {d:Fin n}
theorem Q9.zero(h:Q9 n inv d){a b:Fin n}(hab:a*b=0):a=0∨b=0:=by
 by_cases ha:a=0
 ·exact .inl ha
 ·have h1:=h.inv a ha
  right
  have:b=inv a*(a*b):=by grind(splits:=0)
  rw[this,hab];grind(splits:=0)
def On(d:Fin n)(p:Pt n):Prop:=p.y*p.y - p.x*p.x=1+d*p.x*p.x*p.y*p.y
def dA(d:Fin n)(p q:Pt n):Fin n:=1+d*p.x*q.x*p.y*q.y
def dB(d:Fin n)(p q:Pt n):Fin n:=1 - d*p.x*q.x*p.y*q.y
def add(inv:Fin n→Fin n)(d:Fin n)(p q:Pt n):Pt n:=⟨(p.x*q.y+p.y*q.x)*inv (dA d p q),(p.y*q.y+p.x*q.x)*inv (dB d p q)⟩
def nD:Pt n:=⟨0,1⟩
theorem Q9.ne(h:Q9 n inv d){p q:Pt n}(hp:On d p)(hq:On d q)(e:Fin n)(he:e*e=1):d*p.x*q.x*p.y*q.y≠e:=by
 intro h0;obtain⟨i,hi⟩:=h.i;obtain⟨x1,y1⟩:=p;obtain⟨x2,y2⟩:=q;simp only[On]at hp hq h0;have h1:=h.one
 have hx:x1*y1≠0:=by
  intro hz
  apply h1
  have:e=d*(x1*y1)*(x2*y2):=by rw[←h0];grind(splits:=0)
  rw[hz]at this
  grind(splits:=0)
 have sq:∀s:Fin n,s*s=1→(i*x1+s*e*y1)*(i*x1+s*e*y1)=d*(x1*y1)*(x1*y1)*(i*x2+s*y2)*(i*x2+s*y2):=fun s hs=>by
  grind(splits:=0) (ringSteps:=100000)
 have no:∀s:Fin n,s*s=1→i*x2+s*y2=0:=fun s hs=>by
  by_cases hz:i*x2+s*y2=0
  ·exact hz
  ·exfalso;have hw:x1*y1*(i*x2+s*y2)≠0:=fun h2=>(h.zero h2).elim hx hz;have h3:=h.inv _ hw;have h4:=sq s hs;refine h.d ((i*x1+s*e*y1)*inv (x1*y1*(i*x2+s*y2))) ?_;generalize inv (x1*y1*(i*x2+s*y2))=v at h3
   have:(i*x1+s*e*y1)*v*((i*x1+s*e*y1)*v)=d*(x1*y1*(i*x2+s*y2)*v)*(x1*y1*(i*x2+s*y2)*v):=by
    have:(i*x1+s*e*y1)*v*((i*x1+s*e*y1)*v)=(i*x1+s*e*y1)*(i*x1+s*e*y1)*(v*v):=by grind(splits:=0)
    rw[this,h4];grind(splits:=0)
   rw[this,h3];grind(splits:=0)
 have n1:=no 1 (by grind(splits:=0));have n2:=no (-1) (by grind(splits:=0));have hy:2*y2=0:=by grind(splits:=0)
 rcases h.zero hy with h5|h5
 ·exact h.two h5
 ·rw[h5]at h0
  apply h1
  grind(splits:=0)
theorem Q9.nA(h:Q9 n inv d){p q:Pt n}(hp:On d p)(hq:On d q):dA d p q≠0:=fun h0=>h.ne hp hq (-1) (by grind(splits:=0)) (by unfold dA at h0;grind(splits:=0))
theorem Q9.nB(h:Q9 n inv d){p q:Pt n}(hp:On d p)(hq:On d q):dB d p q≠0:=fun h0=>h.ne hp hq 1 (by grind(splits:=0)) (by unfold dB at h0;grind(splits:=0))
theorem nR(h:Q9 n inv d){p q:Pt n}(hp:On d p)(hq:On d q):On d (add inv d p q):=by
 have hA:=h.inv _ (h.nA hp hq);have hB:=h.inv _ (h.nB hp hq);unfold On add;simp only;generalize inv (dA d p q)=u at*;generalize inv (dB d p q)=v at*;obtain⟨x1,y1⟩:=p;obtain⟨x2,y2⟩:=q;simp only[On,dA,dB]at*
 have hc:(y1*y2+x1*x2)*(y1*y2+x1*x2)*(1+d*x1*x2*y1*y2)*(1+d*x1*x2*y1*y2) - (x1*y2+y1*x2)*(x1*y2+y1*x2)*(1 - d*x1*x2*y1*y2)*(1 - d*x1*x2*y1*y2)
  =(1+d*x1*x2*y1*y2)*(1+d*x1*x2*y1*y2)*(1 - d*x1*x2*y1*y2)*(1 - d*x1*x2*y1*y2)+d*(x1*y2+y1*x2)*(x1*y2+y1*x2)*(y1*y2+x1*x2)*(y1*y2+x1*x2):=by grind(splits:=0) (ringSteps:=100000)
 generalize 1+d*x1*x2*y1*y2=A at*;generalize 1 - d*x1*x2*y1*y2=B at*;generalize x1*y2+y1*x2=X at*;generalize y1*y2+x1*x2=Y at*;have h1:(Y*Y*A*A - X*X*B*B)*(u*u*v*v)=(A*A*B*B+d*X*X*Y*Y)*(u*u*v*v):=by rw[hc]
 have h2:(Y*Y*A*A - X*X*B*B)*(u*u*v*v)=Y*v*(Y*v) - X*u*(X*u):=by
  have:(Y*Y*A*A - X*X*B*B)*(u*u*v*v)=Y*Y*(v*v)*(A*u)*(A*u) - X*X*(u*u)*(B*v)*(B*v):=by grind(splits:=0)
  rw[this,hA,hB];grind(splits:=0)
 have h3:(A*A*B*B+d*X*X*Y*Y)*(u*u*v*v)=1+d*(X*u)*(X*u)*(Y*v)*(Y*v):=by
  have:(A*A*B*B+d*X*X*Y*Y)*(u*u*v*v)=(A*u)*(A*u)*(B*v)*(B*v)+d*(X*u)*(X*u)*(Y*v)*(Y*v):=by grind(splits:=0)
  rw[this,hA,hB];grind(splits:=0)
 rw[←h2,h1,h3]
theorem AHd(h:Q9 n inv d):inv 1=1:=by
 have:=h.inv 1 h.one
 grind(splits:=0)
theorem AP6:On d (nD:Pt n):=by
 simp only[On,nD];grind(splits:=0)
theorem eD(h:Q9 n inv d)(p:Pt n):add inv d p nD=p:=by
 have h1:=AHd h;obtain⟨x,y⟩:=p;simp only[add,nD,dA,dB,Pt.mk.injEq];have e1:1+d*x*0*y*1=1:=by grind(splits:=0)
 have e2:1 - d*x*0*y*1=1:=by grind(splits:=0)
 rw[e1,e2,h1]
 constructor<;>grind(splits:=0)
theorem add_comm(p q:Pt n):add inv d p q=add inv d q p:=by
 have e1:dA d p q=dA d q p:=by unfold dA;grind(splits:=0)
 have e2:dB d p q=dB d q p:=by unfold dB;grind(splits:=0)
 simp only[add,e1,e2,Pt.mk.injEq]
 constructor<;>grind(splits:=0)
theorem AS1{N1 D1 N2 D2 w1 w2:Fin n}(h1:D1*w1=1)(h2:D2*w2=1)(h:N1*D2=N2*D1):N1*w1=N2*w2:=by
 have:N1*w1=N1*D2*(w1*w2):=by
  have:N1*D2*(w1*w2)=N1*w1*(D2*w2):=by grind(splits:=0)
  rw[this,h2];grind(splits:=0)
 rw[this,h]
 have:N2*D1*(w1*w2)=N2*w2*(D1*w1):=by grind(splits:=0)
 rw[this,h1];grind(splits:=0)
theorem asx(x1 y1 x2 y2 x3 y3:Fin n)(h1:y1*y1 - x1*x1=1+d*x1*x1*y1*y1)(h2:y2*y2 - x2*x2=1+d*x2*x2*y2*y2)(h3:y3*y3 - x3*x3=1+d*x3*x3*y3*y3):
 ((x1*y2+y1*x2)*(1 - d*x1*x2*y1*y2)*y3+(y1*y2+x1*x2)*(1+d*x1*x2*y1*y2)*x3)*((1+d*x2*x3*y2*y3)*(1 - d*x2*x3*y2*y3)+d*x1*y1*(x2*y3+y2*x3)*(y2*y3+x2*x3))=(x1*(y2*y3+x2*x3)*(1+d*x2*x3*y2*y3)+y1*(x2*y3+y2*x3)*(1 - d*x2*x3*y2*y3))*((1+d*x1*x2*y1*y2)*(1 - d*x1*x2*y1*y2)+d*x3*y3*(x1*y2+y1*x2)*(y1*y2+x1*x2)):=by grind(splits:=0) (ringSteps:=100000)
theorem asy(x1 y1 x2 y2 x3 y3:Fin n)(h1:y1*y1 - x1*x1=1+d*x1*x1*y1*y1)(h2:y2*y2 - x2*x2=1+d*x2*x2*y2*y2)(h3:y3*y3 - x3*x3=1+d*x3*x3*y3*y3):
 ((y1*y2+x1*x2)*(1+d*x1*x2*y1*y2)*y3+(x1*y2+y1*x2)*(1 - d*x1*x2*y1*y2)*x3)*((1+d*x2*x3*y2*y3)*(1 - d*x2*x3*y2*y3) - d*x1*y1*(x2*y3+y2*x3)*(y2*y3+x2*x3))=(y1*(y2*y3+x2*x3)*(1+d*x2*x3*y2*y3)+x1*(x2*y3+y2*x3)*(1 - d*x2*x3*y2*y3))*((1+d*x1*x2*y1*y2)*(1 - d*x1*x2*y1*y2) - d*x3*y3*(x1*y2+y1*x2)*(y1*y2+x1*x2)):=by grind(splits:=0) (ringSteps:=100000)
theorem add_assoc(h:Q9 n inv d){p q r:Pt n}(hp:On d p)(hq:On d q)(hr:On d r):add inv d (add inv d p q) r=add inv d p (add inv d q r):=by
 have o1:=nR h hp hq;have o2:=nR h hq hr;have a1:=h.inv _ (h.nA hp hq);have b1:=h.inv _ (h.nB hp hq);have a2:=h.inv _ (h.nA hq hr);have b2:=h.inv _ (h.nB hq hr);have a3:=h.inv _ (h.nA o1 hr);have b3:=h.inv _ (h.nB o1 hr);have a4:=h.inv _ (h.nA hp o2);have b4:=h.inv _ (h.nB hp o2);obtain⟨x1,y1⟩:=p;obtain⟨x2,y2⟩:=q;obtain⟨x3,y3⟩:=r;simp only[On]at hp hq hr;have hx:=asx x1 y1 x2 y2 x3 y3 hp hq hr;have hy:=asy x1 y1 x2 y2 x3 y3 hp hq hr;clear o1 o2 hp hq hr;simp only[add,dA,dB,Pt.mk.injEq]at*;generalize inv (1+d*x1*x2*y1*y2)=u1 at*;generalize inv (1 - d*x1*x2*y1*y2)=v1 at*;generalize inv (1+d*x2*x3*y2*y3)=u2 at*;generalize inv (1 - d*x2*x3*y2*y3)=v2 at*;generalize 1+d*x1*x2*y1*y2=A1 at*;generalize 1 - d*x1*x2*y1*y2=B1 at*;generalize 1+d*x2*x3*y2*y3=A2 at*;generalize 1 - d*x2*x3*y2*y3=B2 at*;generalize x1*y2+y1*x2=X1 at*;generalize y1*y2+x1*x2=Y1 at*;generalize x2*y3+y2*x3=X2 at*;generalize y2*y3+x2*x3=Y2 at*;generalize inv (1+d*(X1*u1)*x3*(Y1*v1)*y3)=u3 at*;generalize inv (1 - d*(X1*u1)*x3*(Y1*v1)*y3)=v3 at*;generalize inv (1+d*x1*(X2*u2)*y1*(Y2*v2))=u4 at*;generalize inv (1 - d*x1*(X2*u2)*y1*(Y2*v2))=v4 at*
 have e1:(A1*B1+d*x3*y3*X1*Y1)*(u1*v1*u3)=1:=by
  have:(A1*B1+d*x3*y3*X1*Y1)*(u1*v1*u3)=((A1*u1)*(B1*v1)+d*(X1*u1)*x3*(Y1*v1)*y3)*u3:=by grind(splits:=0)
  rw[this,a1,b1];exact Eq.trans (by clear hx hy;grind(splits:=0)) a3
 have e2:(A1*B1 - d*x3*y3*X1*Y1)*(u1*v1*v3)=1:=by
  have:(A1*B1 - d*x3*y3*X1*Y1)*(u1*v1*v3)=((A1*u1)*(B1*v1) - d*(X1*u1)*x3*(Y1*v1)*y3)*v3:=by grind(splits:=0)
  rw[this,a1,b1];exact Eq.trans (by clear hx hy;grind(splits:=0)) b3
 have e3:(A2*B2+d*x1*y1*X2*Y2)*(u2*v2*u4)=1:=by
  have:(A2*B2+d*x1*y1*X2*Y2)*(u2*v2*u4)=((A2*u2)*(B2*v2)+d*x1*(X2*u2)*y1*(Y2*v2))*u4:=by grind(splits:=0)
  rw[this,a2,b2];exact Eq.trans (by clear hx hy;grind(splits:=0)) a4
 have e4:(A2*B2 - d*x1*y1*X2*Y2)*(u2*v2*v4)=1:=by
  have:(A2*B2 - d*x1*y1*X2*Y2)*(u2*v2*v4)=((A2*u2)*(B2*v2) - d*x1*(X2*u2)*y1*(Y2*v2))*v4:=by grind(splits:=0)
  rw[this,a2,b2];exact Eq.trans (by clear hx hy;grind(splits:=0)) b4
 have n1:(X1*u1*y3+Y1*v1*x3)*u3=(X1*B1*y3+Y1*A1*x3)*(u1*v1*u3):=by
  have:(X1*B1*y3+Y1*A1*x3)*(u1*v1*u3)=(X1*u1*y3*(B1*v1)+Y1*v1*x3*(A1*u1))*u3:=by grind(splits:=0)
  rw[this,a1,b1];grind(splits:=0)
 have n2:(Y1*v1*y3+X1*u1*x3)*v3=(Y1*A1*y3+X1*B1*x3)*(u1*v1*v3):=by
  have:(Y1*A1*y3+X1*B1*x3)*(u1*v1*v3)=(Y1*v1*y3*(A1*u1)+X1*u1*x3*(B1*v1))*v3:=by grind(splits:=0)
  rw[this,a1,b1];grind(splits:=0)
 have n3:(x1*(Y2*v2)+y1*(X2*u2))*u4=(x1*Y2*A2+y1*X2*B2)*(u2*v2*u4):=by
  have:(x1*Y2*A2+y1*X2*B2)*(u2*v2*u4)=(x1*(Y2*v2)*(A2*u2)+y1*(X2*u2)*(B2*v2))*u4:=by grind(splits:=0)
  rw[this,a2,b2];grind(splits:=0)
 have n4:(y1*(Y2*v2)+x1*(X2*u2))*v4=(y1*Y2*A2+x1*X2*B2)*(u2*v2*v4):=by
  have:(y1*Y2*A2+x1*X2*B2)*(u2*v2*v4)=(y1*(Y2*v2)*(A2*u2)+x1*(X2*u2)*(B2*v2))*v4:=by grind(splits:=0)
  rw[this,a2,b2];grind(splits:=0)
 exact⟨by rw[n1,n3];exact AS1 e1 e3 hx,by rw[n2,n4];exact AS1 e2 e4 hy⟩
def L9(inv:Fin n→Fin n)(d:Fin n)(p:Pt n):Nat→Pt n|0=>nD|k+1=>add inv d (L9 inv d p k) p
theorem Ml(h:Q9 n inv d){p:Pt n}(hp:On d p):∀k,On d (L9 inv d p k)
 |0=>AP6
 |k+1=>nR h (Ml h hp k) hp
theorem AJx(h:Q9 n inv d)(p:Pt n):add inv d nD p=p:=by rw[add_comm];exact eD h p
theorem S4(h:Q9 n inv d){p:Pt n}(hp:On d p)(j:Nat):∀k,L9 inv d p (j+k)=add inv d (L9 inv d p j) (L9 inv d p k)
 |0=>(eD h _).symm
 |k+1=>by
  show add inv d (L9 inv d p (j+k)) p=add inv d (L9 inv d p j) (add inv d (L9 inv d p k) p)
  rw[S4 h hp j k];exact add_assoc h (Ml h hp j) (Ml h hp k) hp
theorem gR(h:Q9 n inv d){p:Pt n}(hp:On d p)(j:Nat):∀k,L9 inv d p (j*k)=L9 inv d (L9 inv d p j) k
 |0=>rfl
 |k+1=>by
  rw[Nat.mul_add,Nat.mul_one,S4 h hp,gR h hp j k];rfl
theorem tD(h:Q9 n inv d):∀k,L9 inv d (nD:Pt n) k=nD
 |0=>rfl
 |k+1=>by rw[L9,tD h k];exact eD h _
theorem AI4(h:Q9 n inv d){p:Pt n}(hp:On d p){l:Nat}(hL:L9 inv d p l=nD)(k:Nat):L9 inv d p (k%l)=L9 inv d p k:=by
 have e:L9 inv d p (l*(k/l)+k%l)=L9 inv d p (k%l):=by
  rw[S4 h hp,gR h hp,hL,tD h,AJx h]
 rw[←e,Nat.div_add_mod]
theorem AJa(h:Q9 n inv d){b:Pt n}(hb:On d b){l:Nat}(hL:L9 inv d b l=nD)(r k a:Nat):L9 inv d b ((k*a+r)%l)=add inv d (L9 inv d b r) (L9 inv d (L9 inv d b a) k):=by
 rw[AI4 h hb hL,S4 h hb,Nat.mul_comm,gR h hb];exact add_comm _ _
end
def Nk(q:Nat):Prop:=2≤q∧∀m,m∣q→m=1∨m=q
theorem wF{N:Nat}:∀m,2≤m→m∣N→∃r,2≤r∧r∣N∧∀k,2≤k→k∣N→r≤k:=by
 intro m
 induction m using Nat.strongRecOn with
 |ind m ih=>
  intro h2 hm
  by_cases h:∃k,k<m∧2≤k∧k∣N
  ·obtain⟨k,h3,h4,h5⟩:=h;exact ih k h3 h4 h5
  ·refine⟨m,h2,hm,fun k hk hd=>?_⟩
   rcases Nat.lt_or_ge k m with h3|h3
   ·exact absurd ⟨k,h3,hk,hd⟩ h
   ·exact h3
theorem wO{N:Nat}(hN:2≤N):∃r,Nk r∧r∣N∧(r=N∨r*r≤N):=by
 obtain⟨r,h1,h2,h3⟩:=wF N hN (Nat.dvd_refl N);refine⟨r,⟨h1,fun m hm=>?_⟩,h2,?_⟩
 ·rcases Nat.lt_or_ge m 2 with h|h
  ·have:m≠0:=fun h0=>by subst h0;have:=Nat.zero_dvd.1 hm;omega
   left;omega
  ·right
   exact Nat.le_antisymm (Nat.le_of_dvd (by omega) hm) (h3 m h (Nat.dvd_trans hm h2))
 ·obtain⟨k,hk⟩:=h2
  rcases Nat.lt_or_ge k 2 with h|h
  ·left
   have:k≠0:=fun h0=>by subst h0;omega
   have:k=1:=by omega
   rw[hk,this,Nat.mul_one]
  ·right
   rw[hk];exact Nat.mul_le_mul_left r (h3 k h ⟨r,by rw[hk,Nat.mul_comm]⟩)
theorem It{N:Nat}(hN:2≤N)(h:∀r,Nk r→r∣N→r*r≤N→False):Nk N:=by
 obtain⟨r,h1,h2,h3|h3⟩:=wO hN
 ·exact h3▸h1
 ·exact(h r h1 h2 h3).elim
def uH(q:Nat):Nat→Bool|0=>true|k+1=>(q%(k+2) !=0)&&uH q k
theorem mV{q:Nat}:∀{k:Nat},uH q k=true→∀m,2≤m→m<k+2→¬m∣q
 |0,_,m,h1,h2=>by omega
 |k+1,h,m,h1,h2=>by
  simp only[uH,Bool.and_eq_true,bne_iff_ne,ne_eq]at h
  rcases Nat.lt_or_ge m (k+2)with h3|h3
  ·exact mV h.2 m h1 h3
  ·obtain rfl:m=k+2:=by omega
   exact fun hd=>h.1 (Nat.mod_eq_zero_of_dvd hd)
theorem Jg{q:Nat}(k:Nat)(h2:2≤q)(h:uH q k=true)(hk:q<(k+2)*(k+2)):Nk q:=by
 refine It h2 fun r hr hd hl=>mV h r hr.1 ?_ hd
 rcases Nat.lt_or_ge r (k+2)with h3|h3
 ·exact h3
 ·have:=Nat.mul_le_mul h3 h3
  omega
theorem Nk.cop{q a:Nat}(hq:Nk q)(h:¬q∣a):Nat.gcd q a=1:=by
 rcases hq.2 _ (Nat.gcd_dvd_left q a)with h1|h1
 ·exact h1
 ·exact absurd (h1▸Nat.gcd_dvd_right q a) h
theorem Nk.mul{q a b:Nat}(hq:Nk q)(h:q∣a*b):q∣a∨q∣b:=by
 by_cases ha:q∣a
 ·exact .inl ha
 ·exact .inr (Nat.Coprime.dvd_of_dvd_mul_left (hq.cop ha) h)
def ch:Nat→Nat→Nat|_,0=>1|0,_+1=>0|n+1,k+1=>ch n k+ch n (k+1)
theorem rM:∀n k,n<k→ch n k=0
 |0,k+1,_=>rfl
 |n+1,k+1,h=>by rw[ch,rM n k (by omega),rM n (k+1) (by omega)]
theorem rN:∀n,ch n n=1
 |0=>rfl
 |n+1=>by rw[ch,rN n,rM n (n+1) (by omega)]
theorem eX:∀n k,(k+1)*ch (n+1) (k+1)=(n+1)*ch n k
 |0,0=>rfl
 |0,k+1=>by simp[ch]
 |n+1,0=>by
  have:=eX n 0
  simp only[ch]at this⊢;omega
 |n+1,k+1=>by
  have h1:=eX n k;have h2:=eX n (k+1);have e1:ch (n+2) (k+2)=ch (n+1) (k+1)+ch (n+1) (k+2):=rfl;have e2:ch (n+1) (k+1)=ch n k+ch n (k+1):=rfl;rw[e1,Nat.mul_add,h2]
  have:(k+1+1)*ch (n+1) (k+1)=(k+1)*ch (n+1) (k+1)+ch (n+1) (k+1):=by rw[Nat.add_mul,Nat.one_mul]
  rw[this,h1];rw[show(n+1+1)*ch (n+1) (k+1)=(n+1)*ch (n+1) (k+1)+ch (n+1) (k+1) by rw[Nat.add_mul,Nat.one_mul]];rw[e2,Nat.mul_add];omega
def bI(n a:Nat):Nat→Nat|0=>0|m+1=>bI n a m+ch n m*a^m
theorem jK(n a:Nat):∀m,bI (n+1) a (m+1)=bI n a (m+1)+a*bI n a m
 |0=>by simp[bI,ch]
 |m+1=>by
  have ih:=jK n a m;have e0:bI (n+1) a (m+1+1)=bI (n+1) a (m+1)+ch (n+1) (m+1)*a^(m+1):=rfl;have e1:ch (n+1) (m+1)=ch n m+ch n (m+1):=rfl;have e2:bI n a (m+1+1)=bI n a (m+1)+ch n (m+1)*a^(m+1):=rfl;have e3:bI n a (m+1)=bI n a m+ch n m*a^m:=rfl;have ep:a^(m+1)=a^m*a:=Nat.pow_succ ..;rw[ep]at e0 e2;generalize a^m=z at*;rw[e0,ih,e1,e2,e3]
  grind
theorem yR(n a:Nat):bI n a (n+1+1)=bI n a (n+1):=by rw[bI,rM n (n+1) (by omega)];simp
theorem rA(a:Nat):∀n,(a+1)^n=bI n a (n+1)
 |0=>by simp[bI,ch]
 |n+1=>by
  rw[jK,yR,←rA a n,Nat.pow_succ,Nat.mul_add,Nat.mul_one,Nat.mul_comm,Nat.add_comm]
theorem qZ{q:Nat}(hq:Nk q)(a:Nat):∀m,m<q→bI q a (m+1)%q=1%q
 |0,_=>by simp[bI,ch]
 |m+1,hm=>by
  have h1:=qZ hq a m (by omega);obtain⟨p,rfl⟩:∃p,q=p+1:=⟨q - 1,by have:=hq.1;omega⟩;have h2:=eX p m
  have h3:(p+1)∣ch (p+1) (m+1):=by
   rcases hq.mul (a:=m+1) (b:=ch (p+1) (m+1)) ⟨ch p m,h2⟩with h|h
   ·have:=Nat.le_of_dvd (by omega) h;omega
   ·exact h
  rw[bI,Nat.add_mod,Nat.mod_eq_zero_of_dvd (Nat.dvd_trans h3 (Nat.dvd_mul_right _ _)),Nat.add_zero,Nat.mod_mod,h1]
theorem AAq{q:Nat}(hq:Nk q):∀a,a^q%q=a%q
 |0=>by rw[Nat.zero_pow (by have:=hq.1;omega)]
 |a+1=>by
  have h1:=AAq hq a;have h2:=hq.1;rw[rA,bI,rN,Nat.one_mul,Nat.add_mod,h1];obtain⟨p,rfl⟩:∃p,q=p+1:=⟨q - 1,by omega⟩;rw[qZ hq a p (by omega),←Nat.add_mod,Nat.add_comm]
theorem Vy{q a:Nat}(hq:Nk q)(ha:¬q∣a):a^(q - 1)%q=1:=by
 have h1:=AAq hq a;have h2:=hq.1;obtain⟨p,rfl⟩:∃p,q=p+1:=⟨q - 1,by omega⟩;have ha0:0<a:=Nat.pos_of_ne_zero fun h=>ha (h▸Nat.dvd_zero _);have hp0:1≤a^p:=Nat.pow_pos ha0
 have h3:(p+1)∣a*(a^p - 1):=by
  have:=Nat.sub_mod_eq_zero_of_mod_eq h1
  rw[Nat.mul_sub,Nat.mul_one,←Nat.pow_succ'];exact Nat.dvd_of_mod_eq_zero this
 rcases hq.mul h3 with h|h
 ·exact absurd h ha
 ·obtain⟨k,hk⟩:=h
  show a^p%(p+1)=1
  rw[show a^p=1+(p+1)*k by omega,Nat.add_mul_mod_self_left,Nat.mod_eq_of_lt (by omega)]
theorem AIg{r b:Nat}:∀s t:Nat,b^s%r=1%r→b^t%r=1%r→b^(Nat.gcd s t)%r=1%r:=by
 intro s t
 induction s,t using Nat.gcd.induction with
 |H0 t=>intro _ h;rw[Nat.gcd_zero_left];exact h
 |H1 s t hs ih=>
  intro h1 h2;rw[Nat.gcd_rec];refine ih ?_ h1;have h3:b^t=(b^s)^(t/s)*b^(t%s):=by rw[←Nat.pow_mul,←Nat.pow_add,Nat.div_add_mod]
  rw[h3,Nat.mul_mod,Nat.pow_mod,h1,←Nat.pow_mod,Nat.one_pow,←Nat.mul_mod,Nat.one_mul]at h2;exact h2
theorem ASh{N a s m r:Nat}(hs:Nk s)(hm:N - 1=s*m)(h1:a^(N - 1)%N=1%N)(hg:Nat.gcd (a^m%N+(N - 1)) N=1)(hN:2≤N)(hr:Nk r)(hd:r∣N):s∣r - 1:=by
 have hr2:=hr.1;have e1:(1:Nat)%r=1:=Nat.mod_eq_of_lt (by omega)
 have ha1:a^(N - 1)%r=1%r:=by
  rw[←Nat.mod_mod_of_dvd _ hd,h1,Nat.mod_mod_of_dvd _ hd]
 have hra:¬r∣a:=fun h=>by
  have:a^(N - 1)%r=0:=Nat.mod_eq_zero_of_dvd (Nat.dvd_trans h ⟨a^(N - 2),by rw[←Nat.pow_succ'];congr 1;omega⟩)
  rw[ha1,e1]at this;omega
 by_cases hc:s∣r - 1
 ·exact hc
 ·exfalso;have h2:(a^m)^s%r=1%r:=by rw[←Nat.pow_mul,Nat.mul_comm,←hm];exact ha1
  have h3:(a^m)^(r - 1)%r=1%r:=by
   rw[←Nat.pow_mul,Nat.mul_comm,Nat.pow_mul,Nat.pow_mod,Vy hr hra,Nat.one_pow]
  have h4:=AIg _ _ h2 h3;rw[hs.cop hc,Nat.pow_one,e1]at h4
  have h5:r∣a^m%N+(N - 1):=by
   refine Nat.dvd_of_mod_eq_zero ?_;obtain⟨k,hk⟩:=hd;have h6:a^m%N%r=1:=by rw[Nat.mod_mod_of_dvd _ ⟨k,hk⟩];exact h4
   have h7:a^m%N+(N - 1)=a^m%N - 1+r*k:=by
    have:a^m%N≠0:=fun h=>by rw[h]at h6;simp at h6
    omega
   rw[h7,Nat.add_mul_mod_self_left];exact Nat.sub_mod_eq_zero_of_mod_eq (by rw[h6,e1])
  have h6:r∣1:=hg▸Nat.dvd_gcd h5 hd
  have:=Nat.le_of_dvd (by omega) h6
  omega
def Oh(N:Nat):Nat→Nat→Nat→Nat|0,_,_=>1%N|f+1,a,e=>if e=0 then 1%N else if e%2=1 then a*Oh N f (a*a%N) (e/2)%N else Oh N f (a*a%N) (e/2)
theorem Jb(N:Nat):∀f a e,e<2^f→Oh N f a e=a^e%N
 |0,a,e,h=>by
  obtain rfl:e=0:=by simpa using h
  rfl
 |f+1,a,e,h=>by
  have ih:=Jb N f (a*a%N) (e/2) (by rw[Nat.pow_succ]at h;omega)
  have hp:(a*a%N)^(e/2)%N=a^(2*(e/2))%N:=by
   rw[←Nat.pow_mod,Nat.pow_mul,Nat.pow_two]
  rw[Oh]
  split
  ·rename_i h0;subst h0;rfl
  ·split
   ·rename_i h1;rw[ih,hp]
    have:a^e=a*a^(2*(e/2)):=by rw[←Nat.pow_succ'];congr 1;omega
    rw[this,Nat.mul_mod a (a^_),Nat.mul_mod a (_%N),Nat.mod_mod]
   ·rename_i h1;rw[ih,hp]
    congr 2;omega
theorem ACd{N s r:Nat}(f a m:Nat)(hs:Nk s)(hm:N - 1=s*m)(hf:N<2^f)(h1:Oh N f a (N - 1)=1)(hg:Nat.gcd (Oh N f a m+(N - 1)) N=1)(hN:2≤N)(hr:Nk r)(hd:r∣N):s∣r - 1:=by
 have hm2:m<2^f:=by
  have:m≤s*m:=Nat.le_mul_of_pos_left m (by have:=hs.1;omega)
  omega
 rw[Jb N f a _ (by omega)]at h1;rw[Jb N f a m hm2]at hg;exact ASh hs hm (by rw[h1,Nat.mod_eq_of_lt (by omega)]) hg hN hr hd
theorem gX{N s:Nat}(f a m:Nat)(hs:Nk s)(hm:N - 1=s*m)(hf:N<2^f)(h1:Oh N f a (N - 1)=1)(hg:Nat.gcd (Oh N f a m+(N - 1)) N=1)(hN:2≤N)(hl:N<s*s):Nk N:=
 It hN fun r hr hd hl2=>by
  have h2:=Nat.le_of_dvd (by have:=hr.1;omega) (ACd f a m hs hm hf h1 hg hN hr hd);have h3:s≤r:=by omega
  have:=Nat.mul_le_mul h3 h3
  omega
theorem AEu{s t n:Nat}(hc:Nat.gcd s t=1)(h1:s∣n)(h2:t∣n):s*t∣n:=Nat.Coprime.mul_dvd_of_dvd_of_dvd hc h1 h2
theorem Sb{N s t:Nat}(f a m b l:Nat)(hs:Nk s)(ht:Nk t)(hst:Nat.gcd s t=1)(hm:N - 1=s*m)(hl:N - 1=t*l)(hf:N<2^f)(h1:Oh N f a (N - 1)=1)(hg:Nat.gcd (Oh N f a m+(N - 1)) N=1)(h1':Oh N f b (N - 1)=1)(hg':Nat.gcd (Oh N f b l+(N - 1)) N=1)(hN:2≤N)(hq:N<s*t*(s*t)):Nk N:=
 It hN fun r hr hd hl2=>by
  have h2:=Nat.le_of_dvd (by have:=hr.1;omega) (AEu hst (ACd f a m hs hm hf h1 hg hN hr hd) (ACd f b l ht hl hf h1' hg' hN hr hd));have h3:s*t≤r:=by omega
  have:=Nat.mul_le_mul h3 h3
  omega
theorem AIk:Nk 991:=Jg 31 (by decide) (by decide+kernel) (by decide)
theorem AIi:Nk 103:=Jg 10 (by decide) (by decide+kernel) (by decide)
theorem AIj:Nk 127:=Jg 11 (by decide) (by decide+kernel) (by decide)
theorem pW:Nk 569003:=Jg 754 (by decide) (by decide+kernel) (by decide)
theorem pV:Nk 430751:=Jg 656 (by decide) (by decide+kernel) (by decide)
theorem ACf:Nk 4153:=Jg 64 (by decide) (by decide+kernel) (by decide)
theorem mD:Nk 8574133:=Sb (s:=991) (t:=103) 24 2 8652 2 83244 AIk AIi (by decide+kernel) (by decide+kernel) (by decide+kernel) (by decide+kernel) (by decide+kernel) (by decide+kernel) (by decide+kernel) (by decide+kernel) (by decide+kernel) (by decide+kernel)
theorem Oj:Nk 1919519569386763:=Sb (s:=8574133) (t:=127) 51 2 223873314 2 15114327318006 mD AIj (by decide+kernel) (by decide+kernel) (by decide+kernel) (by decide+kernel) (by decide+kernel) (by decide+kernel) (by decide+kernel) (by decide+kernel) (by decide+kernel) (by decide+kernel)
theorem Yt:Nk 2773320623:=gX (s:=569003) 32 2 4874 pW (by decide+kernel) (by decide+kernel) (by decide+kernel) (by decide+kernel) (by decide+kernel) (by decide+kernel)
theorem Ve:Nk 72106336199:=gX (s:=2773320623) 37 2 26 Yt (by decide+kernel) (by decide+kernel) (by decide+kernel) (by decide+kernel) (by decide+kernel) (by decide+kernel)
theorem F4:Nk 75445702479781427272750846543864801:=Sb (s:=1919519569386763) (t:=72106336199) 116 2 39304471641247389600 2 1046311689884858398375200 Oj Ve (by decide+kernel) (by decide+kernel) (by decide+kernel) (by decide+kernel) (by decide+kernel) (by decide+kernel) (by decide+kernel) (by decide+kernel) (by decide+kernel) (by decide+kernel)
theorem Nf:Nk 31757755568855353:=Sb (s:=430751) (t:=4153) 55 2 73726481352 2 7646943310584 pV ACf (by decide+kernel) (by decide+kernel) (by decide+kernel) (by decide+kernel) (by decide+kernel) (by decide+kernel) (by decide+kernel) (by decide+kernel) (by decide+kernel) (by decide+kernel)
theorem Bo:Nk 74058212732561358302231226437062788676166966415465897661863160754340907:=Sb (s:=75445702479781427272750846543864801) (t:=31757755568855353) 236 2 981609426360740691344999861639072106 2 2331972502653487852620185443007392165117953542933313402 F4 Nf (by decide+kernel) (by decide+kernel) (by decide+kernel) (by decide+kernel) (by decide+kernel) (by decide+kernel) (by decide+kernel) (by decide+kernel) (by decide+kernel) (by decide+kernel)
theorem AX2:Nk 57896044618658097711785492504343953926634992332820282019728792003956564819949:=gX (s:=74058212732561358302231226437062788676166966415465897661863160754340907) 255 2 781764 Bo (by decide+kernel) (by decide+kernel) (by decide+kernel) (by decide+kernel) (by decide+kernel) (by decide+kernel)
def P:Nat:=57896044618658097711785492504343953926634992332820282019728792003956564819949
instance :NeZero P:=⟨by decide⟩
abbrev Fp:=Fin P
theorem xY:Nk P:=AX2
def AHc(a:Nat):Nat:=Oh P 255 a (P - 2)
def inv(a:Fp):Fp:=⟨AHc a.val,by unfold AHc;rw[Jb P 255 _ _ (by decide+kernel)];exact Nat.mod_lt _ (by decide)⟩
def dP:Fp:=⟨37095705934669439343138083508754565189542113879843219016388785533085940283555,by decide⟩
def iP:Fp:=⟨19681161376707505956807079304988542015446066515923890162744021073123829784752,by decide⟩
theorem val_mul(a b:Fp):(a*b).val=a.val*b.val%P:=Fin.val_mul a b
theorem AHy(a:Fp)(h:a≠0):a*inv a=1:=by
 have h0:a.val≠0:=fun h1=>h (Fin.ext h1)
 have hd:¬P∣a.val:=fun h1=>by
  have:=Nat.le_of_dvd (by omega) h1
  have:=a.isLt
  omega
 refine Fin.ext ?_;have h1:=Vy xY hd;rw[val_mul]
 show a.val*AHc a.val%P=1
 unfold AHc;rw[Jb P 255 _ _ (by decide+kernel),Nat.mul_mod,Nat.mod_mod,←Nat.mul_mod,←Nat.pow_succ'];exact h1
theorem AVo(t:Fp):t*t≠dP:=fun h=>by
 have h1:=congrArg Fin.val h;rw[val_mul]at h1
 have ht:¬P∣t.val:=fun hd=>by
  rw[Nat.mod_eq_zero_of_dvd (Nat.dvd_trans hd (Nat.dvd_mul_right _ _))]at h1;exact absurd h1 (by decide)
 have h2:=Vy xY ht
 have h3:(t.val*t.val%P)^((P - 1)/2)%P=1:=by
  rw[←Nat.pow_mod,←Nat.pow_two,←Nat.pow_mul];exact h2
 rw[h1,←Jb P 255 _ _ (by decide+kernel)]at h3;exact absurd h3 (by decide+kernel)
theorem fld:Q9 P inv dP where
 inv:=AHy
 one:=by decide
 two:=by decide
 i:=⟨iP,by decide+kernel⟩
 d:=AVo
abbrev OnP(p:Pt P):Prop:=On dP p
def Lo:Nat:=7237005577332262213973186563042994240857116359379907606001950938285454250989
def bP:Pt P:=⟨⟨15112221349535400772501151409588531511454012693041857206046113283949847762202,by decide⟩,⟨46316835694926478169428394003475163141307993866256225615783033603165251855960,by decide⟩⟩
theorem No:OnP bP:=by
 unfold OnP On bP dP
 decide+kernel
structure Ex (n:Nat) where
 x:Fin n
 y:Fin n
 z:Fin n
 t:Fin n
section
variable {n:Nat} [NeZero n] {inv:Fin n→Fin n} {d:Fin n}
def H8(k:Fin n)(p q:Ex n):Ex n:=
 ⟨((p.y+p.x)*(q.y+q.x) - (p.y - p.x)*(q.y - q.x))*((p.z+p.z)*q.z - k*p.t*q.t),((p.z+p.z)*q.z+k*p.t*q.t)*((p.y+p.x)*(q.y+q.x)+(p.y - p.x)*(q.y - q.x)),
  ((p.z+p.z)*q.z - k*p.t*q.t)*((p.z+p.z)*q.z+k*p.t*q.t),((p.y+p.x)*(q.y+q.x) - (p.y - p.x)*(q.y - q.x))*((p.y+p.x)*(q.y+q.x)+(p.y - p.x)*(q.y - q.x))⟩
def S2:Ex n:=⟨0,1,1,0⟩
structure uZ(p:Ex n)(q:Pt n):Prop where
 z:p.z≠0
 x:p.x=q.x*p.z
 y:p.y=q.y*p.z
 t:p.t=q.x*q.y*p.z
theorem ACk(h:Q9 n inv d):uZ (S2:Ex n) nD:=
 ⟨h.one,by simp only[S2,nD];grind(splits:=0),by simp only[S2,nD];grind(splits:=0),by simp only[S2,nD];grind(splits:=0)⟩
theorem Yw(h:Q9 n inv d){p q:Ex n}{a b:Pt n}(hp:uZ p a)(hq:uZ q b)(ha:On d a)(hb:On d b):uZ (H8 (d+d) p q) (add inv d a b):=by
 have nA:=h.nA ha hb;have nB:=h.nB ha hb;have iA:=h.inv _ nA;have iB:=h.inv _ nB;obtain⟨X1,Y1,Z1,T1⟩:=p;obtain⟨X2,Y2,Z2,T2⟩:=q;obtain⟨x1,y1⟩:=a;obtain⟨x2,y2⟩:=b;obtain⟨z1,e1,e2,e3⟩:=hp;obtain⟨z2,f1,f2,f3⟩:=hq;simp only at z1 e1 e2 e3 z2 f1 f2 f3;subst e1 e2 e3 f1 f2 f3;simp only[add,dA,dB]at*;clear ha hb;have hw:2*(Z1*Z2)≠0:=fun h0=>(h.zero h0).elim h.two fun h1=>(h.zero h1).elim z1 z2;have hE:(y1*Z1+x1*Z1)*(y2*Z2+x2*Z2) - (y1*Z1 - x1*Z1)*(y2*Z2 - x2*Z2)=2*(Z1*Z2)*(x1*y2+y1*x2):=by grind(splits:=0)
 have hH:(y1*Z1+x1*Z1)*(y2*Z2+x2*Z2)+(y1*Z1 - x1*Z1)*(y2*Z2 - x2*Z2)=2*(Z1*Z2)*(y1*y2+x1*x2):=by grind(splits:=0)
 have hF:(Z1+Z1)*Z2 - (d+d)*(x1*y1*Z1)*(x2*y2*Z2)=2*(Z1*Z2)*(1 - d*x1*x2*y1*y2):=by grind(splits:=0)
 have hG:(Z1+Z1)*Z2+(d+d)*(x1*y1*Z1)*(x2*y2*Z2)=2*(Z1*Z2)*(1+d*x1*x2*y1*y2):=by grind(splits:=0)
 unfold H8;simp only;rw[hE,hH,hF,hG];generalize 2*(Z1*Z2)=w at*;generalize inv (1+d*x1*x2*y1*y2)=u at*;generalize inv (1 - d*x1*x2*y1*y2)=v at*;generalize 1+d*x1*x2*y1*y2=A at*;generalize 1 - d*x1*x2*y1*y2=B at*;generalize x1*y2+y1*x2=X at*;generalize y1*y2+x1*x2=Y at*;refine⟨fun h0=>(h.zero h0).elim (fun h1=>(h.zero h1).elim hw nB) (fun h1=>(h.zero h1).elim hw nA),?_,?_,?_⟩
 ·show w*X*(w*B)=X*u*(w*B*(w*A))
  have:X*u*(w*B*(w*A))=X*w*(w*B)*(A*u):=by grind(splits:=0)
  rw[this,iA];grind(splits:=0)
 ·show w*A*(w*Y)=Y*v*(w*B*(w*A))
  have:Y*v*(w*B*(w*A))=Y*w*(w*A)*(B*v):=by grind(splits:=0)
  rw[this,iB];grind(splits:=0)
 ·show w*X*(w*Y)=X*u*(Y*v)*(w*B*(w*A))
  have:X*u*(Y*v)*(w*B*(w*A))=X*Y*w*w*(A*u)*(B*v):=by grind(splits:=0)
  rw[this,iA,iB];grind(splits:=0)
def tm(c:Fin n)(p:Ex n)(m:Nat):Nat→Ex n
 |0=>S2
 |k+1=>if m/2^(255 - k)%2=1 then H8 c (H8 c (tm c p m k) (tm c p m k)) p else H8 c (tm c p m k) (tm c p m k)
theorem pZ(h:Q9 n inv d){p:Ex n}{a:Pt n}(hp:uZ p a)(ha:On d a){m:Nat}(hm:m<2^256):∀k,k≤256→uZ (tm (d+d) p m k) (L9 inv d a (m/2^(256 - k)))
 |0,_=>by
  rw[Nat.div_eq_of_lt hm];exact ACk h
 |k+1,hk=>by
  have ih:=pZ h hp ha hm k (by omega);have o:=Ml h ha (m/2^(256 - k));have e0:m/2^(256 - k)=m/2^(255 - k)/2:=by rw[Nat.div_div_eq_div_mul,←Nat.pow_succ];congr 2;omega
  have e1:L9 inv d a (2*(m/2^(256 - k)))=add inv d (L9 inv d a (m/2^(256 - k))) (L9 inv d a (m/2^(256 - k))):=by rw[Nat.two_mul,S4 h ha]
  have r2:=Yw h ih ih o o;rw[←e1]at r2;rw[show 256 - (k+1)=255 - k by omega,tm]
  split
  ·rename_i hb;have r3:=Yw h r2 hp (Ml h ha _) ha;have e2:m/2^(255 - k)=2*(m/2^(256 - k))+1:=by omega
   rw[e2];exact r3
  ·rename_i hb;have e2:m/2^(255 - k)=2*(m/2^(256 - k)):=by omega
   rw[e2];exact r2
theorem AIq(h:Q9 n inv d){p:Ex n}{q:Pt n}(hr:uZ p q)(hx:p.x=0)(hy:p.y=p.z):q=nD:=by
 obtain⟨z,h1,h2,_⟩:=hr;obtain⟨x,y⟩:=q;simp only at h1 h2;have e1:x*p.z=0:=by rw[←h1,hx]
 have e2:(y - 1)*p.z=0:=by grind(splits:=0)
 have f1:=(h.zero e1).resolve_right z;have f2:=(h.zero e2).resolve_right z;simp only[nD,Pt.mk.injEq];exact⟨f1,by grind(splits:=0)⟩
end
def bE:Ex P:=⟨bP.x,bP.y,1,bP.x*bP.y⟩
theorem ASj:uZ bE bP:=⟨by decide,by unfold bE;exact(Fin.mul_one _).symm,by unfold bE;exact(Fin.mul_one _).symm,by unfold bE;exact(Fin.mul_one _).symm⟩
theorem AKf:(tm (dP+dP) bE Lo 256).x=0∧(tm (dP+dP) bE Lo 256).y=(tm (dP+dP) bE Lo 256).z:=by decide+kernel
theorem AQ9:L9 inv dP bP Lo=nD:=by
 have h:=pZ fld ASj No (m:=Lo) (by decide) 256 (Nat.le_refl _);rw[show Lo/2^(256 - 256)=Lo by rw[Nat.sub_self,Nat.pow_zero,Nat.div_one]]at h;exact AIq fld h AKf.1 AKf.2
theorem ASp(r k a:Nat):L9 inv dP bP ((k*a+r)%Lo)=add inv dP (L9 inv dP bP r) (L9 inv dP (L9 inv dP bP a) k):=AJa fld No AQ9 r k a
section
variable {n:Nat} [NeZero n] {inv:Fin n→Fin n} {d:Fin n}
theorem ACn(h:Q9 n inv d){r g x i:Fin n}(hr:r*r=x*x*g)(hg:x=0∨g*g=1)(hi:i*i= -1):r*r=x*x∨r*i*(r*i)=x*x:=by
 rcases hg with hg|hg
 ·left;rw[hr,hg];grind(splits:=0)
 ·have:(g - 1)*(g+1)=0:=by grind(splits:=0)
  rcases h.zero this with h1|h1
  ·left
   have:g=1:=by grind(splits:=0)
   rw[hr,this];grind(splits:=0)
  ·right
   have:g= -1:=by grind(splits:=0)
   have e:r*i*(r*i)=r*r*(i*i):=by grind(splits:=0)
   rw[e,hr,hi,this];grind(splits:=0)
theorem ASr(h:Q9 n inv d){r x:Fin n}(hr:r*r=x*x):r=x∨r= -x:=by
 have:(r - x)*(r+x)=0:=by grind(splits:=0)
 rcases h.zero this with h1|h1
 ·left;grind(splits:=0)
 ·right;grind(splits:=0)
theorem AX6(h:Q9 n inv d){x y:Fin n}(hq:On d ⟨x,y⟩):(y*y - 1)*inv (d*(y*y)+1)=x*x:=by
 simp only[On]at hq
 have hne:d*(y*y)+1≠0:=fun h0=>by
  obtain⟨i,hi⟩:=h.i
  by_cases hy:y=0
  ·rw[hy]at h0;exact h.one (by grind(splits:=0))
  ·have h2:=h.inv y hy;refine h.d (i*inv y) ?_;generalize inv y=v at h2
   have:i*v*(i*v)=i*i*(v*v):=by grind(splits:=0)
   rw[this,hi]
   have:-1*(v*v)=d*(y*v)*(y*v):=by
    have e:d*(y*v)*(y*v)=(d*(y*y)+1)*(v*v) - v*v:=by grind(splits:=0)
    rw[e,h0];grind(splits:=0)
   rw[this,h2];grind(splits:=0)
 have h1:=h.inv _ hne;generalize inv (d*(y*y)+1)=w at*
 have e1:(y*y - 1)*w=x*x*((d*(y*y)+1)*w):=by
  have:y*y - 1=x*x*(d*(y*y)+1):=by grind(splits:=0)
  rw[this];grind(splits:=0)
 rw[e1,h1];grind(splits:=0)
end
def La(a:Fp)(e:Nat):Fp:=⟨Oh P 256 a.val e%P,Nat.mod_lt _ (by decide)⟩
theorem Lt(a:Fp){e:Nat}(he:e<2^256):(La a e).val=a.val^e%P:=by
 show Oh P 256 a.val e%P=_
 rw[Jb P 256 _ _ he,Nat.mod_mod]
def i2:Fp:=La 2 ((P - 1)/4)
theorem AS5:i2*i2= -1:=by decide+kernel
def Cv(a:Fp):Fp:=if La a ((P+3)/8)*La a ((P+3)/8)=a then La a ((P+3)/8)else La a ((P+3)/8)*i2
theorem AIh(m:Nat):(m*m%P)^((P+3)/8)%P*((m*m%P)^((P+3)/8)%P)%P=m*m%P*(m^((P - 1)/2)%P)%P:=by
 have h1:(m*m)^((P+3)/8)=m^(2*((P+3)/8)):=by rw[Nat.pow_mul,Nat.pow_two]
 have h2:2*((P+3)/8)+2*((P+3)/8)=2+(P - 1)/2:=by decide+kernel
 rw[←Nat.pow_mod,←Nat.mul_mod,←Nat.mul_mod,h1,←Nat.pow_add,h2,Nat.pow_add,Nat.pow_two]
theorem ACm(x:Fp):Cv (x*x)*Cv (x*x)=x*x:=by
 have hr:La (x*x) ((P+3)/8)*La (x*x) ((P+3)/8)=x*x*La x ((P - 1)/2):=by
  refine Fin.ext ?_;rw[val_mul,val_mul,Lt _ (by decide+kernel),Lt _ (by decide+kernel),val_mul];exact AIh x.val
 have hg:x=0∨La x ((P - 1)/2)*La x ((P - 1)/2)=1:=by
  by_cases h0:x=0
  ·exact .inl h0
  ·right
   have hd:¬P∣x.val:=fun h1=>by
    have h2:x.val≠0:=fun h3=>h0 (Fin.ext h3)
    have:=Nat.le_of_dvd (by omega) h1
    have:=x.isLt
    omega
   refine Fin.ext ?_;rw[val_mul,Lt _ (by decide+kernel),←Nat.mul_mod,←Nat.pow_add];exact Vy xY hd
 have:=ACn fld hr hg AS5
 unfold Cv
 split
 ·rename_i h;exact h
 ·rename_i h;exact this.resolve_left h
def J7(q:Pt P):Nat:=q.y.val+2^255*(q.x.val%2)
def Cn(m:Nat):Option (Pt P):=
 if h:m%2^255<P then
  let y:Fp:=⟨m%2^255,h⟩
  let a:=(y*y - 1)*inv (dP*(y*y)+1)
  let r:=Cv a
  if r*r≠a∨(r=0∧m/2^255=1)then none
  else some ⟨if r.val%2=m/2^255 then r else -r,y⟩
 else none
theorem AI1:-(0:Fp)=0:=by decide+kernel
theorem lN{n:Nat}[NeZero n](x:Fin n):- -x=x:=by grind(splits:=0)
theorem AHz(x:Fp):- -x=x:=lN x
theorem gP{n:Nat}[NeZero n]{x:Fin n}(h:-x=0):x=0:=by grind(splits:=0)
theorem ABv{x:Fp}(h:-x=0):x=0:=gP h
theorem AIb{p v:Nat}(h3:v<p)(h5:p%2=1):(p - v)%2≠v%2:=by omega
theorem AI0{x:Fp}(h:x≠0):(-x).val%2≠x.val%2:=by
 have h1:(-x).val=(P - x.val)%P:=Fin.val_neg' x;have h2:x.val≠0:=fun h0=>h (Fin.ext h0);have h3:=x.isLt;have h4:(P - x.val)%P=P - x.val:=Nat.mod_eq_of_lt (by omega);have h5:P%2=1:=by decide
 rw[h1,h4];exact AIb h3 h5
theorem Ph{q:Pt P}(hq:OnP q):Cn (J7 q)=some q:=by
 obtain⟨x,y⟩:=q;have hx:=AX6 fld hq;have hr:=ACm x;have hy:=y.isLt;have hP:P<2^255:=by decide
 have e1:J7 ⟨x,y⟩%2^255=y.val:=by
  show(y.val+2^255*(x.val%2))%2^255=y.val
  rw[Nat.add_mul_mod_self_left,Nat.mod_eq_of_lt (by omega)]
 have e2:J7 ⟨x,y⟩/2^255=x.val%2:=by
  show(y.val+2^255*(x.val%2))/2^255=x.val%2
  rw[Nat.add_mul_div_left _ _ (by decide),Nat.div_eq_of_lt (by omega),Nat.zero_add]
 unfold Cn;rw[dif_pos (by rw[e1];exact hy)];have ey:(⟨J7 ⟨x,y⟩%2^255,by rw[e1];exact hy⟩:Fp)=y:=Fin.ext e1;simp only[ey,hx,e2,hr];have hs:=ASr fld hr;generalize Cv (x*x)=r at*
 have hbad:¬(r*r≠x*x∨r=0∧x.val%2=1):=by
  rintro(h|⟨h,h'⟩)
  ·exact h hr
  ·rw[h]at hs
   have h0:x=0:=by
    rcases hs with h1|h1
    ·exact h1.symm
    ·exact ABv h1.symm
   rw[h0]at h';exact absurd h' (by decide)
 rw[hr]at hbad;rw[if_neg hbad];refine congrArg some ?_;refine congrArg (fun z=>(⟨z,y⟩:Pt P)) ?_
 rcases hs with h|h
 ·rw[if_pos (by rw[h]),h]
 ·by_cases h0:x=0
  ·have:r=0:=by rw[h,h0];exact AI1
   rw[if_pos (by rw[this,h0]),this,h0]
  ·have h1:=AI0 h0;rw[h,if_neg h1];exact AHz x
section
variable {n:Nat} [NeZero n] {inv:Fin n→Fin n} {d:Fin n}
theorem AQi(h:Q9 n inv d)(y:Fin n):d*(y*y)+1≠0:=fun h0=>by
 obtain⟨i,hi⟩:=h.i
 by_cases hy:y=0
 ·rw[hy]at h0;exact h.one (by grind(splits:=0))
 ·have h2:=h.inv y hy;refine h.d (i*inv y) ?_;generalize inv y=v at h2
  have:i*v*(i*v)=i*i*(v*v):=by grind(splits:=0)
  rw[this,hi]
  have:-1*(v*v)=d*(y*v)*(y*v):=by
   have e:d*(y*v)*(y*v)=(d*(y*y)+1)*(v*v) - v*v:=by grind(splits:=0)
   rw[e,h0];grind(splits:=0)
  rw[this,h2];grind(splits:=0)
theorem ASb(h:Q9 n inv d){x y:Fin n}(hx:x*x=(y*y - 1)*inv (d*(y*y)+1)):On d ⟨x,y⟩:=by
 have h1:=h.inv _ (AQi h y);generalize inv (d*(y*y)+1)=w at*
 show y*y - x*x=1+d*x*x*y*y
 have e1:d*x*x*y*y=d*(y*y)*(x*x):=by grind(splits:=0)
 rw[e1,hx]
 grind(splits:=0)
theorem AIo(h:Q9 n inv d)(q:Pt n):uZ (⟨q.x,q.y,1,q.x*q.y⟩:Ex n) q:=⟨h.one,by grind(splits:=0),by grind(splits:=0),by grind(splits:=0)⟩
theorem AIp(h:Q9 n inv d){p:Ex n}{q:Pt n}(hr:uZ p q):p.x*inv p.z=q.x∧p.y*inv p.z=q.y:=by
 obtain⟨z,hx,hy,_⟩:=hr;have h1:=h.inv _ z;rw[hx,hy];generalize inv p.z=w at*;exact⟨by grind(splits:=0),by grind(splits:=0)⟩
theorem ANn(x:Fin n):-x*-x=x*x:=by grind(splits:=0)
end
theorem fD{m:Nat}{q:Pt P}(h:Cn m=some q):OnP q:=by
 unfold Cn at h
 split at h
 ·rename_i hy
  dsimp only at h
  split at h
  ·cases h
  ·rename_i hb;generalize hr:Cv _=r at h hb;have hb:r*r=(⟨m%2^255,hy⟩*⟨m%2^255,hy⟩ - 1)*inv (dP*(⟨m%2^255,hy⟩*⟨m%2^255,hy⟩)+1):=Classical.not_not.mp fun h0=>hb (.inl h0)
   cases h
   refine ASb fld ?_
   split
   ·exact hb
   ·rw[ANn];exact hb
 ·cases h
def Lk(q:Pt P):Ex P:=⟨q.x,q.y,1,q.x*q.y⟩
def Ma(p:Ex P):Nat:=J7 ⟨p.x*inv p.z,p.y*inv p.z⟩
theorem jU{p:Ex P}{q:Pt P}(h:uZ p q):Ma p=J7 q:=by
 have:=AIp fld h
 unfold Ma;rw[this.1,this.2]
theorem Yv(q:Pt P):uZ (Lk q) q:=AIo fld q
theorem AOq{q:Pt P}(hq:OnP q){m:Nat}(hm:m<2^256):uZ (tm (dP+dP) (Lk q) m 256) (L9 inv dP q m):=by
 have h:=pZ fld (Yv q) hq hm 256 (Nat.le_refl _);rw[Nat.sub_self,Nat.pow_zero,Nat.div_one]at h;exact h
theorem iI{q:Pt P}(hq:OnP q){m:Nat}(hm:m<2^256):Ma (tm (dP+dP) (Lk q) m 256)=J7 (L9 inv dP q m):=jU (AOq hq hm)
def Mw(m:Nat):Nat:=Ma (tm (dP+dP) (Lk bP) m 256)
def Ir(m a:Nat):Option Nat:=(Cn a).map fun q=>Ma (tm (dP+dP) (Lk q) m 256)
def Hc(a b:Nat):Option Nat:=(Cn a).bind fun p=>(Cn b).map fun q=>Ma (H8 (dP+dP) (Lk p) (Lk q))
def Qw(pub k first s:Nat):Bool:=decide (s<Lo)&&(Cn pub).isSome&&(Cn first).isSome&&decide ((Ir k pub).bind (Hc first)=some (Mw s))
theorem X8{m:Nat}(hm:m<2^256):Mw m=J7 (L9 inv dP bP m):=iI No hm
theorem Ra{q:Pt P}(hq:OnP q)(m:Nat):Cn (J7 (L9 inv dP q m))=some (L9 inv dP q m):=Ph (Ml fld hq m)
theorem AEf{p q:Pt P}(hp:OnP p)(hq:OnP q):Hc (J7 p) (J7 q)=some (J7 (add inv dP p q)):=by
 unfold Hc;rw[Ph hp,Ph hq];exact congrArg some (jU (Yw fld (Yv p) (Yv q) hp hq))
theorem yO{a k b:Nat}{p q:Pt P}(hk:k<2^256)(ha:Cn a=some p)(hb:Cn b=some q):∃x r,Ir k b=some x∧Cn x=some r∧Hc a x=some (Ma (H8 (dP+dP) (Lk p) (Lk r))):=by
 refine⟨_,_,by unfold Ir;rw[hb];rfl,(congrArg Cn (iI (fD hb) hk)).trans (Ra (fD hb) k),?_⟩;unfold Hc;rw[ha,iI (fD hb) hk,Ra (fD hb) k];rfl
theorem ACu{m k r:Nat}(hm:m<2^256)(hk:k<2^256)(hr:r<2^256):Qw (Mw m) k (Mw r) ((k*m+r)%Lo)=true:=by
 have hl:(k*m+r)%Lo<Lo:=Nat.mod_lt _ (by decide);have hL:Lo<2^256:=by decide
 have hs:(k*m+r)%Lo<2^256:=Nat.lt_trans hl hL;have om:=Ml fld No m;have ork:=Ml fld No r
 have h1:Ir k (J7 (L9 inv dP bP m))=some (J7 (L9 inv dP (L9 inv dP bP m) k)):=by
  unfold Ir;rw[Ra No];exact congrArg some (iI om hk)
 have h2:(Ir k (J7 (L9 inv dP bP m))).bind (Hc (J7 (L9 inv dP bP r)))=some (J7 (L9 inv dP bP ((k*m+r)%Lo))):=by
  rw[h1,ASp];exact AEf ork (Ml fld om k)
 unfold Qw;rw[X8 hm,X8 hr,X8 hs,h2,Ra No,Ra No,decide_eq_true hl];simp
end Go.EE
