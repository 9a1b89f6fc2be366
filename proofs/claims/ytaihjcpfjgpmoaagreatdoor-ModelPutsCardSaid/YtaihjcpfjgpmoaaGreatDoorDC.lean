/- Part of the claim ModelPuts: D34, D35, D36, D37, D38, D39, D40, D41, D42, D43, D44, D45, D46, D47, D48, D49, D50, D51. -/
import Derived.Lib.BytesEntry
import Derived.Lib.Overlaps
import Derived.RangeFuncNested
import Derived.RangeFuncCalls
import Derived.RangeFuncLeaves
import Derived.WalkKit
import Derived.OwnWalkIn
import Derived.TacticsInMore
import Derived.LoopNIn
import Derived.LoopIn
import Derived.Deep.Slices
import Derived.ChangeArms
import Derived.OpenShut
import Derived.Test.YtaihjcpfjgpmoaaGreatDoorDB
set_option linter.unusedVariables false
set_option linter.unusedSimpArgs false
set_option maxRecDepth 100000
namespace Go.DD
open Go.RowKit
structure Ld(v v':V):Prop where
 t:∀E x,T E v x→T E v' x
 o:own v→own v'
theorem Ld.refl(v:V):Ld v v:=⟨fun _ _ h=>h,id⟩
theorem Ld.of{v v':V}(h:v=v'):Ld v v':=h▸Ld.refl v
theorem Ld.imm{l:Bool}{sz n:Nat}{f g:Nat→V}(h:∀k,k<n→f k=g k):Ld (.imm l sz n f) (.imm l sz n g):=
 ⟨fun E x hT=>Ke h hT,fun ho=>by
  cases l
  ·simp only[own]at ho⊢;exact fun k hk=>h k hk▸ho k hk
  ·simp only[own]at ho⟩
theorem Ld.row{sz n:Nat}{f g:Nat→V}(h:∀k,k<n→f k=g k):Ld (.row sz n f) (.row sz n g):=
 ⟨fun E x hT=>Ui h hT,fun ho=>by
  simp only[own]at ho⊢;exact fun k hk=>h k hk▸ho k hk⟩
theorem Ld.emp{sz:Nat}{f:Nat→V}:Ld .emp (.imm false sz 0 f):=⟨fun E x hT=>Sw hT,fun _=>by simp only[own];exact fun k hk=>absurd hk (by omega)⟩
theorem CP.ld{P:Program}{gl:List (Nat×V)}{f:Nat}{xs:List V}{Φ:V→Prop}{v':V}(hc:CP P gl f xs (fun v=>Ld v v'))(h:Φ v'):CP P gl f xs Φ:=
 fun E args hw hN hK hgl hT=>Jk.mono (hc E args hw hN hK hgl hT) fun x w' ⟨E',v,e1,e2,e3,e4,e5,e6⟩=>⟨E',v',e1,e2,e3,e6.t _ _ e4,e6.o e5,h⟩
theorem Fz {P:Program} {gl:List (Nat×V)} {n:Nat} {α:Type} {args:α→List V} {pre:α→Prop} {res:α→V}
  (h:∀a,pre a→CP P gl n (args a) (fun v=>Ld v (res a))):FOk P gl n (Iq args pre res):=Bj fun a hp Φ hr=>CP.ld (h a hp) hr
inductive By where
 |nil
 |imm (b:Bool) (n:Nat) (f:Nat→V)
 |of (b:Bool) (l:List UInt8)
def By.v:By→V| .nil=> .emp| .imm b n f=> .imm b 1 n f| .of b l=>Bl b l
def By.ok:By→Prop| .nil=>True| .imm _ n f=>∀k,k<n→Y9 (f k)| .of _ _=>True
def By.l:By→List UInt8| .nil=>[]| .imm _ n f=>bytesOf n f| .of _ l=>l
def By.b:By→Bool| .nil=>false| .imm b _ _=>b| .of b _=>b
theorem By.T{E:Env}{a:By}{x:Value}(h:a.ok)(hT:T E a.v x):T E (Bl a.b a.l) x:=by
 cases a with
 |nil=>exact Sw hT
 |of b l=>exact hT
 |imm b n f=>
  simp only[By.b,By.l,Bl,Eb];exact Ke (fun k hk=>(nZ hk (h k hk)).symm) hT
theorem CP.by1{P:Program}{gl:List (Nat×V)}{f:Nat}{a:By}{Φ:V→Prop}{l:List V}(h:a.ok)(hc:CP P gl f (Bl a.b a.l::l) Φ):CP P gl f (a.v::l) Φ:=
 CP.le (fun E m hT=>by
  cases m with
  |nil=>exact hT
  |cons x m=>exact⟨By.T h hT.1,hT.2⟩) hc
theorem CP.by2{P:Program}{gl:List (Nat×V)}{f:Nat}{a:By}{Φ:V→Prop}{v:V}{l:List V}(h:a.ok)(hc:CP P gl f (v::Bl a.b a.l::l) Φ):CP P gl f (v::a.v::l) Φ:=
 CP.le (fun E m hT=>by
  match m,hT with
  |x::y::m,hT=>exact⟨hT.1,By.T h hT.2.1,hT.2.2⟩) hc
theorem Em(l:List UInt8)(o n:Nat)(h:o+n≤l.length):bytesOf n (fun k=>bf l (o+k))=(l.drop o).take n:=by
 apply List.ext_getElem?
 intro k;simp only[bytesOf,List.getElem?_map,uK]
 by_cases hk:k<n
 ·rw[List.getElem?_range hk,List.getElem?_take_of_lt hk,List.getElem?_drop];simp[List.getD_eq_getElem?_getD,show o+k<l.length by omega]
 ·rw[List.getElem?_eq_none (by simpa using hk),List.getElem?_eq_none (by simp;omega)];rfl
mutual
def Ev(f:Nat→Nat):V→V
 | .ref i p=> .ref (f i) p
 | .rref i p sz lo n=> .rref (f i) p sz lo n
 | .sl i p sz lo len cap=> .sl (f i) p sz lo len cap
 | .slx i sz lo len cap=> .slx (f i) sz lo len cap
 | .st l=> .st (Hl f l)
 | .fn g l=> .fn g (Hl f l)
 | .iface t v=> .iface t (Ev f v)
 | .tup l=> .tup (Hl f l)
 | .row sz n g=> .row sz n g
 | .pim l v=> .pim l v
 | .imm l sz n g=> .imm l sz n g
 | .int k n=> .int k n
 | .tt=> .tt
 | .ff=> .ff
 | .bool b=> .bool b
 | .str s=> .str s
 | .nilp=> .nilp
 | .emp=> .emp
 | .nilf=> .nilf
 | .nili=> .nili
 | .any=> .any
def Hl(f:Nat→Nat):Vs→Vs
 | .nil=> .nil
 | .cons v l=> .cons (Ev f v) (Hl f l)
end
mutual
def Hf:V→Prop
 | .row _ n g=>∀k,k<n→Br (g k)
 | .st l=>Ie l
 | .fn _ l=>Ie l
 | .iface _ v=>Hf v
 | .tup l=>Ie l
 |_=>True
def Ie:Vs→Prop
 | .nil=>True
 | .cons v l=>Hf v∧Ie l
end
mutual
theorem Du(f:Nat→Nat):∀v:V,(Ev f v).isAgg=v.isAgg∧A6 (Ev f v)=A6 v∧(Ev f v).isTup=v.isTup
 | .ref .. | .rref .. | .sl .. | .slx .. | .tup _| .row .. | .pim .. | .imm .. | .int .. | .tt| .ff| .bool _| .str _| .nilp| .emp| .nilf| .nili| .any| .fn .. | .iface .. =>by
  simp[Ev,V.isAgg,A6,V.isTup]
 | .st l=>by simp only[Ev,A6];exact⟨rfl,(Kz f l).1,rfl⟩
theorem Kz(f:Nat→Nat):∀l:Vs,Au (Hl f l)=Au l∧(Hl f l).flat=l.flat
 | .nil=>by simp[Hl]
 | .cons v l=>by
  obtain⟨h1,h2,h3⟩:=Du f v;obtain⟨h4,h5⟩:=Kz f l;simp only[Hl,Au,Vs.flat,h1,h2,h3,h4,h5];exact⟨trivial,trivial⟩
end
structure Hp(f:Nat→Nat)(E E':Env):Prop where
 w:E'.w=E.w
 S:∀b,E.S b→E'.S b
 L:∀b,E.L b→E'.L b
 lt:∀i,i<E.N→f i<E'.N
 ρ:∀i,i<E.N→E'.ρ (f i)=E.ρ i
 vt:∀i,i<E.N→E'.vt (f i)=E.vt i
theorem Hp.lee{f:Nat→Nat}{E E':Env}(h:Hp f E E'):uV false E E':=⟨h.w,h.S,fun _=>h.L⟩
mutual
theorem iZ{f:Nat→Nat}{E E':Env}(h:Hp f E E'):∀(v:V) (c:Nat→Option Value) (o:Nat),Hf v→R E v c o→R E' (Ev f v) c o
 | .ref i p,c,o,_,hr=>by
  simp only[R,Ev]at hr⊢;exact⟨h.lt i hr.1,by rw[h.ρ i hr.1];exact hr.2⟩
 | .rref i p sz lo n,c,o,_,hr=>by
  simp only[R,Ev]at hr⊢;exact⟨h.lt i hr.1,by rw[h.ρ i hr.1];exact hr.2⟩
 | .sl i p sz lo len cap,c,o,_,hr=>by
  simp only[R,Ev]at hr⊢;obtain⟨hi,a,cp,h1,h2,h3,h4⟩:=hr;refine⟨h.lt i hi,a,cp,h1,h2,h3,?_⟩;rw[h.ρ i hi,h.vt i hi,h.w];exact h4
 | .slx i sz lo len cap,c,o,_,hr=>by
  simp only[R,Ev]at hr⊢;obtain⟨hi,a,h1,h2,h4⟩:=hr;refine⟨h.lt i hi,a,h1,h2,?_⟩;rw[h.ρ i hi,h.vt i hi,h.w];exact h4
 | .st l,c,o,hk,hr=>by
  simp only[R,Ev,Hf]at hk hr⊢;exact nM h l c o hk hr
 | .fn g l,c,o,hk,hr=>by
  simp only[R,Ev,Hf]at hk hr⊢;obtain⟨xs,h1,h2,h3,h4⟩:=hr;exact⟨xs,h1,by rw[(Kz f l).1];exact h2,by rw[(Kz f l).2];exact h3,nM h l _ _ hk h4⟩
 | .iface t v,c,o,hk,hr=>by
  simp only[R,Ev,Hf]at hk hr⊢;obtain⟨x,h1,h2,h3⟩:=hr;refine⟨x,h1,?_,iZ h v _ _ hk h3⟩;unfold Cu at h2⊢;rw[(Du f v).1,(Du f v).2.1];exact h2
 | .tup _,c,o,_,hr=>by simp only[R]at hr
 | .row sz n g,c,o,hk,hr=>by
  simp only[Ev,Hf]at hk⊢;refine Fk h.lee (.row sz n g) c o ?_ hr;simp only[Br];exact hk
 | .pim l v,c,o,_,hr=>by simp only[Ev];exact Fk h.lee (.pim l v) c o (by simp only[Br]) hr
 | .imm l sz n g,c,o,_,hr=>by simp only[Ev];exact Fk h.lee (.imm l sz n g) c o (by simp only[Br]) hr
 | .int ..,c,o,_,hr| .tt,c,o,_,hr| .ff,c,o,_,hr| .bool _,c,o,_,hr| .str _,c,o,_,hr| .nilp,c,o,_,hr| .emp,c,o,_,hr| .nilf,c,o,_,hr| .nili,c,o,_,hr| .any,c,o,_,hr=>by
  simp only[Ev,R]at hr⊢;exact hr
theorem nM{f:Nat→Nat}{E E':Env}(h:Hp f E E'):∀(l:Vs) (c:Nat→Option Value) (o:Nat),Ie l→RL E l c o→RL E' (Hl f l) c o
 | .nil,c,o,_,_=>by simp only[Hl,RL]
 | .cons v l,c,o,hk,hr=>by
  simp only[Hl,RL,Ie]at hk hr⊢;exact⟨iZ h v c o hk.1 hr.1,by rw[(Du f v).2.1];exact nM h l c _ hk.2 hr.2⟩
end
theorem cW(f:Nat→Nat):∀(l:Vs) (k:Nat),(Hl f l).get k=Ev f (l.get k)
 | .nil,k=>by simp only[Hl,Vs.get,Ev]
 | .cons v l,0=>by simp only[Hl,Vs.get]
 | .cons v l,k+1=>by simp only[Hl,Vs.get];exact cW f l k
theorem cX(f:Nat→Nat):∀(l:Vs),(Hl f l).len=l.len
 | .nil=>by simp only[Hl]
 | .cons v l=>by simp only[Hl,Vs.len,cX f l]
theorem mG:∀{l:Vs} {k:Nat},Ie l→Hf (l.get k)
 | .nil,k,_=>by simp only[Vs.get,Hf]
 | .cons v l,0,h=>by simp only[Vs.get];simp only[Ie]at h;exact h.1
 | .cons v l,k+1,h=>by simp only[Vs.get];simp only[Ie]at h;exact mG h.2
theorem AK4{f:Nat→Nat}{E E':Env}(h:Hp f E E'){v:V}{x:Value}(hk:Hf v)(ht:T E v x):T E' (Ev f v) x:=by
 by_cases htu:v.isTup=true
 ·cases v<;>simp[V.isTup]at htu
  rename_i l;simp only[Ev,Hf]at hk⊢;obtain⟨xs,h1,h2,h3⟩:=ht;refine⟨xs,h1,by rw[cX];exact h2,fun k y hy=>?_⟩;rw[cW];have h4:=h3 k y hy;have h5:=mG (k:=k) hk;generalize l.get k=u at h4 h5⊢
  have key:(u.isTup=false∧Cu u y∧R E u (fun q=>y.cells[q]?) 0)→(Ev f u).isTup=false∧Cu (Ev f u) y∧R E' (Ev f u) (fun q=>y.cells[q]?) 0:=fun h6=>
   ⟨by rw[(Du f u).2.2];exact h6.1,by have:=h6.2.1;unfold Cu at this⊢;rw[(Du f u).1,(Du f u).2.1];exact this,iZ h u _ _ h5 h6.2.2⟩
  cases u<;>first|trivial|exact key h4
 ·by_cases ha:v= .any
  ·subst ha;trivial
  have hv:Cu v x∧R E v (fun q=>x.cells[q]?) 0:=by
   cases v<;>first|exact ht|exact absurd rfl ha|simp[V.isTup]at htu
  have:Cu (Ev f v) x∧R E' (Ev f v) (fun q=>x.cells[q]?) 0:=⟨by have:=hv.1;unfold Cu at this⊢;rw[(Du f v).1,(Du f v).2.1];exact this,iZ h v _ _ hk hv.2⟩
  cases v<;>first|exact this|exact absurd rfl ha|simp[V.isTup]at htu
def M6(n:Nat)(m:List (Option Nat))(q:Nat):Nat:=match Ln m q with|some (some j)=>j|_=>n+q
def gZ(f:Nat→Nat):Option V→Option V|none=>none|some v=>some (Ev f v)
def Iu(f:Nat→Nat)(h:Ae):List (Option Nat)→Ae→Ae
 |some j::m,v::k=>Iu f (h.set j (gZ f v)) m k
 |none::m,_::k=>Iu f h m k
 |_,_=>h
def Dp(f:Nat→Nat):List (Option Nat)→Ae→Ae
 |some _::m,_::k=>none::Dp f m k
 |none::m,v::k=>gZ f v::Dp f m k
 |[],v::k=>gZ f v::Dp f [] k
 |_,[]=>[]
def AEh:Ae→Ae→Ae|[],k=>k|v::h,k=>v::AEh h k
def Qo(h:Ae)(m:List (Option Nat))(k:Ae):Ae:=AEh (Iu (M6 (Ar h) m) h m k) (Dp (M6 (Ar h) m) m k)
theorem eI:∀(h k:Ae),AEh h k=h++k|[],_=>rfl|_::h,k=>by simp[AEh,eI h k]
theorem Ew(f:Nat→Nat):∀(m:List (Option Nat)) (h k:Ae),(Iu f h m k).length=h.length
 |some j::m,h,v::k=>by simp only[Iu];rw[Ew f m];simp
 |none::m,h,v::k=>by simp only[Iu];exact Ew f m h k
 |[],h,[]|[],h,_::_|some _::_,h,[]|none::_,h,[]=>by simp only[Iu]
theorem H6(f:Nat→Nat):∀(m:List (Option Nat)) (k:Ae),(Dp f m k).length=k.length
 |some j::m,v::k=>by simp[Dp,H6 f m k]
 |none::m,v::k=>by simp[Dp,H6 f m k]
 |[],v::k=>by simp[Dp,H6 f [] k]
 |[],[]|some _::_,[]|none::_,[]=>by simp[Dp]
theorem Kx(f:Nat→Nat):∀(m:List (Option Nat)) (k:Ae) (q:Nat) (v:V),(Dp f m k)[q]?=some (some v)→∃u,k[q]?=some (some u)∧v=Ev f u∧∀j,m[q]?≠some (some j)
 |some j::m,x::k,0,v,h=>by simp[Dp]at h
 |some j::m,x::k,q+1,v,h=>by simpa using Kx f m k q v (by simpa[Dp]using h)
 |none::m,x::k,0,v,h=>by
  simp[Dp]at h
  cases x with
  |none=>simp[gZ]at h
  |some u=>simp[gZ]at h;exact⟨u,by simp,h.symm,by simp⟩
 |none::m,x::k,q+1,v,h=>by simpa using Kx f m k q v (by simpa[Dp]using h)
 |[],x::k,0,v,h=>by
  simp[Dp]at h
  cases x with
  |none=>simp[gZ]at h
  |some u=>simp[gZ]at h;exact⟨u,by simp,h.symm,by simp⟩
 |[],x::k,q+1,v,h=>by simpa using Kx f [] k q v (by simpa[Dp]using h)
 |[],[],q,v,h|some _::_,[],q,v,h|none::_,[],q,v,h=>by simp[Dp]at h
theorem Qr(f:Nat→Nat):∀(m:List (Option Nat)) (h k:Ae) (i:Nat) (v:V),m.length≤k.length→J0 m=true→(Iu f h m k)[i]?=some (some v)→
  (∃(q:Nat) (u:V),m[q]?=some (some i)∧k[q]?=some (some u)∧v=Ev f u)∨(h[i]?=some (some v)∧∀q:Nat,m[q]?≠some (some i))
 |[],h,k,i,v,_,_,hg=>by
  have:(Iu f h [] k)=h:=by cases k<;>simp only[Iu]
  rw[this]at hg;exact .inr ⟨hg,by simp⟩
 |x::m,h,[],i,v,hl,_,hg=>by simp at hl
 |none::m,h,x::k,i,v,hl,hd,hg=>by
  simp only[Iu]at hg
  rcases Qr f m h k i v (by simpa using hl) (by simpa[J0]using hd) hg with⟨q,u,h1,h2,h3⟩|⟨h1,h2⟩
  ·exact .inl ⟨q+1,u,by simpa using h1,by simpa using h2,h3⟩
  ·refine .inr ⟨h1,fun q=>?_⟩
   cases q with
   |zero=>simp
   |succ q=>simpa using h2 q
 |some j::m,h,x::k,i,v,hl,hd,hg=>by
  simp only[Iu]at hg;have hd':J0 m=true:=by simp only[J0,Bool.and_eq_true]at hd;exact hd.2
  rcases Qr f m _ k i v (by simpa using hl) hd' hg with⟨q,u,h1,h2,h3⟩|⟨h1,h2⟩
  ·exact .inl ⟨q+1,u,by simpa using h1,by simpa using h2,h3⟩
  ·rw[List.getElem?_set]at h1
   split at h1
   ·rename_i hji;subst hji
    split at h1
    ·cases x with
     |none=>simp[gZ]at h1
     |some u=>simp[gZ]at h1;exact .inl ⟨0,u,by simp,by simp,h1.symm⟩
    ·cases h1
   ·rename_i hji;refine .inr ⟨h1,fun q=>?_⟩
    cases q with
    |zero=>simpa using hji
    |succ q=>simpa using h2 q
theorem Mg{h:Ae}{m:List (Option Nat)}{k:Ae}{i:Nat}{v:V}(hl:m.length≤k.length)(hd:J0 m=true)(hm:∀q j:Nat,m[q]?=some (some j)→j<h.length)(hg:(Qo h m k)[i]?=some (some v)):
  (∃(q:Nat) (u:V),k[q]?=some (some u)∧v=Ev (M6 (Ar h) m) u∧i=M6 (Ar h) m q)∨(i<h.length∧h[i]?=some (some v)∧∀q:Nat,m[q]?≠some (some i)):=by
 unfold Qo at hg;rw[eI]at hg
 rcases Nat.lt_or_ge i h.length with hi|hi
 ·rw[List.getElem?_append_left (by rw[Ew];exact hi)]at hg
  rcases Qr _ m h k i v hl hd hg with⟨q,u,h1,h2,h3⟩|h1
  ·exact .inl ⟨q,u,h2,h3,by unfold M6;rw[Dn,h1]⟩
  ·exact .inr ⟨hi,h1⟩
 ·rw[List.getElem?_append_right (by rw[Ew];exact hi),Ew]at hg;obtain⟨u,h1,h2,h3⟩:=Kx _ m k _ v hg;refine .inl ⟨i - h.length,u,h1,h2,?_⟩;unfold M6;rw[Dn,Az]
  split
  ·rename_i j hj;exact absurd hj (h3 j)
  ·omega
def Wc(m:List (Option Nat)):List V→List V→Prop
 |[],[]=>True
 |v::l,v'::l'=>leS m v v'∧Wc m l l'
 |_,_=>False
theorem pJ{E:Env}{m:List (Option Nat)}:∀(l l':List V) (xs:List Value),Wc m l l'→Ts E l xs→Ts (E.ren m) l' xs
 |[],[],[],_,_=>trivial
 |v::l,v'::l',x::xs,h,ht=>⟨sU h.1 ht.1,pJ l l' xs h.2 ht.2⟩
 |[],_::_,_,h,_|_::_,[],_,h,_=>h.elim
 |[],[],_::_,_,ht|_::_,_::_,[],_,ht=>ht.elim
def mOk(n:Nat):List (Option Nat)→Bool|[]=>true|some j::m=>Nat.blt j n&&mOk n m|none::m=>mOk n m
theorem gL:∀{n:Nat} {m:List (Option Nat)} {q j:Nat},mOk n m=true→m[q]?=some (some j)→j<n
 |_,[],q,j,_,h=>by simp at h
 |n,some x::m,0,j,h,hq=>by simp[mOk]at h;simp at hq;omega
 |n,some x::m,q+1,j,h,hq=>by simp[mOk]at h;exact gL h.2 (by simpa using hq)
 |n,none::m,0,j,h,hq=>by simp at hq
 |n,none::m,q+1,j,h,hq=>gL (by simpa[mOk]using h) (by simpa using hq)
def pB(S:Ai):Ai:=fun xs h κ=>∃m ys hc,(J0 m&&mOk (Ar h) m)=true∧Wc m xs ys∧iT m h m hc∧
 S ys hc (fun v k=>m.length≤k.length∧Hf v∧(∀u,some u∈k→Hf u)∧κ (Ev (M6 (Ar h) m) v) (Qo h m k))
section
variable {P:Program} {gl:List (Nat×V)}
theorem nO{E E':Env}(hw:Wf E)(hx:F6 E E'):∀{l:List V} {xs:List Value},Ts E l xs→Ts E' l xs
 |[],[],_=>trivial
 |_::_,_::_,ht=>⟨qU hw hx ht.1,nO hw hx ht.2⟩
 |[],_::_,ht|_::_,[],ht=>ht.elim
theorem AHi{E:Env}{h:Ae}{m:List (Option Nat)}{hc:Ae}(hw:Wf E)(hs:B8 E h)(hd:J0 m=true)(hl:iT m h m hc):B8 (E.ren m) hc:=by
 let Γ:Fu:=⟨[],[],[],[],0,0,[],false⟩
 have hsim:Nh Γ E ⟨fun _=> .any,h⟩ {tmps:=#[],defers:=[]}:={wf:=hw,heap:=hs,tmp:=fun _=>trivial,size:=rfl,defers:=rfl,gl:=fun p hp=>by cases hp};have hle:Le Γ.n0 m ⟨fun _=> .any,h⟩ [] hc:=⟨trivial,hl,by simp only[hd,Bool.true_and];rfl⟩;exact(hle.sim hsim (Nat.zero_le _)).2.heap
theorem lA{f:Nat}{S:Ai}(hS:Af P gl f S):Af P gl f (pB S):=by
 constructor
 ·rintro as h κ κ' hk ⟨m,ys,hc,h1,h2,h3,h4⟩
  exact⟨m,ys,hc,h1,h2,h3,hS.1 _ _ _ _ (fun v k h5=>⟨h5.1,h5.2.1,h5.2.2.1,hk _ _ h5.2.2.2⟩) h4⟩
 ·rintro E h as args κ hw hs hgl hts ⟨m,ys,hc,h1,h2,h3,h4⟩
  simp only[Bool.and_eq_true]at h1;obtain⟨hd,hmo⟩:=h1;have hlN:Ar h=E.N:=by rw[Az,hs.len]
  have hm:∀q j:Nat,m[q]?=some (some j)→j<h.length:=fun q j hq=>by rw[←Az];exact gL hmo hq
  let Kc:Nat→Prop:=fun b=>E.K b∨∃(i:Nat) (v:V),h[i]?=some (some v)∧E.vt i=false∧(∀q:Nat,m[q]?≠some (some i))∧b=E.ρ i
  let Ec:Env:={E.ren m with K:=Kc}
  have hwr:Wf (E.ren m):=⟨hw.S,hw.L,hw.K⟩
  have hKc:∀b,Kc b→b<E.w.heap.size:=fun b hb=>by
   rcases hb with hb|⟨i,v,h5,h6,_,rfl⟩
   ·exact hw.K b hb
   ·rcases hs.live i v h5 with⟨h7,_⟩|⟨_,_,cs,t,h9,_⟩
    ·rw[h6]at h7;cases h7
    ·exact(Array.getElem?_eq_some_iff.1 h9).1
  have hwc:Wf Ec:=⟨fun b hb=> .inl (hw.S b hb),fun b hb=> .inl (hw.L b hb),hKc⟩
  have hxc:F6 (E.ren m) Ec:={
   os:=rfl,tape:=rfl,output:=rfl,size:=Nat.le_refl _,N:=Nat.le_refl _,ρ:=fun _ _=>rfl,vt:=fun _ _=>rfl
   S:=fun _ hb=>hb,S':=fun _ hb=> .inl hb,L:=fun _=>Iff.rfl,K:=fun _ hb=> .inl hb,kept:=fun _ _=>rfl
   cells:=fun b cs t fr hb=>⟨cs,fr,hb,rfl⟩}
  have hsr:=AHi hw hs hd h3;obtain⟨hmlen,hmget⟩:=Ku h3
  have hold:∀{q j:Nat},m[q]?=some (some j)→(E.ren m).ρ q=E.ρ j∧(E.ren m).vt q=E.vt j:=fun hq=>by
   have:=Env.ren_old (E:=E) (m:=m) (by rw[Dn];exact hq)
   exact⟨this.1,this.2.1⟩
  have hsc:B8 Ec hc:=by
   refine⟨hsr.len,fun q v hq=>?_,hsr.inj⟩
   rcases hsr.live q v hq with h5|⟨h5,h6,cs,t,h7,h8,h9⟩
   ·exact .inl h5
   ·refine .inr ⟨h5,?_,cs,t,h7,h8,Gu hwr hxc _ _ _ h9⟩
    rintro(hb|⟨i,u,e1,e2,e3,e4⟩)
    ·exact h6 hb
    ·rcases hmget q v hq with⟨e5,_⟩|⟨j,u',e5,e6,_⟩
     ·have:(E.ren m).vt q=true:=by simp[Env.ren,gJ,Dn,e5]
      rw[this]at h5;cases h5
     ·obtain⟨e7,e8⟩:=hold e5;refine hs.inj i j u u' e1 e6 (fun e=>e3 q (e▸e5)) e2 (by rw[←e8];exact h5) ?_;rw[←e4];exact e7
  have hglc:GlOk gl Ec:=fun p hp=>⟨(hgl p hp).1,Hx (E:=E) (E':=Ec) ⟨rfl,fun _ hb=>hb,fun _ _ hb=>hb⟩ _ _ _ (hgl p hp).2⟩;have htsc:Ts Ec ys args.toList:=nO hwr hxc (pJ _ _ _ h2 hts);refine Jk.mono (hS.2 Ec hc ys args _ hwc hsc hglc htsc h4) fun x w' ⟨E',v,k,e1,e2,e3,e4,e5,hkl,hrv,hrk,hκ⟩=>?_;have hkN:k.length=E'.N:=e4.len
  let E2:Env:={w:=E'.w,ρ:=fun i=>if i<E.N then E.ρ i else E'.ρ (i - E.N),vt:=fun i=>if i<E.N then E.vt i else E'.vt (i - E.N),N:=E.N+E'.N,S:=E'.S,L:=E.L,K:=fun b=>E.K b∨E'.S b}
  have hEcN:Ec.N=m.length:=rfl
  have hels:Hp (M6 (Ar h) m) E' E2:=by
   refine⟨rfl,fun _ hb=>hb,fun b hb=>(e2.L b).1 hb,fun q hq=>?_,fun q hq=>?_,fun q hq=>?_⟩;all_goals(unfold M6;rw[Dn,hlN];split)
   ·rename_i j hj;have:=hm q j hj;rw[hs.len]at this;show j<E.N+E'.N;omega
   ·show E.N+q<E.N+E'.N;omega
   ·rename_i j hj;have h5:=hm q j hj;rw[hs.len]at h5
    show(if j<E.N then E.ρ j else _)=_
    rw[if_pos h5,e2.ρ q (by rw[hEcN];exact(List.getElem?_eq_some_iff.1 hj).1)];exact(hold hj).1.symm
   ·show(if E.N+q<E.N then _ else E'.ρ (E.N+q - E.N))=_
    rw[if_neg (by omega),Nat.add_sub_cancel_left]
   ·rename_i j hj;have h5:=hm q j hj;rw[hs.len]at h5
    show(if j<E.N then E.vt j else _)=_
    rw[if_pos h5,e2.vt q (by rw[hEcN];exact(List.getElem?_eq_some_iff.1 hj).1)];exact(hold hj).2.symm
   ·show(if E.N+q<E.N then _ else E'.vt (E.N+q - E.N))=_
    rw[if_neg (by omega),Nat.add_sub_cancel_left]
  have hx:F6 E E2:={
   os:=e2.os,tape:=e2.tape,output:=e2.output,size:=e2.size,N:=Nat.le_add_right _ _
   ρ:=fun i hi=>if_pos hi,vt:=fun i hi=>if_pos hi
   S:=e2.S,S':=fun b hb=>(e2.S' b hb).imp id fun h5 h6=>h5 (.inl h6),L:=fun _=>Iff.rfl,K:=fun b hb=> .inl hb
   kept:=fun b hb=>e2.kept b (.inl hb),cells:=e2.cells}
  have hw2:Wf E2:=⟨fun b hb=> .inr hb,fun b hb=> .inl (hw.L b hb),fun b hb=>by
   rcases hb with hb|hb
   ·exact Nat.lt_of_lt_of_le (hw.K b hb) e2.size
   ·exact e3.K b (e3.S b hb)⟩
  have hoth:∀(i:Nat) (u:V),h[i]?=some (some u)→E.vt i=false→(∀q:Nat,m[q]?≠some (some i))→Kc (E.ρ i):=fun i u h5 h6 h7=> .inr ⟨i,u,h5,h6,h7,rfl⟩
  have hlive2:∀(q:Nat) (u:V),k[q]?=some (some u)→uW E2 (Ev (M6 (Ar h) m) u) (M6 (Ar h) m q):=fun q u hq=>by
   have hqN:q<E'.N:=by rw[←hkN];exact(List.getElem?_eq_some_iff.1 hq).1
   rcases e4.live q u hq with⟨h5,sz,g,rfl⟩|⟨h5,h6,cs,t,h7,h8,h9⟩
   ·exact .inl ⟨(hels.vt q hqN).trans h5,sz,g,by simp only[Ev]⟩
   ·refine .inr ⟨(hels.vt q hqN).trans h5,?_,cs,t,by rw[hels.ρ q hqN];exact h7,by rw[(Du _ u).2.1];exact h8,iZ hels u _ _ (hrk u (List.mem_of_getElem? hq)) h9⟩;rw[hels.ρ q hqN]
    rintro(hb|hb)
    ·exact h6 (e2.K _ (.inl hb))
    ·exact h6 (e3.S _ hb)
  have hs2:B8 E2 (Qo h m k):=by
   refine⟨?_,fun i u hi=>?_,fun i j u u' hi hj hne h5 h6=>?_⟩
   ·unfold Qo;rw[eI,List.length_append,Ew,H6,hs.len,hkN]
   ·rcases Mg hkl hd hm hi with⟨q,u',h5,rfl,rfl⟩|⟨h5,h6,h7⟩
    ·exact hlive2 q u' h5
    ·rw[hs.len]at h5
     rcases hs.live i u h6 with⟨h8,h9⟩|⟨h8,h9,cs,t,h10,h11,h12⟩
     ·exact .inl ⟨(if_pos h5:E2.vt i=E.vt i).trans h8,h9⟩
     ·have hk:=hoth i u h6 h8 h7;refine .inr ⟨(if_pos h5:E2.vt i=E.vt i).trans h8,?_,cs,t,?_,h11,Gu hw hx _ _ _ h12⟩
      ·rw[show E2.ρ i=E.ρ i from if_pos h5]
       rintro(hb|hb)
       ·exact h9 hb
       ·rcases e2.S' _ hb with hb|hb
        ·exact h9 (hw.S _ hb)
        ·exact hb hk
      ·rw[show E2.ρ i=E.ρ i from if_pos h5];exact(e2.kept _ hk).trans h10
   ·have hcall:∀(q:Nat) (a:V),k[q]?=some (some a)→E2.vt (M6 (Ar h) m q)=false→E2.ρ (M6 (Ar h) m q)=E'.ρ q∧E'.vt q=false∧¬E'.K (E'.ρ q):=fun q a hq hv=>by
     have hqN:q<E'.N:=by rw[←hkN];exact(List.getElem?_eq_some_iff.1 hq).1
     rw[hels.vt q hqN]at hv;refine⟨hels.ρ q hqN,hv,?_⟩
     rcases e4.live q a hq with⟨h7,_⟩|⟨_,h7,_⟩
     ·rw[hv]at h7;cases h7
     ·exact h7
    have hother:∀(i:Nat) (a:V),i<h.length→h[i]?=some (some a)→(∀q:Nat,m[q]?≠some (some i))→E2.vt i=false→E2.ρ i=E.ρ i∧E.vt i=false∧E'.K (E.ρ i):=fun i a hi ha hq hv=>by
     rw[hs.len]at hi;rw[show E2.vt i=E.vt i from if_pos hi]at hv;exact⟨if_pos hi,hv,e2.K _ (hoth i a ha hv hq)⟩
    rcases Mg hkl hd hm hi with⟨q,a,h7,rfl,rfl⟩|⟨h7,h8,h9⟩
    ·obtain⟨g1,g2,g3⟩:=hcall q a h7 h5
     rcases Mg hkl hd hm hj with⟨q',a',h7',rfl,rfl⟩|⟨h7',h8',h9'⟩
     ·obtain⟨g1',g2',g3'⟩:=hcall q' a' h7' h6;rw[g1,g1'];exact e4.inj q q' a a' h7 h7' (fun e=>hne (by rw[e])) g2 g2'
     ·obtain⟨g1',g2',g3'⟩:=hother j u' h7' h8' h9' h6;rw[g1,g1'];exact fun e=>g3 (e▸g3')
    ·obtain⟨g1,g2,g3⟩:=hother i u h7 h8 h9 h5
     rcases Mg hkl hd hm hj with⟨q',a',h7',rfl,rfl⟩|⟨h7',h8',h9'⟩
     ·obtain⟨g1',g2',g3'⟩:=hcall q' a' h7' h6;rw[g1,g1'];exact fun e=>g3' (e▸g3)
     ·obtain⟨g1',g2',g3'⟩:=hother j u' h7' h8' h9' h6;rw[g1,g1'];exact hs.inj i j u u' h8 h8' hne g2 g2'
  exact⟨E2,_,_,e1,hx,hw2,hs2,AK4 hels hrv e5,hκ⟩
end
mutual
theorem O5{m:List (Option Nat)}:∀{v v':V} {K K':Prop},(K→K')→Ks m v v' K→Ks m v v' K'
 |v, .any,K,K',hk,h=>by
  simp only[Ks]at h⊢;split at h
  ·exact h.elim
  ·exact hk h
 |v, .int k n,K,K',hk,h=>by
  simp only[Ks]at h⊢;split at h
  ·exact⟨h.1,h.2.1,hk h.2.2⟩
  ·exact h.elim
 |v, .tt,K,K',hk,h|v, .ff,K,K',hk,h=>by
  simp only[Ks]at h⊢;split at h
  ·exact hk h
  ·exact h
  ·exact h.elim
 |v, .bool b,K,K',hk,h=>by
  simp only[Ks]at h⊢;split at h
  ·exact⟨h.1,hk h.2⟩
  ·exact⟨h.1,hk h.2⟩
  ·exact⟨h.1,hk h.2⟩
  ·exact h.elim
 |v, .str s,K,K',hk,h=>by
  simp only[Ks]at h⊢;split at h
  ·exact⟨h.1,hk h.2⟩
  ·exact h.elim
 |v, .nilp,K,K',hk,h|v, .emp,K,K',hk,h|v, .nilf,K,K',hk,h|v, .nili,K,K',hk,h=>by
  simp only[Ks]at h⊢;split at h
  ·exact hk h
  ·exact h.elim
 |v, .ref i p,K,K',hk,h=>by
  simp only[Ks]at h⊢
  split at h
  ·split at h
   ·exact⟨h.1,hk h.2⟩
   ·exact h.elim
  ·exact h.elim
 |v, .rref i p sz lo n,K,K',hk,h=>by
  simp only[Ks]at h⊢
  split at h
  ·split at h
   ·exact⟨h.1,h.2.1,hk h.2.2⟩
   ·exact h.elim
  ·exact h.elim
 |v, .sl i p sz lo len cap,K,K',hk,h=>by
  simp only[Ks]at h⊢
  split at h
  ·split at h
   ·exact⟨h.1,h.2.1,hk h.2.2⟩
   ·exact h.elim
  ·split at h
   ·exact⟨h.1,hk h.2⟩
   ·exact h.elim
  ·exact h.elim
 |v, .slx i sz lo len cap,K,K',hk,h=>by
  simp only[Ks]at h⊢
  split at h
  ·split at h
   ·exact⟨h.1,h.2.1,hk h.2.2⟩
   ·exact h.elim
  ·split at h
   ·exact⟨h.1,hk h.2⟩
   ·exact h.elim
  ·exact h.elim
 |v, .imm l sz n f,K,K',hk,h=>by
  simp only[Ks]at h⊢
  split at h
  ·exact⟨h.1,hk h.2⟩
  ·exact⟨h.1,h.2.1,h.2.2.1,hk h.2.2.2⟩
  ·exact h.elim
 |v, .pim l u,K,K',hk,h=>by
  simp only[Ks]at h⊢;split at h
  ·exact⟨h.1,hk h.2⟩
  ·exact h.elim
 |v, .row sz n f,K,K',hk,h=>by
  simp only[Ks]at h⊢;split at h
  ·exact⟨h.1,h.2.1,h.2.2.1,hk h.2.2.2⟩
  ·exact h.elim
 |v, .st l',K,K',hk,h=>by
  simp only[Ks]at h⊢;split at h
  ·exact Po hk h
  ·exact h.elim
 |v, .fn f c,K,K',hk,h=>by
  simp only[Ks]at h⊢;split at h
  ·exact⟨h.1,Po hk h.2⟩
  ·exact h.elim
 |v, .iface t u,K,K',hk,h=>by
  simp only[Ks]at h⊢;split at h
  ·exact⟨h.1,O5 hk h.2⟩
  ·exact h.elim
 |v, .tup l,K,K',hk,h=>by
  simp only[Ks]at h⊢;split at h
  ·exact hk h
  ·exact h.elim
theorem Po{m:List (Option Nat)}:∀{l l':Vs} {K K':Prop},(K→K')→Qm m l l' K→Qm m l l' K'
 | .nil, .nil,K,K',hk,h=>by simp only[Qm]at h⊢;exact hk h
 | .cons v l, .cons v' l',K,K',hk,h=>by
  simp only[Qm]at h⊢;exact O5 (Po hk) h
 | .nil, .cons _ _,_,_,_,h=>by simp only[Qm]at h
 | .cons _ _, .nil,_,_,_,h=>by simp only[Qm]at h
end
theorem Ht{mm:List (Option Nat)}{h0:Ae}:∀{m:List (Option Nat)} {h:Ae} {K K':Prop},(K→K')→Ip mm h0 m h K→Ip mm h0 m h K'
 |[],[],K,K',hk,h=>hk h
 |none::m,v::l,K,K',hk,h=>by
  simp only[Ip]at h⊢
  split at h
  ·exact⟨h.1,Ht hk h.2⟩
  ·exact Ht hk h
  ·exact h.elim
 |some j::m,none::l,K,K',hk,h=>by
  simp only[Ip]at h⊢;exact Ht hk h
 |some j::m,some v::l,K,K',hk,h=>by
  simp only[Ip]at h⊢
  split at h
  ·exact O5 (Ht hk) h
  ·exact h.elim
 |[],_::_,_,_,_,h=>by simp[Ip]at h
 |none::_,[],_,_,_,h=>by simp[Ip]at h
 |some _::_,[],_,_,_,h=>by simp[Ip]at h
def AHj(m:List (Option Nat))(v v':V)(K:Prop):Prop:=
 match v,v' with
 | .tup l, .tup l'=>Qm m l l' K
 | .tup _,_=>False
 |v,v'=>Ks m v v' K
theorem Rx{m:List (Option Nat)}:∀(l l':Vs) (k:Nat),I8 m l l'→(Da m (l.get k) (l'.get k)∨(l.get k= .any∧l'.get k= .any))∧l.len=l'.len
 | .nil, .nil,k,_=>⟨.inr ⟨by simp only[Vs.get],by simp only[Vs.get]⟩,rfl⟩
 | .cons v l, .cons v' l',0,h=>by
  simp only[I8]at h;refine⟨.inl (by simp only[Vs.get];exact h.1),?_⟩;simp only[Vs.len,(Rx l l' 0 h.2).2]
 | .cons v l, .cons v' l',k+1,h=>by
  simp only[I8]at h
  have:=Rx l l' k h.2
  exact⟨by simp only[Vs.get];exact this.1,by simp only[Vs.len,this.2]⟩
 | .nil, .cons _ _,_,h| .cons _ _, .nil,_,h=>by simp only[I8]at h
theorem Vi{E:Env}{u:V}{y:Value}(ha:u≠ .any)(ht:u.isTup=false):T E u y↔Cu u y∧R E u (fun q=>y.cells[q]?) 0:=by
 cases u<;>first|exact Iff.rfl|exact absurd rfl ha|simp[V.isTup]at ht
theorem ANb{m:List (Option Nat)}{v v':V}{K:Prop}(h:AHj m v v' K):(∀E x,T E v x→T (E.ren m) v' x)∧K:=by
 unfold AHj at h
 split at h
 ·rename_i l l';obtain⟨h1,h2⟩:=Wb _ _ _ h;refine⟨fun E x hT=>?_,h2⟩;obtain⟨xs,e1,e2,e3⟩:=hT;refine⟨xs,e1,by rw[e2,(Rx l l' 0 h1).2],fun k y hk=>?_⟩;have h4:=e3 k y hk
  rcases(Rx l l' k h1).1 with h5|⟨_,h5⟩
  ·generalize l.get k=u at h4 h5;generalize l'.get k=u' at h5
   by_cases ha:u'= .any
   ·subst ha;trivial
   have hT:T E u y:=by
    by_cases hu:u= .any
    ·subst hu;trivial
    ·have h6:u.isTup=false∧Cu u y∧R E u (fun q=>y.cells[q]?) 0:=by cases u<;>first|exact h4|exact absurd rfl hu
     exact(Vi hu h6.1).2 h6.2
   have hnt:u'.isTup=false:=by
    cases u'<;>first|rfl|skip
    rename_i l0;simp only[Da]at h5;obtain⟨rfl,rfl⟩:=h5;exact absurd h4.1 (by simp[V.isTup])
   have h7:=sU (E:=E) (m:=m) (v:=u) (v':=u') (by unfold leS;split<;>first|trivial|exact h5) hT;have h8:=(Vi ha hnt).1 h7
   cases u'<;>first|exact⟨hnt,h8⟩|exact absurd rfl ha
  ·rw[h5];trivial
 ·exact h.elim
 ·obtain⟨h1,h2⟩:=To _ _ _ h;exact⟨fun E x hT=>sU (by unfold leS;split<;>first|trivial|exact h1) hT,h2⟩
def Uz(j:Nat):List (Option Nat)→Ae→Bool
 |some i::m,some _::l=> !Nat.beq i j&&Uz j m l
 |_::m,_::l=>Uz j m l
 |_,_=>true
def Mi:List (Option Nat)→Ae→Bool
 |some j::m,some _::l=>Uz j m l&&Mi m l
 |_::m,_::l=>Mi m l
 |_,_=>true
theorem Lr:∀{j:Nat} {m:List (Option Nat)} {l:Ae} {k:Nat} {v:V},Uz j m l=true→l[k]?=some (some v)→m[k]?≠some (some j)
 |j,some i::m,some u::l,0,v,h,_=>by
  simp only[Uz,Bool.and_eq_true,Bool.not_eq_true']at h;intro e;simp at e
  rw[e]at h;simp at h
 |j,some i::m,some u::l,k+1,v,h,hl=>by
  simp only[Uz,Bool.and_eq_true]at h;simpa using Lr h.2 (by simpa using hl)
 |j,some i::m,none::l,0,v,h,hl=>by simp at hl
 |j,some i::m,none::l,k+1,v,h,hl=>by
  simp only[Uz]at h;simpa using Lr h (by simpa using hl)
 |j,none::m,x::l,0,v,h,hl=>by simp
 |j,none::m,x::l,k+1,v,h,hl=>by
  simp only[Uz]at h;simpa using Lr h (by simpa using hl)
 |j,[],l,k,v,h,hl=>by simp
 |j,x::m,[],k,v,h,hl=>by simp at hl
theorem cL:∀{m:List (Option Nat)} {l:Ae} {i k j:Nat} {u v:V},Mi m l=true→l[i]?=some (some u)→l[k]?=some (some v)→m[i]?=some (some j)→m[k]?=some (some j)→i=k
 |[],l,i,k,j,u,v,h,_,_,hi,_=>by simp at hi
 |x::m,[],i,k,j,u,v,h,hl,_,_,_=>by simp at hl
 |x::m,y::l,0,0,j,u,v,h,_,_,_,_=>rfl
 |x::m,y::l,0,k+1,j,u,v,h,hi,hk,mi,mk=>by
  simp at hi mi
  subst hi;subst mi;simp only[Mi,Bool.and_eq_true]at h;exact absurd (by simpa using mk) (Lr h.1 (by simpa using hk))
 |x::m,y::l,i+1,0,j,u,v,h,hi,hk,mi,mk=>by
  simp at hk mk
  subst hk;subst mk;simp only[Mi,Bool.and_eq_true]at h;exact absurd (by simpa using mi) (Lr h.1 (by simpa using hi))
 |x::m,y::l,i+1,k+1,j,u,v,h,hi,hk,mi,mk=>by
  have h':Mi m l=true:=by
   cases x<;>cases y<;>simp only[Mi,Bool.and_eq_true]at h<;>first|exact h|exact h.2
  exact congrArg _ (cL h' (by simpa using hi) (by simpa using hk) (by simpa using mi) (by simpa using mk))
theorem ABj{E:Env}{h:Ae}{m:List (Option Nat)}{hc:Ae}(hw:Wf E)(hs:B8 E h)(hd:Mi m hc=true)(hl:iT m h m hc):B8 (E.ren m) hc:=by
 obtain⟨Ar,Dx⟩:=Ku hl
 have hold:∀{i j:Nat},m[i]?=some (some j)→(E.ren m).ρ i=E.ρ j∧(E.ren m).vt i=E.vt j:=fun hij=>by
  have:=Env.ren_old (E:=E) (m:=m) (by rw[Dn];exact hij)
  exact⟨this.1,this.2.1⟩
 refine⟨Ar.symm,fun i v hi=>?_,fun i j v v' hi hj hne h1 h2=>?_⟩
 ·rcases Dx i v hi with⟨h1,sz,f,rfl⟩|⟨j,u,h1,h2,h3⟩
  ·exact .inl ⟨by simp[Env.ren,gJ,Dn,h1],sz,f,rfl⟩
  ·obtain⟨e1,e2⟩:=hold h1
   rcases hs.live j u h2 with⟨h4,sz,f,rfl⟩|⟨h4,h5,cs,t,h6,h7,h8⟩
   ·refine .inl ⟨e2.trans h4,?_⟩
    cases v<;>simp only[Da]at h3
    case row sz' n' f'=>
     obtain⟨g,hg,_⟩:=h3
     cases hg
     exact⟨_,_,rfl⟩
    all_goals first
     |(cases h3;done)
     |(exact absurd h3.1 (by simp[V.isAgg]))
     |(obtain⟨x,hx,_⟩:=h3;cases hx;done)
     |(rcases h3 with⟨hx,_⟩|⟨x,hx,_⟩<;>cases hx;done)
     |(split at h3<;>first|(cases h3;done)|(cases h3.1;done))
     |(simp[vb]at h3;done)
   ·refine .inr ⟨e2.trans h4,by rw[e1];exact h5,cs,t,by rw[e1];exact h6,by rw[←(Jw _ _ h3).2.1];exact h7,cF _ _ _ _ h3 h8⟩
 ·rcases Dx i v hi with⟨h3,_⟩|⟨i',u,h3,h4,_⟩
  ·exfalso;simp[Env.ren,gJ,Dn,h3]at h1
  ·rcases Dx j v' hj with⟨h5,_⟩|⟨j',u',h5,h6,_⟩
   ·exfalso;simp[Env.ren,gJ,Dn,h5]at h2
   ·rw[(hold h3).1,(hold h5).1];rw[(hold h3).2]at h1;rw[(hold h5).2]at h2;exact hs.inj i' j' u u' h4 h6 (fun e=>hne (cL hd hi hj h3 (e▸h5))) h1 h2
def Wk(n0:Nat)(v:V)(k:Ae)(κ:V→Ae→Prop):Prop:=
 ∃(m:List (Option Nat)) (v':V) (k':Ae),match Mi m k'&&lD n0 0 m with
  |true=>AHj m v v' (Ip m k m k' (κ v' k'))
  |false=>False
def Tp(m:List (Option Nat)):List V→List V→Prop→Prop
 |[],[],K=>K
 |v::l,v'::l',K=>Ks m v v' (Tp m l l' K)
 |_,_,_=>False
theorem Rv{m:List (Option Nat)}:∀(l l':List V) (K:Prop),Tp m l l' K→Wc m l l'∧K
 |[],[],K,h=>⟨trivial,h⟩
 |v::l,v'::l',K,h=>by
  simp only[Tp]at h;obtain⟨h1,h2⟩:=To _ _ _ h;obtain⟨h3,h4⟩:=Rv l l' K h2;exact⟨⟨by unfold leS;split<;>first|trivial|exact h1,h3⟩,h4⟩
 |[],_::_,_,h=>by simp[Tp]at h
 |_::_,[],_,h=>by simp[Tp]at h
theorem Pp{m:List (Option Nat)}:∀{l l':List V} {K K':Prop},(K→K')→Tp m l l' K→Tp m l l' K'
 |[],[],K,K',hk,h=>hk h
 |v::l,v'::l',K,K',hk,h=>by
  simp only[Tp]at h⊢;exact O5 (Pp hk) h
 |[],_::_,_,_,_,h=>by simp[Tp]at h
 |_::_,[],_,_,_,h=>by simp[Tp]at h
def L8{α:Type}(args:α→List V)(hc:α→Ae)(pre:α→Prop)(res:α→V)(hp:α→Ae):Ai:=fun xs h κ=>
 ∃(a:α) (m:List (Option Nat)),match J0 m&&mOk (Ar h) m with
  |true=>Tp m xs (args a) (Ip m h m (hc a) (Ob (pre a)∧κ (Ev (M6 (Ar h) m) (res a)) (Qo h m (hp a))))
  |false=>False
section
variable {P:Program} {gl:List (Nat×V)}
theorem iO{f:Nat}{S:Ai}(hS:Af P gl f S):Af P gl f (fun xs h κ=>S xs h fun v k=>Wk (Ar h) v k κ):=by
 constructor
 ·intro as h κ κ' hk hd;refine hS.1 _ _ _ _ (fun v k ⟨m,v',k',h1⟩=>⟨m,v',k',?_⟩) hd
  split at h1
  ·unfold AHj at h1⊢
   have mono:∀{K K':Prop},(K→K')→Ip m k m k' K→Ip m k m k' K':=fun hK h2=>by
    exact Ht hK h2
   split at h1
   ·exact Po (mono (hk _ _)) h1
   ·exact h1
   ·exact O5 (mono (hk _ _)) h1
  ·exact h1.elim
 ·intro E h as args κ hw hs hgl hts hd;refine Jk.mono (hS.2 E h as args _ hw hs hgl hts hd) fun x w' ⟨E',v,k,e1,e2,e3,e4,e5,m,v',k',e6⟩=>?_
  split at e6
  ·rename_i hb;simp only[Bool.and_eq_true]at hb;obtain⟨h1,h2⟩:=ANb e6;obtain⟨h3,h4⟩:=Kt _ _ _ h2;obtain⟨hid1,hid2⟩:=Y5 hb.2;have hN:Ar h=E.N:=by rw[Az,hs.len]
   have hold:∀i,i<E.N→(E'.ren m).ρ i=E'.ρ i∧(E'.ren m).vt i=E'.vt i:=fun i hi=>by
    have:=Env.ren_old (E:=E') (m:=m) (i:=i) (j:=i) (by rw[Dn];have:=hid2 i (by omega);simpa using this)
    exact⟨this.1,this.2.1⟩
   refine⟨E'.ren m,v',k',e1,?_,⟨e3.S,e3.L,e3.K⟩,ABj e3 e4 hb.1 h3,h1 _ _ e5,h4⟩;exact⟨e2.os,e2.tape,e2.output,e2.size,by show E.N≤m.length;omega,fun i hi=>(hold i hi).1.trans (e2.ρ i hi),fun i hi=>(hold i hi).2.trans (e2.vt i hi),e2.S,e2.S',e2.L,e2.K,e2.kept,e2.cells⟩
  ·exact e6.elim
theorem Cq {f:Nat} {S:Ai} {α:Type} {args:α→List V} {hc:α→Ae} {pre:α→Prop} {res:α→V} {hp:α→Ae} (hS:Af P gl f S)
  (hi:∀a κ,pre a→κ (res a) (hp a)→S (args a) (hc a) fun v k=>Wk (Ar (hc a)) v k κ) (hl:∀a,(hc a).length≤(hp a).length) (hr:∀a,Hf (res a)) (hr':∀a u,some u∈hp a→Hf u):
  Af P gl f (L8 args hc pre res hp):=by
 have hF:=lA (iO hS)
 have key:∀{as:List V} {h:Ae} {κ:V→Ae→Prop},L8 args hc pre res hp as h κ→pB (fun xs h κ=>S xs h fun v k=>Wk (Ar h) v k κ) as h κ:=by
  rintro as h κ ⟨a,m,h1⟩
  split at h1
  ·rename_i hb;obtain⟨h2,h3⟩:=Rv _ _ _ h1;obtain⟨h4,⟨h5⟩,h6⟩:=Kt _ _ _ h3;exact⟨m,args a,hc a,hb,h2,h4,hi a _ h5 ⟨by rw[(Ku h4).1];exact hl a,hr a,hr' a,h6⟩⟩
  ·exact h1.elim
 refine⟨fun as h κ κ' hk hd=>?_,fun E h as args κ hw hs hgl hts hd=>hF.2 E h as args κ hw hs hgl hts (key hd)⟩;obtain⟨a,m,h1⟩:=hd;refine⟨a,m,?_⟩
 split at h1
 ·exact Pp (fun h2=>Ht (fun h3=>⟨h3.1,hk _ _ h3.2⟩) h2) h1
 ·exact h1.elim
end
theorem Ld.two{v v' u:V}(h:Ld v v')(h1:v≠ .any)(h2:v.isTup=false)(h3:v'≠ .any)(h4:v'.isTup=false):Ld (.tup (.cons v (.cons u .nil))) (.tup (.cons v' (.cons u .nil))):=by
 refine⟨fun E x hT=>?_,fun ho=>?_⟩
 ·obtain⟨xs,e1,e2,e3⟩:=hT;refine⟨xs,e1,e2,fun k y hk=>?_⟩;have h5:=e3 k y hk
  match k with
  |0=>
   have hv:v.isTup=false∧Cu v y∧R E v (fun q=>y.cells[q]?) 0:=by
    simp only[Vs.get]at h5
    cases v<;>first|exact h5|exact absurd rfl h1
   have h6:=(Vi h3 h4).1 (h.t E y ((Vi h1 h2).2 hv.2));simp only[Vs.get]
   cases v'<;>first|exact⟨h4,h6⟩|exact absurd rfl h3
  |k+1=>exact h5
 ·simp only[own,Jz]at ho⊢;exact⟨h.o ho.1,ho.2⟩
def Yd(n:Nat):List (Option Nat)→Bool|[]=>true|some j::m=>Nat.blt j n&&Yd n m|none::_=>false
theorem lL:∀{n:Nat} {m:List (Option Nat)} {i:Nat},Yd n m=true→i<m.length→∃j,m[i]?=some (some j)∧j<n
 |n,[],i,_,hi=>by simp at hi
 |n,some j::m,0,h,_=>by simp[Yd]at h;exact⟨j,rfl,by omega⟩
 |n,some j::m,i+1,h,hi=>by simp[Yd]at h;simpa using lL (i:=i) h.2 (by simpa using hi)
 |n,none::m,i,h,_=>by simp[Yd]at h
theorem cI:∀{n n':Nat} {m:List (Option Nat)},n≤n'→Yd n m=true→Yd n' m=true
 |n,n',[],_,_=>rfl
 |n,n',some j::m,hn,h=>by simp[Yd]at h⊢;exact⟨by omega,cI hn h.2⟩
 |n,n',none::m,hn,h=>by simp[Yd]at h
def Gk:Nat→Ae|0=>[]|n+1=>none::Gk n
theorem Mj:∀n,(Gk n).length=n|0=>rfl|n+1=>by simp[Gk,Mj n]
theorem Tz:∀(n i:Nat) (v:V),(Gk n)[i]?≠some (some v)
 |0,i,v=>by simp[Gk]
 |n+1,0,v=>by simp[Gk]
 |n+1,i+1,v=>by simpa[Gk]using Tz n i v
def AS9{α:Type}(args:α→List V)(nv:α→Nat)(pre:α→Prop)(res:α→V):Ix:=fun xs h κ=>
 ∃(a:α) (m:List (Option Nat)),match Yd (Ar h) m&&Nat.beq m.length (nv a)with
  |true=>Tp m xs (args a) (Ob (pre a)∧κ (Ev (Zi m) (res a)))
  |false=>False
section
variable {P:Program} {gl:List (Nat×V)}
theorem sY {f:Nat} {S:Ai} {α:Type} {args:α→List V} {nv:α→Nat} {pre:α→Prop} {res:α→V} (hS:Af P gl f S)
  (hi:∀a,pre a→S (args a) (Gk (nv a)) fun v k=>Wk (Ar (Gk (nv a))) v k fun v' k'=>v'=res a∧k'=Gk (nv a)) (hr:∀a,Hf (res a)):Gv P gl f (AS9 args nv pre res):=by
 refine⟨?_,?_,?_⟩
 ·rintro as h κ ⟨a,m,h1⟩
  split at h1
  ·rename_i hb;obtain⟨h2,h3,h4⟩:=Rv _ _ _ h1;refine⟨_,h4,fun κ' h'=>⟨a,m,?_⟩⟩;rw[hb];exact Pp (fun _=>⟨h3,h'⟩) h1
  ·exact h1.elim
 ·rintro E h as args' κ hw hs hgl hts ⟨a,m,h1⟩
  split at h1
  ·rename_i hb;simp only[Bool.and_eq_true,Nat.beq_eq]at hb;obtain⟨h2,⟨h3⟩,h4⟩:=Rv _ _ _ h1;have hlN:Ar h=E.N:=by rw[Az,hs.len]
   let Ec:Env:={E.ren m with K:=fun b=>b<E.w.heap.size}
   have hwr:Wf (E.ren m):=⟨hw.S,hw.L,hw.K⟩;have hwc:Wf Ec:=⟨fun b hb=>hw.K b (hw.S b hb),fun b hb=>hw.K b (hw.L b hb),fun _ hb=>hb⟩
   have hxc:F6 (E.ren m) Ec:={
    os:=rfl,tape:=rfl,output:=rfl,size:=Nat.le_refl _,N:=Nat.le_refl _,ρ:=fun _ _=>rfl,vt:=fun _ _=>rfl
    S:=fun _ hb=>hb,S':=fun _ hb=> .inl hb,L:=fun _=>Iff.rfl,K:=fun b hb=>hw.K b hb,kept:=fun _ _=>rfl
    cells:=fun b cs t fr hb=>⟨cs,fr,hb,rfl⟩}
   have hsc:B8 Ec (Gk (nv a)):=⟨by rw[Mj,←hb.2];rfl,fun i v hi=>absurd hi (Tz _ _ _),fun i j v v' hi=>absurd hi (Tz _ _ _)⟩;have hglc:GlOk gl Ec:=fun p hp=>⟨(hgl p hp).1,Hx (E:=E) (E':=Ec) ⟨rfl,fun _ hb=>hb,fun _ _ hb=>hb⟩ _ _ _ (hgl p hp).2⟩;have htsc:Ts Ec (args a) args'.toList:=nO hwr hxc (pJ _ _ _ h2 hts);refine Jk.mono ((iO hS).2 Ec (Gk (nv a)) (args a) args' _ hwc hsc hglc htsc (hi a h3)) fun x w' ⟨E',v,k,e1,e2,e3,e4,e5,e6,e7⟩=>?_;subst e6;subst e7;have hEcN:Ec.N=m.length:=rfl;have hE'N:E'.N=m.length:=by rw[←e4.len,Mj,hb.2]
   have hold:∀{q j:Nat},m[q]?=some (some j)→(E.ren m).ρ q=E.ρ j∧(E.ren m).vt q=E.vt j:=fun hq=>by
    have:=Env.ren_old (E:=E) (m:=m) (by rw[Dn];exact hq)
    exact⟨this.1,this.2.1⟩
   have hx:F6 E {E with w:=E'.w,S:=E'.S,K:=fun b=>E.K b∨E'.S b}:={
    os:=e2.os,tape:=e2.tape,output:=e2.output,size:=e2.size,N:=Nat.le_refl _,ρ:=fun _ _=>rfl,vt:=fun _ _=>rfl
    S:=e2.S,S':=fun b hb=>(e2.S' b hb).imp id fun h hk=>h (hw.K b hk),L:=fun _=>Iff.rfl,K:=fun _ h=> .inl h
    kept:=fun b hb=>e2.kept b (hw.K b hb)
    cells:=e2.cells}
   have hels:Hp (Zi m) E' {E with w:=E'.w,S:=E'.S,K:=fun b=>E.K b∨E'.S b}:=by
    refine⟨rfl,fun _ hb=>hb,fun b hb=>(e2.L b).1 hb,fun q hq=>?_,fun q hq=>?_,fun q hq=>?_⟩
    all_goals
     obtain⟨j,hj,hjn⟩:=lL hb.1 (hE'N▸hq:q<m.length);have ht:Zi m q=j:=by unfold Zi;rw[Dn,hj]
     rw[ht]
    ·exact hlN▸hjn
    ·rw[e2.ρ q (by rw[hEcN,←hE'N];exact hq)];exact(hold hj).1.symm
    ·rw[e2.vt q (by rw[hEcN,←hE'N];exact hq)];exact(hold hj).2.symm
   have hold':∀b,E'.S b→b<E.w.heap.size→E.S b:=fun b hb hlt=>(e2.S' b hb).elim id fun h=>absurd hlt h;refine⟨{E with w:=E'.w,S:=E'.S,K:=fun b=>E.K b∨E'.S b},_,h,e1,hx,⟨fun b hb=> .inr hb,fun b hb=> .inl (hw.L b hb),fun b hb=>?_⟩,⟨hs.len,fun i u hi=>?_,hs.inj⟩,AK4 hels (hr a) e5,rfl,h4⟩
   ·rcases hb with hb|hb
    ·exact Nat.lt_of_lt_of_le (hw.K b hb) e2.size
    ·exact e3.K b (e3.S b hb)
   ·have hlt:E.vt i=false→E.ρ i<E.w.heap.size:=fun hv=>by
     rcases hs.live i u hi with⟨h1,_⟩|⟨_,_,cs',t',h3,_⟩
     ·rw[h1]at hv;cases hv
     ·exact(Array.getElem?_eq_some_iff.1 h3).1
    refine(hs.live i u hi).ext hw hx (hs.lt hi) (fun hk hv hk'=>?_) (fun hv=>e2.kept _ (hlt hv))
    rcases hk' with hk'|hk'
    ·exact hk hk'
    ·exact hk (hw.S _ (hold' _ hk' (hlt hv)))
  ·exact h1.elim
 ·rintro as h z κ ⟨a,m,h1⟩
  refine⟨a,m,?_⟩
  split at h1
  ·rename_i hb;simp only[Bool.and_eq_true]at hb
   rw[show(Yd (Ar (C2 h z)) m&&Nat.beq m.length (nv a))=true by
    rw[Bool.and_eq_true];exact⟨cI (by rw[Az,Az,G6];simp) hb.1,hb.2⟩]
   exact h1
  ·exact h1.elim
end
def Ct(a b:List UInt8):Int:=Extern.BytealgCompare.cmp ⟨a.toArray⟩ ⟨b.toArray⟩
section
variable {P:Program} {gl:List (Nat×V)}
theorem pH(l:List UInt8):Lib.bytesOf (l.map fun c=>((c.toNat:Nat):Int))=l:=by
 induction l with
 |nil=>rfl
 |cons x l ih=>simp[Lib.bytesOf]at ih⊢;exact ih
theorem Uk{E:Env}{b:Bool}{l:List UInt8}{x:Value}(h:T E (Bl b l) x):(Extern.Bytes.bytesOf x).run P E.w= .ok ⟨l.toArray⟩ E.w:=by
 obtain⟨a,cp,rfl,h2,h3⟩:=Ej.1 h
 rcases h3 with h3|⟨bl,off,rfl,_,h5⟩
 ·have hl:l=[]:=List.length_eq_zero_iff.1 h3;subst hl
  cases a<;>rfl
 ·have h6:=Lib.run_loadBytesX (P:=P) E.w (l.map fun c=>((c.toNat:Nat):Int)) ⟨bl,off,none⟩ .empty (fun j y hy=>by
   rw[List.getElem?_map]at hy
   cases hj:l[j]? with
   |none=>rw[hj]at hy;cases hy
   |some c=>
    rw[hj]at hy;simp only[Option.map_some,Option.some.injEq]at hy;subst hy;have hlt:=(List.getElem?_eq_some_iff.1 hj).1;have h7:=(h5 j hlt).2;simp only[bf,R,Nat.mul_one,Am,List.getD_eq_getElem?_getD,hj,Option.getD_some]at h7
    have e:(⟨bl,off,none⟩:Addr).add j=⟨bl,off+j,none⟩:=by
     unfold Addr.add
     by_cases hj0:j=0<;>simp[hj0]
    rw[e];exact h7)
  rw[pH]at h6;simp only[List.length_map]at h6;simp only[Extern.Bytes.bytesOf];rw[h6];simp[ByteArray.empty,ByteArray.emptyWithCapacity]
  rfl
theorem Jo {f:Nat} {fn:Func} {e:Array Value→Sem Value} {args:Array Value} {w:World} {v:Value} (hf:P.funcs[f]?=some fn) (hb:fn.body=none) (hname:(fn.name== "runtime.NumGoroutine")=false)
  (h1:Extern.findNext fn=none) (h2:Extern.find fn=some e) (hr:(e args).run P w= .ok v w):(callFunc f args).run P w= .ok (.value v) w:=by
 have hname':¬fn.name= "runtime.NumGoroutine" :=by simpa using hname
 simp[callFunc,hf,hname',hb,h1,h2,hr]
def AL1:A7:=Iq (fun(a:By×By)=>[a.1.v,a.2.v]) (fun a=>a.1.ok∧a.2.ok) (fun a=> .int .i64 (Ct a.1.l a.2.l))
theorem oH {f:Nat} {fn:Func} (hf:P.funcs[f]?=some fn) (hb:fn.body=none) (hname:(fn.name== "runtime.NumGoroutine")=false)
  (h1:Extern.findNext fn=none) (h2:Extern.find fn=some Extern.BytealgCompare.compare):FOk P gl f AL1:=Bj fun a ⟨ha,hb'⟩ Φ h=>by
 refine CP.by1 ha (CP.by2 hb' ?_);intro E args hw hN hK hgl hT;obtain⟨l⟩:=args
 match l,hT with
 |[x,y],hT=>
  have hx:=Uk (P:=P) hT.1;have hy:=Uk (P:=P) hT.2.1
  have hrun:(Extern.BytealgCompare.compare #[x,y]).run P E.w= .ok (.int .i64 (Ct a.1.l a.2.l)) E.w:=by
   show Sem.run P (do let a ←Extern.Bytes.bytesOf x;let b ←Extern.Bytes.bytesOf y;pure (goInt (Extern.BytealgCompare.cmp a b))) E.w=_
   simp[hx,hy,goInt,Ct]
  rw[Jo hf hb hname h1 h2 hrun];exact⟨E,_,rfl,(F6.refl E).xt (Nat.zero_le _),hw,Bb.2 rfl,trivial,h⟩
def ADo:A7:=Iq (fun(a:List UInt8×List UInt8)=>[.str a.1, .str a.2]) (fun _=>True) (fun a=> .int .i64 (Ct a.1 a.2))
theorem jS {f:Nat} {fn:Func} (hf:P.funcs[f]?=some fn) (hb:fn.body=none) (hname:(fn.name== "runtime.NumGoroutine")=false)
  (h1:Extern.findNext fn=none) (h2:Extern.find fn=some Extern.BytealgCompare.compare):FOk P gl f ADo:=Bj fun a _ Φ h=>by
 intro E args hw hN hK hgl hT;obtain⟨l⟩:=args
 match l,hT with
 |[x,y],hT=>
  have hx:=I2.1 hT.1;have hy:=I2.1 hT.2.1;subst hx;subst hy
  have hrun:(Extern.BytealgCompare.compare #[.string ⟨a.1.toArray⟩, .string ⟨a.2.toArray⟩]).run P E.w= .ok (.int .i64 (Ct a.1 a.2)) E.w:=by
   show Sem.run P (do let x ←Extern.Bytes.bytesOf (.string ⟨a.1.toArray⟩);let y ←Extern.Bytes.bytesOf (.string ⟨a.2.toArray⟩);pure (goInt (Extern.BytealgCompare.cmp x y))) E.w=_
   simp[Extern.Bytes.bytesOf,goInt,Ct]
  rw[Jo hf hb hname h1 h2 hrun];exact⟨E,_,rfl,(F6.refl E).xt (Nat.zero_le _),hw,Bb.2 rfl,trivial,h⟩
end
def Ys:Ix:=fun xs h κ=>match xs with
 |[.sl i _ _ _ _ _, .sl j [] sz2 _ _ _]=>match Nat.beq i j||Nat.beq sz2 0 with
  |false=>(match Dx h i,Dx h j with|some _,some _=>κ .ff|_,_=>False)
  |true=>False
 |_=>False
theorem AC8 {P:Program} {gl:List (Nat×V)} {f:Nat} {fn:Func} {t r e:Nat} (hf:P.funcs[f]?=some fn) (hb:fn.body=none) (hname:(fn.name== "runtime.NumGoroutine")=false)
  (h1:Extern.findNext fn=none) (h2:Extern.find fn=some (Extern.SlicesOverlaps.overlaps #[t,t] #[r])) (hu:P.underlying t=some (.slice e)) (hi:∃fi,P.info? e=some fi):Gv P gl f Ys:=by
 refine⟨?_,?_,?_⟩
 ·intro as h κ hd;unfold Ys at hd
  split at hd
  ·split at hd
   ·rename_i hb
    split at hd
    ·rename_i hg1 hg2;refine⟨_,hd,fun κ' h'=>?_⟩;simp only[Ys,hb,hg1,hg2];exact h'
    ·exact hd.elim
   ·exact hd.elim
  ·exact hd.elim
 ·intro E h as args κ hw hs hgl hT hd;unfold Ys at hd
  split at hd
  ·rename_i i p sz lo len cap j sz2 lo2 len2 cap2
   split at hd
   ·rename_i hij
    split at hd
    ·rename_i u v hg1 hg2;obtain⟨l⟩:=args
     match l,hT with
     |[x,y],hT=>
      obtain⟨_,a,cp,rfl,a1,a2,a3⟩:=Hq.1 hT.1;obtain⟨_,b,cp2,rfl,b1,b1',b2⟩:=Hq.1 hT.2.1;obtain⟨fi,hfi⟩:=hi;have hso:∀w,(sizeOf e).run P w= .ok fi.size w:=fun w=>by simp[sizeOf,typeInfo,hfi]
      simp only[Bool.or_eq_false_iff]at hij;have hne:i≠j:=fun e=>by subst e;simp at hij
      have hsz2:sz2≠0:=fun e=>by subst e;simp at hij
      have hrun:(Extern.SlicesOverlaps.overlaps #[t,t] #[r] #[.slice a len cp, .slice b len2 cp2]).run P E.w= .ok (.bool false) E.w:=by
       have hz:(a=none∨b=none∨len=0∨len2=0)→(Extern.SlicesOverlaps.overlaps #[t,t] #[r] #[.slice a len cp, .slice b len2 cp2]).run P E.w= .ok (.bool false) E.w:=by
        intro hz
        change Sem.run P (α:=Value) (do
         let some t:=(#[t,t]:Array TypeId)[0]?|stuck "slices.overlaps: no parameter types"
         let .slice elem ←underlying t|stuck "slices.overlaps: slice type expected"
         let size ←sizeOf elem
         match a,b with
         |some a,some b=>
          if len=0∨len2=0∨size=0 then pure (Value.bool false)
          else if a.block !=b.block&&(←frozen a)&&(←frozen b)then unsupported .addressObserved
          else do
           if a.block !=b.block then do
            noView a;noView b
            if←mayBeOne a b then return Value.bool ((←choose (.extern "sameAddr.stringBytes" 2))==1)
           pure (Value.bool (a.block==b.block&&a.off<b.off+len2*size&&b.off<a.off+len*size))
         |_,_=>pure (Value.bool false)) E.w=_
        cases a with
        |none=>simp[run_underlying hu,hso]
        |some a=>
         cases b with
         |none=>simp[run_underlying hu,hso]
         |some b=>
          have h0:len=0∨len2=0∨fi.size=0:=by
           rcases hz with hz|hz|hz|hz
           ·cases hz
           ·cases hz
           ·exact .inl hz
           ·exact .inr (.inl hz)
          simp[run_underlying hu,hso,h0]
       by_cases l1:len=0
       ·exact hz (.inr (.inr (.inl l1)))
       by_cases l2:len2=0
       ·exact hz (.inr (.inr (.inr l2)))
       rcases a3 with a3|⟨a3,rfl,_⟩
       ·omega
       rcases b2 with b2|⟨b2,rfl,cs',t',fr',b3,b4⟩
       ·omega
       rcases hs.live i u ((Cf h i u).1 hg1)with⟨c1,_⟩|⟨_,_,cA,tA,c2,c3,_⟩
       ·rw[c1]at a3;cases a3
       rcases hs.live j v ((Cf h j v).1 hg2)with⟨d1,_⟩|⟨_,_,cB,tB,d2,d3,_⟩
       ·rw[d1]at b2;cases b2
       have hbl:E.ρ i≠E.ρ j:=hs.inj i j u v ((Cf h i u).1 hg1) ((Cf h j v).1 hg2) hne a3 b2;rw[b3]at d2
       cases d2
       refine Lib.run_overlaps_apart E.w t r e hu fi.size hso _ _ _ _ _ _ hbl tA t' cA.size cs'.size (by simp[World.shape?,c2]) (by simp[World.shape?,b3]) (fun h0=>?_) (by simp[World.frozen?,c2]) (by simp[World.frozen?,c2]);simp only[Bk,Nat.zero_add]at b4;rw[h0,Nat.le_zero,Nat.mul_eq_zero]at b4;omega
      rw[Jo hf hb hname h1 h2 hrun];exact⟨E,_,h,rfl,F6.refl E,hw,hs,aF.2 rfl,rfl,hd⟩
    ·exact hd.elim
   ·exact hd.elim
  ·exact hd.elim
 ·intro as h z κ hd;unfold Ys at hd⊢
  split at hd
  ·split at hd
   ·rename_i hb
    split at hd
    ·rename_i hg1 hg2;simp only[hb,Ed hg1,Ed hg2];exact hd
    ·exact hd.elim
   ·exact hd.elim
  ·exact hd.elim
def ANh{α ι:Type}(args:α→List V)(hc:α→Ae)(pre:α→Prop)(post:α→ι→Prop)(res:α→ι→V)(hp:α→ι→Ae):Ai:=fun xs h κ=>
 ∃(a:α) (m:List (Option Nat)),match J0 m&&mOk (Ar h) m with
  |true=>Tp m xs (args a) (Ip m h m (hc a) (Ob (pre a)∧∀i,post a i→κ (Ev (M6 (Ar h) m) (res a i)) (Qo h m (hp a i))))
  |false=>False
theorem AHu {P:Program} {gl:List (Nat×V)} {f:Nat} {S:Ai} {α ι:Type} {args:α→List V} {hc:α→Ae} {pre:α→Prop} {post:α→ι→Prop} {res:α→ι→V} {hp:α→ι→Ae} (hS:Af P gl f S)
  (hi:∀a κ,pre a→(∀i,post a i→κ (res a i) (hp a i))→S (args a) (hc a) fun v k=>Wk (Ar (hc a)) v k κ) (hl:∀a i,(hc a).length≤(hp a i).length) (hr:∀a i,post a i→Hf (res a i)) (hr':∀a i u,post a i→some u∈hp a i→Hf u):
  Af P gl f (ANh args hc pre post res hp):=by
 have hF:=lA (iO hS)
 have key:∀{as:List V} {h:Ae} {κ:V→Ae→Prop},ANh args hc pre post res hp as h κ→pB (fun xs h κ=>S xs h fun v k=>Wk (Ar h) v k κ) as h κ:=by
  rintro as h κ ⟨a,m,h1⟩
  split at h1
  ·rename_i hb;obtain⟨h2,h3⟩:=Rv _ _ _ h1;obtain⟨h4,⟨h5⟩,h6⟩:=Kt _ _ _ h3;exact⟨m,args a,hc a,hb,h2,h4,hi a _ h5 fun i hq=>⟨by rw[(Ku h4).1];exact hl a i,hr a i hq,fun u=>hr' a i u hq,h6 i hq⟩⟩
  ·exact h1.elim
 refine⟨fun as h κ κ' hk hd=>?_,fun E h as args κ hw hs hgl hts hd=>hF.2 E h as args κ hw hs hgl hts (key hd)⟩;obtain⟨a,m,h1⟩:=hd;refine⟨a,m,?_⟩
 split at h1
 ·exact Pp (fun h2=>Ht (fun h3=>⟨h3.1,fun i hq=>hk _ _ (h3.2 i hq)⟩) h2) h1
 ·exact h1.elim
def AE(v v':V):Prop:=∀E x,T E v x→T E v' x
theorem AE.refl(v:V):AE v v:=fun _ _ h=>h
theorem AE.of{v v':V}(h:v=v'):AE v v':=h▸AE.refl v
theorem AE.imm{l:Bool}{sz n:Nat}{f g:Nat→V}(h:∀k,k<n→f k=g k):AE (.imm l sz n f) (.imm l sz n g):=fun _ _ hT=>Ke h hT
theorem AE.imm'{l:Bool}{sz n m:Nat}{f g:Nat→V}(hn:n=m)(h:∀k,k<m→f k=g k):AE (.imm l sz n f) (.imm l sz m g):=by subst hn;exact AE.imm h
theorem AE.row{sz n:Nat}{f g:Nat→V}(h:∀k,k<n→f k=g k):AE (.row sz n f) (.row sz n g):=fun _ _ hT=>Ui h hT
theorem AE.emp{l:Bool}{sz:Nat}{f:Nat→V}:AE .emp (.imm l sz 0 f):=fun _ _ hT=>Sw hT
def xM:List V→List V→Prop|[],[]=>True|v::l,v'::l'=>AE v v'∧xM l l'|_,_=>False
theorem xM.Ts{E:Env}:∀{l l':List V} {xs:List Value},xM l l'→Ts E l xs→Ts E l' xs
 |[],[],[],_,h=>h
 |_::_,_::_,_::_,ha,h=>⟨ha.1 _ _ h.1,xM.Ts ha.2 h.2⟩
 |[],_::_,_,ha,_|_::_,[],_,ha,_=>ha.elim
 |[],[],_::_,_,h|_::_,_::_,[],_,h=>h.elim
theorem xM.refl:∀l,xM l l|[]=>trivial|v::l=>⟨AE.refl v,xM.refl l⟩
theorem xM.of{l m:List V}(h:l=m):xM l m:=h▸xM.refl l
def Bf{α ρ:Type}(args:α→List V)(pre:α→Prop)(f:α→ρ)(res:ρ→V):A7:=fun xs Φ=>∃a,xM xs (args a)∧Ob (pre a)∧∀r,r=f a→Φ (res r)
theorem Ge{P:Program}{gl:List (Nat×V)}{n:Nat}{α ρ:Type}{args:α→List V}{pre:α→Prop}{f:α→ρ}{res:ρ→V}(h:FOk P gl n (Iq args pre fun a=>res (f a))):FOk P gl n (Bf args pre f res) where
 sng:=fun xs Φ h=>by
  obtain⟨a,ha,hp,h⟩:=h;exact⟨_,h _ rfl,fun _ h'=>⟨a,ha,hp,fun r hr=>hr▸h'⟩⟩
 ok:=fun xs Φ h'=>by
  obtain⟨a,ha,hp,h'⟩:=h';exact CP.le (fun E l hT=>ha.Ts hT) (h.ok _ Φ ⟨a,rfl,hp,h' _ rfl⟩)
theorem A8{P:Program}{gl:List (Nat×V)}{n:Nat}{α ρ:Type}{args:α→List V}{pre:α→Prop}{f:α→ρ}{res:ρ→V}(h:∀a,pre a→CP P gl n (args a) (fun v=>Ld v (res (f a)))):FOk P gl n (Bf args pre f res):=Ge (Fz h)
structure Cm(v v':V):Prop where
 size:A6 v'=A6 v
 r:∀E c o,R E v c o→R E v' c o
 o:own v→own v'
theorem Cm.refl(v:V):Cm v v:=⟨rfl,fun _ _ _ h=>h,id⟩
theorem Cm.of{v v':V}(h:v=v'):Cm v v':=h▸Cm.refl v
theorem Cm.imm{l:Bool}{sz n m:Nat}{f g:Nat→V}(hn:n=m)(h:∀k,k<m→f k=g k):Cm (.imm l sz n f) (.imm l sz m g):=by
 subst hn;refine⟨rfl,fun E c o hr=>?_,fun ho=>?_⟩
 ·simp only[R]at hr⊢;obtain⟨a,cp,h1,h2,h3⟩:=hr;exact⟨a,cp,h1,h2,h3.imp id fun⟨b,off,h4,h5,h6⟩=>⟨b,off,h4,h5,fun k hk=>by rw[←h k hk];exact h6 k hk⟩⟩
 ·cases l
  ·simp only[own]at ho⊢;exact fun k hk=>by rw[←h k hk];exact ho k hk
  ·simp only[own]at ho
theorem Cm.row{sz n:Nat}{f g:Nat→V}(h:∀k,k<n→f k=g k):Cm (.row sz n f) (.row sz n g):=by
 refine⟨rfl,fun E c o hr=>?_,fun ho=>?_⟩
 ·simp only[R]at hr⊢;exact fun k hk=>by rw[←h k hk];exact hr k hk
 ·simp only[own]at ho⊢;exact fun k hk=>by rw[←h k hk];exact ho k hk
theorem Cm.emp{sz:Nat}{f:Nat→V}:Cm .emp (.imm false sz 0 f):=by
 refine⟨rfl,fun E c o hr=>?_,fun _=>?_⟩
 ·simp only[R]at hr⊢;obtain⟨a,h⟩:=hr;exact⟨a,0,h,Nat.le_refl _, .inl trivial⟩
 ·simp only[own];exact fun k hk=>absurd hk (by omega)
inductive Qz:Vs→Vs→Prop where
 |nil:Qz .nil .nil
 |cons {v v':V} {l l':Vs} (h:Cm v v') (t:Qz l l'):Qz (.cons v l) (.cons v' l')
theorem Qz.all{l l':Vs}(h:Qz l l'):Au l'=Au l∧(∀E c o,RL E l c o→RL E l' c o)∧(Jz l→Jz l'):=by
 induction h with
 |nil=>exact⟨rfl,fun _ _ _ h=>h,id⟩
 |cons h t ih=>
  obtain⟨h1,h2,h3⟩:=ih;refine⟨by simp only[Au,h.size,h1],fun E c o hr=>?_,fun ho=>?_⟩
  ·simp only[RL]at hr⊢;exact⟨h.r _ _ _ hr.1,by rw[h.size];exact h2 _ _ _ hr.2⟩
  ·simp only[Jz]at ho⊢;exact⟨h.o ho.1,h3 ho.2⟩
theorem Qz.st{l l':Vs}(h:Qz l l'):Cm (.st l) (.st l'):=by
 obtain⟨h1,h2,h3⟩:=h.all;refine⟨by simp only[A6,h1],fun E c o hr=>?_,fun ho=>?_⟩
 ·simp only[R]at hr⊢;exact h2 _ _ _ hr
 ·simp only[own]at ho⊢;exact h3 ho
theorem Ld.st{l l':Vs}(h:Qz l l'):Ld (.st l) (.st l'):=by
 have h0:=h.st;obtain⟨h1,h2,h3⟩:=h.all;refine⟨fun E x hT=>?_,h0.o⟩;obtain⟨cs,rfl,h4,h5⟩:=Nm rfl hT;refine J3 rfl ?_ ?_
 ·rw[h4,h0.size]
 ·exact h0.r _ _ _ h5
section
variable {P:Program}
theorem Sq{ops:Array Oper}{Q:Exit→Act→World→Prop}{r n:Nat}(hd:∀(i:Nat) (o:Oper),ops[i]?=some o→∀c,o.op≠ .defer c)(hQ:¬LetsOut Q):
  ∀(l:List Nat) (a:Act) (w:World),wpOps P ops Q l a w→wpOpsIn (Fence.wide.inRound r) n P ops Q l a w
 |[],a,w,h=>h
 |i::rest,a,w,h=>by
  simp only[wpOps]at h;simp only[wpOpsIn]
  cases ho:ops[i]? with
  |none=>
   simp only[ho]at h⊢;exact Sq hd hQ rest a w h
  |some o=>
   simp only[ho]at h⊢
   by_cases hw:Region.wanted o (yielded ops a.tmps)=true
   ·simp only[hw,if_true]at h⊢
    rcases h with h|⟨_,h⟩
    ·refine⟨fun _ _=>trivial,?_⟩;rw[Oper.semAt_eq _ _ _ (hd i o ho)];unfold Oper.wp at h;have ih:=fun a w=>Sq (n:=n) (r:=r) hd hQ rest a w;revert h
     generalize(execOp a.eval o).run P w=R
     intro h
     cases R with
     |ok x w'=>
      cases x<;>first
       |exact h.elim
       |exact ih _ _ h
       |(refine⟨fun h=>(by cases h),CallsIn.inRound r (callsIn_wide.2 (Calls.mono h ?_))⟩
         intro e w'' he
         cases e<;>first|exact ih _ _ he|exact he)
       |(refine⟨fun h=>(by cases h),fun c cs _=>?_⟩
         obtain⟨v,w'',r',s⟩:=h c cs;exact⟨v,w'',ih _ _ r',stepsIn_wide.2 s⟩)
     |halt x w'=>cases x<;>first|exact h.elim|exact h
    ·exact absurd h hQ
   ·simp only[hw,if_false,Bool.false_eq_true]at h⊢;exact⟨fun _ _=>trivial,Sq hd hQ rest _ w h⟩
variable {Γ:Fu}
theorem cU (hΓ:Aj P Γ) {id r n:Nat} {ops:Array Oper} {E:Env} {σ:St} {a:Act} {K:St→Prop} {Q:Exit→Act→World→Prop} (hs:Nh Γ E σ a) (h:gT Γ ops.toList ops.toList K σ)
  (hd:∀(i:Nat) (o:Oper),ops[i]?=some o→∀c,o.op≠ .defer c) (hQ:¬LetsOut Q) (hk:∀E' a' σ',F6 E E'→Nh Γ E' σ' a'→K σ'→Q .normal a' E'.w):
  (Code.region id ops false).wpIn (Fence.wide.inRound r) n P Q a E.w:=
 wpIn_region (Sq hd hQ _ _ _ (by
  have:=Wh (P:=P) hΓ (Q':=Q) ops.toList 0 E σ a (fun j=>by simp) hs h fun E' a' σ' hx hs' hq=>hk E' a' σ' hx hs' hq
  rw[List.range_eq_range'];simpa using this))
end
def Na(l:List UInt8):Value:= .agg ((List.range 32).map fun q=>Value.int .u8 ((l.getD q 0).toNat:Nat)).toArray
theorem ALm(E:Env)(l:List UInt8):T E (arrV 32 l) (Na l):=by
 refine J3 rfl (by simp[arrV,A6]) ?_;simp only[arrV,R,bf,A6];intro k hk;refine⟨trivial,?_⟩;simp[hk]
structure aA(w0:World)(B:Nat)(l:Nat→List UInt8)(m:Nat)(W:World):Prop where
 below:Below w0.heap.size w0 W
 hB:w0.heap.size≤B
 box:∃(a:Option Addr) (cp r:Nat) (tB tR:TypeId) (bs cs:Array Value),W.heap[B]?=some (.cells bs tB (0,0))∧bs[0]?=some (.slice a m cp)∧m≤cp∧
  (m=0∧cp=0∨a=some ⟨r,0,none⟩∧w0.heap.size≤r∧r≠B∧W.heap[r]?=some (.cells cs tR (0,0))∧cp*32≤cs.size∧∀j,j<m→∀q,q<32→cs[j*32+q]?=some (.int .u8 (((l j).getD q 0).toNat:Nat)))
def ASi(Sx:Nat→Prop)(W:World)(n0 B r:Nat)(z:Bool):Env where
 w:=W
 ρ:=fun i=>match i with|0=>B|_=>r
 vt:=fun i=>match i with|0=>false|_=>z
 N:=2
 S:=Sx
 L:=fun _=>False
 K:=fun b=>b<n0∨Sx b∨∃o,W.heap[b]?=some o∧o.isCells=false
def jR(m:Nat)(l:Nat→List UInt8):Ae:=[some (.sl 1 [] 32 0 m m),some (.row 32 m fun j=>arrV 32 (l j))]
section
variable {P:Program} {Γ:Fu}
def iW(W:World)(B b:Nat):Prop:=b<W.heap.size∧b≠B∧∃(bs:Array Value) (tB:TypeId) (ad:Option Addr) (m cp:Nat),W.heap[B]?=some (.cells bs tB (0,0))∧bs[0]?=some (.slice ad m cp)∧∀p,ad=some p→0<cp→p.block≠b
theorem aA.sim {w0:World} {B m:Nat} {l:Nat→List UInt8} {W:World} (h:aA w0 B l m W) (Sx:Nat→Prop) (hSx:∀b,Sx b→iW W B b) (hgl:Γ.gl=[]) {tl:List (Nat×V)} {a:Act} (hsz:a.tmps.size=Γ.n) (hd:a.defers=[])
  (ht:∀(E:Env),0<E.N→E.ρ 0=B→E.S=Sx→E.w=W→∀k v,Kw tl k=some v→T E v (a.eval (.tmp k))):∃r z,Nh Γ (ASi Sx W w0.heap.size B r z) (Mq tl (jR m l)) a:=by
 obtain⟨hb,hB,ad,cp,r,tB,tR,bs,cs,h1,h2,h3,h4⟩:=h;have hBlt:B<W.heap.size:=(Array.getElem?_eq_some_iff.1 h1).1;have hbs:1≤bs.size:=(Array.getElem?_eq_some_iff.1 h2).1
 have key:∀z,(z=true→m=0∧cp=0)→(z=false→0<cp)→(z=false→ad=some ⟨r,0,none⟩∧w0.heap.size≤r∧r≠B∧W.heap[r]?=some (.cells cs tR (0,0))∧cp*32≤cs.size∧∀j,j<m→∀q,q<32→cs[j*32+q]?=some (.int .u8 (((l j).getD q 0).toNat:Nat)))→Nh Γ (ASi Sx W w0.heap.size B r z) (Mq tl (jR m l)) a:=fun z hz1 hcp hz2=>by
  refine{wf:=⟨fun _ h=> .inr (.inl h),fun _ h=>h.elim,fun b hk=>?_⟩,heap:=⟨rfl,fun i v hi=>?_,fun i j v v' hi hj hne e1 e2=>?_⟩,tmp:=fun k=>?_,size:=hsz,defers:=hd,gl:=fun p hp=>by rw[hgl]at hp;cases hp}
  ·rcases hk with hk|hk|⟨o,ho,_⟩
   ·exact Nat.lt_of_lt_of_le hk hb.size
   ·exact(hSx b hk).1
   ·exact(Array.getElem?_eq_some_iff.1 ho).1
  ·match i with
   |0=>
    simp only[Mq,jR,List.getElem?_cons_zero,Option.some.injEq]at hi;subst hi;refine .inr ⟨rfl,fun hk=>?_,bs,tB,h1,hbs,?_⟩
    ·rcases hk with hk|hk|⟨o,ho,hc⟩
     ·exact absurd hk (by show¬B<_;omega)
     ·exact(hSx B hk).2.1 rfl
     ·have ho:W.heap[B]?=some o:=ho;rw[h1]at ho;cases ho;cases hc
    ·simp only[R];refine⟨by show 1<2;omega,ad,cp,h2,Nat.le_refl _,h3,?_⟩
     cases z with
     |true=>exact .inl (hz1 rfl).2
     |false=>
      obtain⟨e1,e2,e3,e4,e5,_⟩:=hz2 rfl;exact .inr ⟨rfl,e1,cs,tR,(0,0),e4,by simp only[Bk];omega⟩
   |1=>
    simp only[Mq,jR,List.getElem?_cons_succ,List.getElem?_cons_zero,Option.some.injEq]at hi;subst hi
    cases z with
    |true=>
     refine .inl ⟨rfl,32,fun j=>arrV 32 (l j),?_⟩;rw[(hz1 rfl).1]
    |false=>
     obtain⟨e1,e2,e3,e4,e5,e6⟩:=hz2 rfl;refine .inr ⟨rfl,fun hk=>?_,cs,tR,e4,by simp only[A6];omega,?_⟩
     ·rcases hk with hk|hk|⟨o,ho,hc⟩
      ·exact absurd hk (by show¬r<_;omega)
      ·obtain⟨_,_,bs',tB',ad',m',cp',k1,k2,k3⟩:=hSx r hk;rw[h1]at k1
       cases k1
       rw[h2]at k2
       cases k2
       exact k3 _ e1 (by have:=hcp rfl;omega) rfl
      ·have ho:W.heap[r]?=some o:=ho;rw[e4]at ho;cases ho;cases hc
     ·simp only[R];intro k hk;refine⟨by simp[arrV,A6],?_⟩;simp only[arrV,R,bf,A6];intro q hq;exact⟨trivial,by rw[show 0+k*32+q*1=k*32+q by omega];exact e6 k hk q hq⟩
   |i+2=>simp[Mq,jR]at hi
  ·match i,j with
   |0,0=>exact absurd rfl hne
   |1,1=>exact absurd rfl hne
   |0,1=>
    have:z=false:=e2
    exact fun e=>(hz2 this).2.2.1 e.symm
   |1,0=>
    have:z=false:=e1
    exact(hz2 this).2.2.1
   |i+2,_=>simp[Mq,jR]at hi
   |0,j+2|1,j+2=>simp[Mq,jR]at hj
  ·simp only[Mq]
   split
   ·rename_i v hv;exact ht _ (by show 0<2;omega) rfl rfl rfl k v hv
   ·trivial
 by_cases hm:m=0∧cp=0
 ·exact⟨r,true,key true (fun _=>hm) (fun h=>by cases h) (fun h=>by cases h)⟩
 ·exact⟨r,false,key false (fun h=>by cases h) (fun _=>by omega) (fun _=>h4.resolve_left hm)⟩
theorem aA.of{w0:World}{B m:Nat}{l:Nat→List UInt8}{E:Env}{h:Ae}(hs:B8 E h)(g0:h[0]?=some (some (.sl 1 [] 32 0 m m)))(g1:h[1]?=some (some (.row 32 m fun j=>arrV 32 (l j))))(hb:Below w0.heap.size w0 E.w)(hB:w0.heap.size≤B)(hρ:E.ρ 0=B)(hK:∀b,b<w0.heap.size→E.K b):
  aA w0 B l m E.w:=by
 refine⟨hb,hB,?_⟩
 rcases hs.live 0 _ g0 with⟨_,sz,f,h⟩|⟨v0,_,bs,tB,h1,h2,h3⟩
 ·cases h
 rw[hρ]at h1;simp only[R]at h3;obtain⟨_,ad,cp,e1,e2,e3,e4⟩:=h3
 rcases e4 with e4|⟨v1,ea,cs,tR,fr,e5,e6⟩
 ·exact⟨ad,cp,0,tB,0,bs,#[],h1,e1,e3, .inl ⟨by omega,e4⟩⟩
 rcases hs.live 1 _ g1 with⟨v1',_⟩|⟨_,k1,cs',tR',h4,h5,h6⟩
 ·rw[v1]at v1';cases v1'
 rw[h4]at e5
 cases e5
 have hne:=hs.inj 0 1 _ _ g0 g1 (by omega) v0 v1;rw[hρ]at hne;refine⟨ad,cp,E.ρ 1,tB,_,bs,_,h1,e1,e3, .inr ⟨by simpa[Bk]using ea,?_,fun e=>hne e.symm,h4,by simp only[Bk]at e6;omega,fun j hj q hq=>?_⟩⟩
 ·rcases Nat.lt_or_ge (E.ρ 1) w0.heap.size with h|h
  ·exact absurd (hK _ h) k1
  ·exact h
 ·simp only[R]at h6;have h7:=(h6 j hj).2;simp only[arrV,R,bf,A6]at h7;have h8:=(h7 q hq).2;rw[show 0+j*32+q*1=j*32+q by omega]at h8;exact h8
theorem iW.of{B b m:Nat}{v:V}{E:Env}{h:Ae}(hs:B8 E h)(g0:h[0]?=some (some (.sl 1 [] 32 0 m m)))(g2:h[2]?=some (some v))(hv:∀sz f,v≠ .row sz 0 f)(g1:∃u,h[1]?=some (some u))(hρ:E.ρ 0=B)(hb:E.ρ 2=b):iW E.w B b:=by
 rcases hs.live 0 _ g0 with⟨_,sz,f,h⟩|⟨v0,_,bs,tB,h1,h2,h3⟩
 ·cases h
 rcases hs.live 2 _ g2 with⟨_,sz,f,h⟩|⟨v2,_,cs,tV,k1,k2,k3⟩
 ·exact absurd h (hv _ _)
 rw[hρ]at h1;rw[hb]at k1;have n1:=hs.inj 0 2 _ _ g0 g2 (by omega) v0 v2;rw[hρ,hb]at n1;simp only[R]at h3;obtain⟨_,ad,cp,e1,e2,e3,e4⟩:=h3;refine⟨(Array.getElem?_eq_some_iff.1 k1).1,fun e=>n1 e.symm,bs,tB,ad,m,cp,h1,e1,fun p hp hc=>?_⟩
 rcases e4 with e4|⟨v1,ea,_⟩
 ·omega
 ·obtain⟨u,g1⟩:=g1;have n2:=hs.inj 1 2 _ _ g1 g2 (by omega) v1 v2;rw[ea]at hp
  cases hp
  rw[hb]at n2;exact n2
theorem iW.own{B n1:Nat}:OwnFrom n1 (fun b W=>iW W B b):=fun b W W' row h hg hr=>by
 obtain⟨h1,h2,bs,tB,ad,m,cp,h3,h4,h5⟩:=h;refine⟨Nat.lt_of_lt_of_le h1 hg.size,h2,bs,tB,ad,m,cp,(hg.block B (Array.getElem?_eq_some_iff.1 h3).1 fun e=>?_).trans h3,h4,h5⟩;obtain⟨_,o,ho,hc⟩:=hr B e.symm;rw[h3]at ho;cases ho;cases hc
theorem aA.congr{w0:World}{B m:Nat}{l l':Nat→List UInt8}{W:World}(h:aA w0 B l m W)(hl:∀j,j<m→l j=l' j):aA w0 B l' m W:=by
 obtain⟨hb,hB,ad,cp,r,tB,tR,bs,cs,h1,h2,h3,h4⟩:=h;exact⟨hb,hB,ad,cp,r,tB,tR,bs,cs,h1,h2,h3,h4.imp id fun⟨e1,e2,e3,e4,e5,e6⟩=>⟨e1,e2,e3,e4,e5,fun j hj q hq=>by rw[←hl j hj];exact e6 j hj q hq⟩⟩
theorem aA.own{w0:World}{B:Nat}{l:Nat→List UInt8}{n1:Nat}(hn:w0.heap.size≤n1):OwnFrom n1 (fun m W=>aA w0 B l m W):=fun m W W' row h hg hr=>by
 obtain⟨hb,hB,ad,cp,r,tB,tR,bs,cs,h1,h2,h3,h4⟩:=h
 have hk:∀(b:Nat) (cs:Array Value) (t:TypeId) (fr:Nat×Nat),W.heap[b]?=some (.cells cs t fr)→W'.heap[b]?=some (.cells cs t fr):=fun b cs t fr hb=>by
  refine(hg.block b (Array.getElem?_eq_some_iff.1 hb).1 fun e=>?_).trans hb;obtain⟨_,o,ho,hc⟩:=hr b e.symm;rw[hb]at ho;cases ho;cases hc
 refine⟨hb.grown hg hb.size (fun k e=>Nat.le_trans hn (hr k e).1),hB,ad,cp,r,tB,tR,bs,cs,hk _ _ _ _ h1,h2,h3,h4.imp id fun⟨e1,e2,e3,e4,e5⟩=>⟨e1,e2,e3,hk _ _ _ _ e4,e5⟩⟩
end
section
variable {P:Program} {Γ:Fu}
def Hj(ro:Option Nat):Fence:={Fence.wide with round:=ro}
def tC(j:Nat):List Oper→Bool
 |[]=>true
 |o::l=>(match o.dst with|some k=> !Nat.beq k j|none=>true)&&tC j l
theorem Oa{ops:Array Oper}{j:Nat}(h:tC j ops.toList=true)(i:Nat)(o:Oper)(ho:ops[i]?=some o):o.dst≠some j:=by
 rw[←Array.getElem?_toList]at ho
 have:∀(l:List Oper) (i:Nat),tC j l=true→l[i]?=some o→o.dst≠some j:=by
  intro l
  induction l with
  |nil=>intro i _ h;simp at h
  |cons x l ih=>
   intro i h hi;simp only[tC,Bool.and_eq_true]at h
   cases i with
   |zero=>
    simp at hi
    subst hi;intro e;rw[e]at h;simp at h
   |succ i=>exact ih i h.2 (by simpa using hi)
 exact this _ _ h ho
theorem Eu{a:Act}{d:Option Tmp}{v:Value}{j:Nat}(h:d≠some j):(a.put d v).eval (.tmp j)=a.eval (.tmp j):=by
 cases d with
 |none=>rfl
 |some k=>
  have:k≠j:=fun e=>h (by rw[e])
  simp[Act.put,Act.eval,Array.getD_eq_getD_getElem?,this]
theorem AC3{o:Oper}{a:Act}{w:World}{K:Act→World→Prop}{Q:Exit→Act→World→Prop}(h:o.wp P a w K Q):o.wp P a w (fun a' w'=>K a' w'∧∀j,o.dst≠some j→a'.eval (.tmp j)=a.eval (.tmp j)) Q:=by
 unfold Oper.wp at*;revert h
 generalize(execOp a.eval o).run P w=R
 intro h
 cases R with
 |ok x w'=>
  cases x<;>first
   |exact h.elim
   |exact⟨h,fun j hj=>Eu hj⟩
   |exact⟨h,fun j hj=>(Eu hj).trans rfl⟩
   |(refine Calls.mono h ?_
     intro e w'' he
     cases e<;>first|exact⟨he,fun j hj=>Eu hj⟩|exact he)
   |(intro c cs
     obtain⟨v,w'',r',s⟩:=h c cs;exact⟨v,w'',⟨r',fun j hj=>Eu hj⟩,s⟩)
 |halt x w'=>cases x<;>first|exact h.elim|exact h
theorem qN{ops:Array Oper}{Q:Exit→Act→World→Prop}{i:Nat}{a:Act}{w:World}{K:Act→World→Prop}(h:wpOp P ops Q i K a w):
  wpOp P ops Q i (fun a' w'=>K a' w'∧∀j,(∀o,ops[i]?=some o→o.dst≠some j)→a'.eval (.tmp j)=a.eval (.tmp j)) a w:=by
 unfold wpOp at*
 cases ho:ops[i]? with
 |none=>
  simp only[ho]at h⊢;exact⟨h,by simp⟩
 |some o=>
  simp only[ho]at h⊢
  split
  ·rename_i hw;rw[if_pos hw]at h;exact h.imp (fun h=>Oper.wp_mono (fun a' w' hk=>⟨hk.1,fun j hj=>hk.2 j (hj o rfl)⟩) (AC3 h)) id
  ·rename_i hw;rw[if_neg hw]at h;exact⟨h,fun j hj=>Eu (hj o rfl)⟩
theorem P3{ops:Array Oper}{Q:Exit→Act→World→Prop}{j:Nat}(hj:∀(i:Nat) (o:Oper),ops[i]?=some o→o.dst≠some j):∀(l:List Nat) (a:Act) (w:World),wpOps P ops Q l a w→∀x,a.eval (.tmp j)=x→
  wpOps P ops (fun e a' w'=>Q e a' w'∧(e= .normal→a'.eval (.tmp j)=x)) l a w
 |[],a,w,h,x,hx=>⟨h,fun _=>hx⟩
 |i::rest,a,w,h,x,hx=>by
  rw[wpOps_cons]at h⊢;have h:=qN h;unfold wpOp at*
  cases ho:ops[i]? with
  |none=>
   simp only[ho]at h⊢;exact P3 hj rest a w h.1 x hx
  |some o=>
   simp only[ho]at h⊢
   have hk:∀a' w',wpOps P ops Q rest a' w'∧(∀j,(∀o',some o=some o'→o'.dst≠some j)→a'.eval (.tmp j)=a.eval (.tmp j))→wpOps P ops (fun e a' w'=>Q e a' w'∧(e= .normal→a'.eval (.tmp j)=x)) rest a' w':=fun a' w' hh=>
    P3 hj rest a' w' hh.1 x ((hh.2 j fun o' e=>by cases e;exact hj i o ho).trans hx)
   split
   ·rename_i hw;rw[if_pos hw]at h
    rcases h with h|⟨h1,a0,w0,h2⟩
    ·left
     unfold Oper.wp Oper.upon at h⊢;revert h
     generalize(execOp a.eval o).run P w=R
     intro h
     split<;>first
      |exact hk _ _ h
      |(refine Calls.mono h ?_
        intro e w'' he
        cases e<;>first
         |exact hk _ _ he
         |exact⟨he,fun e=>by cases e⟩
         |(obtain⟨a0,w0,h2⟩:=he;exact⟨a0,w0,h2,fun e=>by cases e⟩))
      |exact Rows.mono h fun v w'' he=>hk _ _ he
      |exact⟨h,fun e=>by cases e⟩
      |(split at h<;>simp_all)
      |simp_all
    ·exact .inr ⟨h1,a0,w0,h2,fun e=>by cases e⟩
   ·rename_i hw;rw[if_neg hw]at h;exact hk _ _ h
theorem Lv (hΓ:Aj P Γ) {id:Nat} {ops:Array Oper} {E:Env} {σ:St} {a:Act} {K:St→Prop} {Q:Exit→Act→World→Prop} {j:Nat} (hj:∀(i:Nat) (o:Oper),ops[i]?=some o→o.dst≠some j) (hs:Nh Γ E σ a) (h:gT Γ ops.toList ops.toList K σ)
  (hk:∀E' a' σ',F6 E E'→Nh Γ E' σ' a'→K σ'→a'.eval (.tmp j)=a.eval (.tmp j)→Q .normal a' E'.w):(Code.region id ops false).wp P Q a E.w:=by
 have h1:=Wh (P:=P) hΓ (Q':=fun e a' w'=>e= .normal∧∃E' σ',w'=E'.w∧F6 E E'∧Nh Γ E' σ' a'∧K σ') ops.toList 0 E σ a (fun j=>by simp) hs h fun E' a' σ' hx hs' hq=>⟨rfl,E',σ',rfl,hx,hs',hq⟩;have h2:=P3 hj _ _ _ h1 _ rfl;have h3:=wp_region (id:=id) (by rw[List.range_eq_range'];simpa using h2);refine wp_mono h3 ?_
 rintro e a' w' ⟨⟨he,E',hw,hx,σ',hs',hq⟩,hf⟩
 subst he hw;exact hk E' a' σ' hx hs' hq (hf rfl)
theorem bQ{args:Array Value}{m:Nat}{ds:List Deferred}{k:Nat}{x:Value}(h:args[k]?=some x):({tmps:=args++Array.replicate m undef,defers:=ds}:Act).eval (.tmp k)=x:=by
 have hlt:k<args.size:=(Array.getElem?_eq_some_iff.1 h).1;simp only[Act.eval,Array.getD_eq_getD_getElem?];rw[Array.getElem?_append_left hlt,h];rfl
theorem Qv {ops:Array Oper} {Q:Exit→Act→World→Prop} {i:Nat} {rest:List Nat} {a:Act} {w w':World} {ro:Option Nat} {n:Nat} {o:Oper} {v:Value} (ho:ops[i]?=some o) (hg:o.guard=none) (hd:∀c,o.op≠ .defer c)
  (hr:(execOp a.eval o).run P w= .ok (.value v) w') (h:wpOpsIn (Hj ro) n P ops Q rest (a.put o.dst v) w'):wpOpsIn (Hj ro) n P ops Q (i::rest) a w:=by
 have hw:Region.wanted o (yielded ops a.tmps)=true:=by simp[Region.wanted,hg]
 simp only[wpOpsIn,ho,hw,if_true];refine⟨fun _ _=>trivial,?_⟩;rw[Oper.semAt_eq _ _ _ hd,hr];exact h
theorem ACo {ops:Array Oper} {Q:Exit→Act→World→Prop} {i:Nat} {rest:List Nat} {a:Act} {w w':World} {ro:Option Nat} {n:Nat} {o:Oper} {l:Nat} {fn:FuncId} {tmps:Array Value} {assign body:Code} (ho:ops[i]?=some o) (hg:o.guard=none) (hd:∀c,o.op≠ .defer c)
  (hr:(execOp a.eval o).run P w= .ok (.round l fn tmps assign body) w') (h:RoundIn (Hj ro) (n - 1) P l fn tmps assign body w' fun
    | .returned v,w''=>wpOpsIn (Hj ro) n P ops Q rest (a.put o.dst v) w''
    | .panicked chain,w''=>Q (.panic chain) a w''
    | .outgrown,_=>LetsOut Q):wpOpsIn (Hj ro) n P ops Q (i::rest) a w:=by
 have hw:Region.wanted o (yielded ops a.tmps)=true:=by simp[Region.wanted,hg]
 simp only[wpOpsIn,ho,hw,if_true];refine⟨fun _ _=>trivial,?_⟩;rw[Oper.semAt_eq _ _ _ hd,hr];exact⟨(fun h=>by cases h),h⟩
theorem C6{a:Act}{d:Tmp}{v:Value}(h:d<a.tmps.size):(a.put (some d) v).eval (.tmp d)=v:=by
 simp[Act.put,Act.eval,Array.getD_eq_getD_getElem?,h]
theorem Ha{a:Act}{d:Option Tmp}{v:Value}:(a.put d v).tmps.size=a.tmps.size:=by cases d<;>simp[Act.put]
theorem Dt{a:Act}{d:Option Tmp}{v:Value}:(a.put d v).defers=a.defers:=by cases d<;>rfl
theorem zR{f:FuncId}{fn:Func}{c:Code}(hf:P.funcs[f]?=some fn)(hname:(fn.name== "runtime.NumGoroutine")=false)(hb:fn.body=some c)(args:Array Value)(w:World):(callFunc f args).run P w= .ok (.enter f args) w:=by
 have h1:fn.name≠ "runtime.NumGoroutine" :=by simpa using hname
 simp[callFunc,hf,h1,hb]
theorem ABp{tb:List (Option TI)}(ht:Bu P tb){t:Nat}{i:TI}(hg:Bi tb t=some i)(ha:i.d.isAgg=false){b o:Nat}{x:Value}{w:World}(hc:w.cell? ⟨b,o,none⟩=some x):(Instr.loadAt t (.pointer (some ⟨b,o,none⟩))).run P w= .ok x w:=by
 have hty:=ht.get hg;obtain⟨d,hu,hd⟩:=hty.isAgg
 have h1:(loadVar t ⟨b,o,none⟩).run P w= .ok x w:=by
  simp only[loadVar,Sem.run_bind,Mn hu,hd,ha,Result.andThen_ok,Bool.false_eq_true,if_false,run_load,hc]
 simpa[Instr.loadAt,Instr.sureAddr]using h1
def Mz(W:World)(n0:Nat):Env where
 w:=W
 ρ:=fun _=>0
 vt:=fun _=>false
 N:=0
 S:=fun _=>False
 L:=fun b=>b<n0
 K:=fun b=>b<W.heap.size
theorem Ya{W:World}{n0:Nat}(h:n0≤W.heap.size):Wf (Mz W n0):=⟨fun _ h=>h.elim,fun _ hb=>Nat.lt_of_lt_of_le hb h,fun _ h=>h⟩
theorem Kq{W:World}{n0:Nat}{E':Env}(hx:F6 (Mz W n0) E'):W.grownBy E'.w none:=⟨hx.os,hx.tape,hx.output,hx.size,fun k hk _=>hx.kept k hk⟩
end
def Env.late(E:Env)(w':World)(r:Nat):Env:=
 {E with w:=w',ρ:=fun i=>if i=E.N then r else E.ρ i,vt:=fun i=>if i=E.N then false else E.vt i,N:=E.N+1}
theorem Env.ext_late{E:Env}(hw:Wf E){w':World}(hb:Below E.w.heap.size E.w w')(r:Nat):F6 E (E.late w' r) where
 os:=hb.os
 tape:=hb.tape
 output:=hb.output
 size:=hb.size
 N:=Nat.le_succ _
 ρ:=fun i hi=>by simp only[Env.late];rw[if_neg (by omega)]
 vt:=fun i hi=>by simp only[Env.late];rw[if_neg (by omega)]
 S:=fun _ h=>h
 S':=fun _ h=> .inl h
 L:=fun _=>Iff.rfl
 K:=fun _ h=>h
 kept:=fun b hk=>hb.block b (hw.K b hk)
 cells:=fun b cs t fr hc=>⟨cs,fr,(hb.block b (Array.getElem?_eq_some_iff.1 hc).1).trans hc,rfl⟩
theorem Env.wf_late{E:Env}(hw:Wf E){w':World}(hb:Below E.w.heap.size E.w w')(r:Nat):Wf (E.late w' r):=⟨hw.S,hw.L,fun b hk=>Nat.lt_of_lt_of_le (hw.K b hk) hb.size⟩
theorem AHh{E:Env}{h:List (Option V)}(hw:Wf E)(hs:B8 E h){w':World}(hb:Below E.w.heap.size E.w w'){r:Nat}(hr:E.w.heap.size≤r){cs:Array Value}{t:TypeId}{v:V}(hc:w'.heap[r]?=some (.cells cs t (0,0)))(hv:R (E.late w' r) v (fun q=>cs[q]?) 0)(hz:A6 v≤cs.size):
  B8 (E.late w' r) (h++[some v]):=by
 have hx:=Env.ext_late hw hb r
 have hold:∀i u,h[i]?=some (some u)→E.vt i=false→E.ρ i<E.w.heap.size:=fun i u hi hv=>by
  rcases hs.live i u hi with⟨h1,_⟩|⟨_,_,cs',t',h3,_⟩
  ·rw[h1]at hv;cases hv
  ·exact(Array.getElem?_eq_some_iff.1 h3).1
 refine⟨by simp[Env.late,hs.len],fun i u hi=>?_,fun i j u u' hi hj hne h1 h2=>?_⟩
 ·rw[List.getElem?_append]at hi
  split at hi
  ·rename_i hlt;have hiN:i<E.N:=by rw[←hs.len];exact hlt
   exact(hs.live i u hi).ext hw hx hiN (fun h _=>h) (fun hv=>hb.block _ (hold i u hi hv))
  ·rename_i hlt;rw[hs.len]at hi hlt
   have:i=E.N:=by
    have:=(List.getElem?_eq_some_iff.1 hi).1
    simp at this;omega
   subst this;simp at hi
   subst hi;refine .inr ⟨by simp[Env.late],?_,cs,t,?_,hz,hv⟩
   ·simp only[Env.late,if_true];exact fun hk=>absurd (hw.K r hk) (by omega)
   ·simp only[Env.late,if_true];exact hc
 ·rw[List.getElem?_append]at hi hj
  have key:∀i u,i<h.length→h[i]?=some (some u)→(E.late w' r).vt i=false→(E.late w' r).ρ i<E.w.heap.size:=fun i u hlt hi hv=>by
   rw[hs.len]at hlt;simp only[Env.late]at hv⊢;rw[if_neg (by omega)]at hv⊢;exact hold i u hi hv
  have last:∀i u,¬i<h.length→([some v]:List (Option V))[i - h.length]?=some (some u)→i=E.N:=fun i u hlt hi=>by
   have:=(List.getElem?_eq_some_iff.1 hi).1
   rw[hs.len]at*;simp at this;omega
  split at hi
  ·rename_i hli
   split at hj
   ·rename_i hlj;have e1:i<E.N:=by rw[←hs.len];exact hli
    have e2:j<E.N:=by rw[←hs.len];exact hlj
    simp only[Env.late]at h1 h2⊢;rw[if_neg (by omega)]at h1 h2⊢;rw[if_neg (by omega)];exact hs.inj i j u u' hi hj hne h1 h2
   ·rename_i hlj
    have:=last j u' hlj hj
    have hk:=key i u hli hi h1;subst this;intro e;rw[e]at hk;simp only[Env.late,if_true]at hk;omega
  ·rename_i hli;have hiN:=last i u hli hi
   split at hj
   ·rename_i hlj;have hk:=key j u' hlj hj h2;subst hiN;intro e;rw[←e]at hk;simp only[Env.late,if_true]at hk;omega
   ·rename_i hlj;exact absurd (hiN.trans (last j u' hlj hj).symm) hne
def TyF(T:TypeId→V→Prop):List Field→Vs→Prop
 |[], .nil=>True
 |x::fs, .cons v l=>T x.type v∧TyF T fs l
 |_,_=>False
def Ty(P:Program):Nat→TypeId→V→Prop
 |0,_,_=>False
 |f+1,t,v=>match P.underlying t with
  |some .bool=>∃b,v= .bool b
  |some (.int k)=>∃n,v= .int k n∧(Lit.int k n).wf=true
  |some .string=>∃s:List UInt8,v= .str s∧s.length≤maxLen
  |some (.slice e)=>∃n g,v= .imm false (P.cellsOf e) n g∧n≤maxLen∧∀k,k<n→A6 (g k)=P.cellsOf e∧Ty P f e (g k)
  |some (.array n e)=>∃g,v= .row (P.cellsOf e) n g∧∀k,k<n→A6 (g k)=P.cellsOf e∧Ty P f e (g k)
  |some (.struct fs)=>∃l,v= .st l∧TyF (Ty P f) fs.toList l
  |_=>False
def plF(p:TypeId→Bool)(P:Program):Nat→List Field→Option Nat
 |o,[]=>some o
 |o,x::fs=>match Nat.beq x.offset o&&p x.type with|true=>plF p P (o+P.cellsOf x.type) fs|false=>none
def tN(P:Program):Nat→TypeId→Bool
 |0,_=>false
 |f+1,t=>match P.underlying t with
  |some .bool|some (.int _)|some .string=>Nat.beq (P.cellsOf t) 1
  |some (.slice e)=>Nat.beq (P.cellsOf t) 1&&(Nat.ble 1 (P.cellsOf e)&&tN P f e)
  |some (.array n e)=>Nat.beq (P.cellsOf t) (n*P.cellsOf e)&&tN P f e
  |some (.struct fs)=>match plF (tN P f) P 0 fs.toList with|some o=>Nat.beq o (P.cellsOf t)|none=>false
  |_=>false
section
variable {H:Type} {M9:TypeId×Value→H} {P:Program} {w:World} {base:Nat} {spare:Nat→Bool} {held:Bool}
theorem yN(b o n:Nat):(Addr.mk b o none).add n=⟨b,o+n,none⟩:=by
 unfold Addr.add
 split
 ·rename_i h;subst h;rfl
 ·rfl
theorem yB{E:Env}{v:V}{cs:List Value}{o n:Nat}(hv:A6 v=n)(h:R E v (fun q=>((cs.drop o).take n)[q]?) 0):R E v (fun q=>cs[q]?) o:=by
 refine Bp _ _ _ 0 o (fun q hq=>?_) h
 show cs[o+q]?=((cs.drop o).take n)[0+q]?
 rw[List.getElem?_take,if_pos (by omega),List.getElem?_drop,Nat.zero_add]
theorem tI {fuel:Nat} {E:Env} {p:TypeId→Bool} {Q:TypeId→V→Prop} {cs:List Value}
  (hq:∀t o,p t=true→(∃y,DataW.trod M9 P w base spare held fuel t ((cs.drop o).take (P.cellsOf t))=some y)→∃v,Q t v∧A6 v=P.cellsOf t∧R E v (fun q=>cs[q]?) o):
  ∀(fs:List Field) (o o':Nat),plF p P o fs=some o'→(∀x,x∈fs→∃y,DataW.trod M9 P w base spare held fuel x.type ((cs.drop x.offset).take (P.cellsOf x.type))=some y)→
   ∃l,TyF Q fs l∧o+Au l=o'∧RL E l (fun q=>cs[q]?) o
 |[],o,o',h,_=>by
  simp only[plF,Option.some.injEq]at h;exact⟨.nil,trivial,by simp only[Au];omega,trivial⟩
 |x::fs,o,o',h,ha=>by
  simp only[plF]at h
  split at h
  ·rename_i hb;simp only[Bool.and_eq_true,Nat.beq_eq]at hb;obtain⟨v,h1,h2,h3⟩:=hq x.type x.offset hb.2 (ha x (by simp));obtain⟨l,h4,h5,h6⟩:=tI hq fs _ o' h (fun y hy=>ha y (by simp[hy]))
   rw[hb.1]at h3;exact⟨.cons v l,⟨h1,h4⟩,by simp only[Au];omega,h3,by rw[h2];exact h6⟩
  ·cases h
theorem Pr:∀(f fuel:Nat) (t:TypeId) (cs:List Value) (x:DataW H×List MemPlace),tN P f t=true→DataW.trod M9 P w base spare held fuel t cs=some x→∃v,Ty P f t v∧A6 v=P.cellsOf t∧R (Env.law w) v (fun q=>cs[q]?) 0
 |0,_,_,_,_,h,_=>by simp[tN]at h
 |f+1,fuel,t,cs,x,hp,h=>by
  simp only[tN]at hp
  split at hp
  ·rename_i hu;obtain⟨b,rfl,_⟩:=DataW.trod_bool hu h;refine⟨.bool b,by simp only[Ty,hu];exact⟨b,rfl⟩,by simp only[Nat.beq_eq]at hp;exact hp.symm,by simp[R]⟩
  ·rename_i k hu;obtain⟨n,rfl,_,hw⟩:=DataW.trod_int hu h;refine⟨.int k n,by simp only[Ty,hu];exact⟨n,rfl,hw⟩,by simp only[Nat.beq_eq]at hp;exact hp.symm,by simp[R]⟩
  ·rename_i hu;obtain⟨s,rfl,_,hs⟩:=DataW.trod_string hu h;refine⟨.str s.data.toList,by simp only[Ty,hu];exact⟨_,rfl,by simpa using hs⟩,by simp only[Nat.beq_eq]at hp;exact hp.symm,by simp[R]⟩
  ·rename_i e hu;simp only[Bool.and_eq_true,Nat.beq_eq,Nat.ble_eq]at hp
   rcases Go.Deep.open_slice hu h with⟨rfl,_⟩|⟨ad,len,cap,m,n,D,Pl,rfl,hb,hl,hcap,hm,_,hel⟩
   ·refine⟨.imm false (P.cellsOf e) 0 fun _=> .any,by simp only[Ty,hu];exact⟨0,_,rfl,Nat.zero_le _,fun k hk=>absurd hk (Nat.not_lt_zero _)⟩,hp.1.symm,?_⟩;simp only[R];exact⟨none,0,rfl,Nat.le_refl _, .inl trivial⟩
   ·have hlm:len≤m:=by rw[hm];split<;>omega
    have hk:∀i,∃v,i<len→(Ty P f e v∧A6 v=P.cellsOf e∧∃cs',w.cells? base (ad.add (i*P.cellsOf e)) (P.cellsOf e)=some cs'∧R (Env.law w) v (fun q=>cs'[q]?) 0):=fun i=>by
     by_cases hi:i<len
     ·obtain⟨cs',h1,h2⟩:=hel i (by omega);obtain⟨v,h3,h4,h5⟩:=Pr f n e cs' _ hp.2.2 h2;exact⟨v,fun _=>⟨h3,h4,cs',h1,h5⟩⟩
     ·exact⟨.any,fun h=>absurd h hi⟩
    obtain⟨g,hg⟩:=Classical.axiomOfChoice hk;refine⟨.imm false (P.cellsOf e) len g,by simp only[Ty,hu];exact⟨len,g,rfl,by omega,fun k hk=>⟨(hg k hk).2.1,(hg k hk).1⟩⟩,hp.1.symm,?_⟩;simp only[R];refine⟨some ad,cap,rfl,hl,?_⟩
    by_cases h0:len=0
    ·exact .inl h0
    ·right
     have hspot:ad.spot=none∧ad.block<w.heap.size:=by
      obtain⟨_,_,cs',h1,_⟩:=hg 0 (by omega);obtain⟨_,h2,h3⟩:=World.cells?_some h1;have h4:=h3 0 (by omega);rw[List.getElem?_eq_getElem (by omega),Nat.zero_mul]at h4;have h5:(ad.add 0).add 0=ad:=by simp[Addr.add]
      rw[h5]at h4;unfold World.cell? at h4
      split at h4
      ·rename_i hh;refine⟨?_,(Array.getElem?_eq_some_iff.1 hh).1⟩
       split at h4
       ·cases h4
       ·rename_i hs;simpa using hs
      ·cases h4
     obtain⟨b,off,sp⟩:=ad;obtain⟨rfl,hlt⟩:=hspot;refine⟨b,off,rfl,hlt,fun k hk=>⟨(hg k hk).2.1,?_⟩⟩;obtain⟨_,hv,cs',h1,h5⟩:=hg k hk;obtain⟨_,h2,h3⟩:=World.cells?_some h1;refine Bp _ _ _ 0 (off+k*P.cellsOf e) (fun q hq=>?_) h5
     have:=h3 q (by omega)
     rw[yN,yN]at this;rw[Nat.zero_add];exact this
  ·rename_i n e hu;simp only[Bool.and_eq_true,Nat.beq_eq]at hp;obtain⟨xs,m,rfl,rfl,Ar,hxs,hel⟩:=DataW.trod_array hu h
   have hk:∀i,∃v,i<n→(Ty P f e v∧A6 v=P.cellsOf e∧R (Env.law w) v (fun q=>cs[q]?) (i*P.cellsOf e)):=fun i=>by
    by_cases hi:i<n
    ·have h1:=hel i hi;rw[List.getElem?_eq_getElem (by omega)]at h1;obtain⟨v,h3,h4,h5⟩:=Pr f m e _ _ hp.2 h1;exact⟨v,fun _=>⟨h3,h4,yB h4 h5⟩⟩
    ·exact⟨.any,fun h=>absurd h hi⟩
   obtain⟨g,hg⟩:=Classical.axiomOfChoice hk;refine⟨.row (P.cellsOf e) n g,by simp only[Ty,hu];exact⟨g,rfl,fun k hk=>⟨(hg k hk).2.1,(hg k hk).1⟩⟩,by simp only[A6];rw[hp.1,Nat.mul_comm],?_⟩
   simp only[R];exact fun k hk=>⟨(hg k hk).2.1,by rw[Nat.zero_add];exact(hg k hk).2.2⟩
  ·rename_i fs hu;obtain⟨xs,m,rfl,rfl,Ar,hxs,hel⟩:=DataW.trod_struct hu h
   split at hp
   ·rename_i o ho;simp only[Nat.beq_eq]at hp
    obtain⟨l,h1,h2,h3⟩:=tI (fuel:=m) (cs:=cs) (p:=tN P f) (P:=P) (M9:=M9) (w:=w) (base:=base) (spare:=spare) (held:=held) (E:=Env.law w) (Q:=Ty P f) (fun t o ht hy=>by
     obtain⟨y,hy⟩:=hy;obtain⟨v,h3,h4,h5⟩:=Pr f m t _ _ ht hy;exact⟨v,h3,h4,yB h4 h5⟩) fs.toList 0 o ho (fun x hx=>by
     obtain⟨i,hi,rfl⟩:=List.getElem_of_mem hx;have h1:=hel i fs.toList[i] (by simp at hi;simp[hi]);simp at hi
     rw[List.getElem?_eq_getElem (by omega)]at h1;exact⟨_,h1⟩)
    refine⟨.st l,by simp only[Ty,hu];exact⟨l,rfl,h1⟩,by simp only[A6];omega,?_⟩;simp only[R];exact h3
   ·cases hp
  ·cases hp
end
structure RE(v v':V):Prop where
 size:A6 v=A6 v'
 r:∀E c o,R E v c o→R E v' c o
theorem RE.refl(v:V):RE v v:=⟨rfl,fun _ _ _ h=>h⟩
theorem RE.of{v v':V}(h:v=v'):RE v v':=h▸RE.refl v
theorem RE.row{sz n:Nat}{f g:Nat→V}(h:∀k,k<n→RE (f k) (g k)):RE (.row sz n f) (.row sz n g) where
 size:=rfl
 r:=fun E c o hr=>by
  simp only[R]at hr⊢;exact fun k hk=>⟨(h k hk).size▸(hr k hk).1,(h k hk).r _ _ _ (hr k hk).2⟩
theorem RE.imm{b:Bool}{sz n:Nat}{f g:Nat→V}(h:∀k,k<n→RE (f k) (g k)):RE (.imm b sz n f) (.imm b sz n g) where
 size:=rfl
 r:=fun E c o hr=>by
  simp only[R]at hr⊢;obtain⟨a,cp,h1,h2,h3⟩:=hr;refine⟨a,cp,h1,h2,h3.imp_right fun⟨x,off,h4,h5,h6⟩=>⟨x,off,h4,h5,fun k hk=>⟨(h k hk).size▸(h6 k hk).1,(h k hk).r _ _ _ (h6 k hk).2⟩⟩⟩
def REs:Vs→Vs→Prop| .nil, .nil=>True| .cons v l, .cons v' l'=>RE v v'∧REs l l'|_,_=>False
theorem REs.size:∀{l l':Vs},REs l l'→Au l=Au l'
 | .nil, .nil,_=>rfl
 | .cons v l, .cons v' l',h=>by simp only[Au];rw[h.1.size,REs.size h.2]
theorem REs.r:∀{l l':Vs},REs l l'→∀E c o,RL E l c o→RL E l' c o
 | .nil, .nil,_,_,_,_,_=>trivial
 | .cons v l, .cons v' l',h,E,c,o,hr=>⟨h.1.r _ _ _ hr.1,h.1.size▸REs.r h.2 _ _ _ hr.2⟩
theorem RE.st{l l':Vs}(h:REs l l'):RE (.st l) (.st l'):=⟨h.size,fun E c o hr=>h.r E c o hr⟩
section
variable {P:Program} {f:Nat} {t:TypeId} {v:V}
theorem Ty.bool(hu:P.underlying t=some .bool)(h:Ty P f t v):∃b,v= .bool b:=by
 cases f with
 |zero=>exact h.elim
 |succ f=>simpa only[Ty,hu]using h
theorem Ty.int{k:IntKind}(hu:P.underlying t=some (.int k))(h:Ty P f t v):∃n,v= .int k n∧(Lit.int k n).wf=true:=by
 cases f with
 |zero=>exact h.elim
 |succ f=>simpa only[Ty,hu]using h
theorem Ty.string(hu:P.underlying t=some .string)(h:Ty P f t v):∃s:List UInt8,v= .str s∧s.length≤maxLen:=by
 cases f with
 |zero=>exact h.elim
 |succ f=>simpa only[Ty,hu]using h
theorem Ty.slice{e:TypeId}{sz:Nat}(hu:P.underlying t=some (.slice e))(hs:P.cellsOf e=sz)(h:Ty P f t v):∃n g m,v= .imm false sz n g∧n≤maxLen∧∀k,k<n→Ty P m e (g k):=by
 cases f with
 |zero=>exact h.elim
 |succ f=>
  simp only[Ty,hu,hs]at h;obtain⟨n,g,h1,h2,h3⟩:=h;exact⟨n,g,f,h1,h2,fun k hk=>(h3 k hk).2⟩
theorem Ty.array{e:TypeId}{n sz:Nat}(hu:P.underlying t=some (.array n e))(hs:P.cellsOf e=sz)(h:Ty P f t v):∃g m,v= .row sz n g∧∀k,k<n→Ty P m e (g k):=by
 cases f with
 |zero=>exact h.elim
 |succ f=>
  simp only[Ty,hu,hs]at h;obtain⟨g,h1,h3⟩:=h;exact⟨g,f,h1,fun k hk=>(h3 k hk).2⟩
theorem Ty.struct{fs:Array Field}{l:List Field}(hu:P.underlying t=some (.struct fs))(hl:fs.toList=l)(h:Ty P f t v):∃x m,v= .st x∧TyF (Ty P m) l x:=by
 cases f with
 |zero=>exact h.elim
 |succ f=>
  simp only[Ty,hu,hl]at h;obtain⟨x,h1,h3⟩:=h;exact⟨x,f,h1,h3⟩
end
theorem jO{n:Nat}{g:Nat→V}(h:∀k,k<n→∃m,g k= .int .u8 m∧(Lit.int .u8 m).wf=true):∃l:List UInt8,l.length=n∧∀k,k<n→g k= .int .u8 ((l.getD k 0).toNat:Nat):=by
 refine⟨(List.range n).map fun k=>match g k with| .int _ m=>UInt8.ofNat m.toNat|_=>0,by simp,fun k hk=>?_⟩;obtain⟨m,h1,h2⟩:=h k hk;have h3:0≤m∧m≤255:=by simpa[Lit.wf,IntKind.min,IntKind.max,IntKind.signed,IntKind.bits]using h2
 rw[List.getD_eq_getElem?_getD,List.getElem?_map,List.getElem?_range hk];simp only[Option.map_some,Option.getD_some,h1,UInt8.toNat_ofNat']
 congr 1
 omega
section
variable {H:Type} {M9:TypeId×Value→H} {P:Program} {w:World} {b0 base:Nat} {spare:Nat→Bool} {held:Bool} {t:TypeId} {x:Value} {d:DataW H} {ps:List MemPlace}
theorem qG(a:Array Value):(fun(q:Nat)=>a.toList[q]?)=fun(q:Nat)=>a[q]?:=by funext q;simp
theorem Sz{f:Nat}{e:TypeId}(hu:P.underlying t=some (.slice e))(hp:tN P f t=true)(hval:Value.okWide P w .any b0 t x)(h:DataW.Trod M9 P w base spare held t x d ps):
  ∃v,Ty P f t v∧∀n sz g,RE v (.imm false sz n g)→T (Env.law w) (.imm false sz n g) x:=by
 obtain⟨fuel,h⟩:=h;obtain⟨v,h1,h2,h3⟩:=Pr f fuel t _ _ hp h;refine⟨v,h1,fun n sz g hr=>?_⟩;have h7:=hr.r _ _ _ h3;obtain⟨a,len,cap,rfl⟩:=Go.WideShapes.okWide_slice hu hval;exact⟨.inr ⟨rfl,rfl⟩,by simpa[Value.cells]using h7⟩
theorem vC{f n:Nat}{e:TypeId}(hu:P.underlying t=some (.array n e))(hp:tN P f t=true)(hval:Value.okWide P w .any b0 t x)(h:DataW.Trod M9 P w base spare held t x d ps):
  ∃v,Ty P f t v∧∀v',v'.isAgg=true→RE v v'→T (Env.law w) v' x:=by
 obtain⟨fuel,h⟩:=h;obtain⟨v,h1,h2,h3⟩:=Pr f fuel t _ _ hp h;refine⟨v,h1,fun v' ha hr=>?_⟩;have h7:=hr.r _ _ _ h3;unfold Value.okWide at hval;rw[hu]at hval;obtain⟨cs,rfl,hs,_⟩:=hval;refine J3 ha (by rw[hs,←hr.size,h2]) ?_;rw[←qG];exact h7
theorem arg_int{k:IntKind}(hu:P.underlying t=some (.int k))(hval:Value.okWide P w .any b0 t x)(h:DataW.Trod M9 P w base spare held t x d ps):
  ∃n,T (Env.law w) (.int k n) x∧(Lit.int k n).wf=true:=by
 obtain⟨n,rfl,_,_,hw⟩:=Go.ChangeShapes.open_int hu hval h;exact⟨n,⟨.inr ⟨rfl,rfl⟩,by simp[Value.cells,R]⟩,hw⟩
end
theorem GlOk.two{g1 g2:Nat}{v1 v2:V}{w:World}(h1:R (Env.law w) v1 (Am w g1) 0)(l1:g1<w.heap.size)(h2:R (Env.law w) v2 (Am w g2) 0)(l2:g2<w.heap.size):GlOk [(g1,v1),(g2,v2)] (Env.law w):=by
 intro p hp;simp only[List.mem_cons,List.mem_nil_iff,or_false]at hp
 rcases hp with rfl|rfl
 ·exact⟨l1,h1⟩
 ·exact⟨l2,h2⟩
theorem rL{w:World}{b o:Nat}{x:Value}(h:w.cell? ⟨b,o,none⟩=some x):b<w.heap.size:=by
 unfold World.cell? at h
 split at h
 ·rename_i hh;exact(Array.getElem?_eq_some_iff.1 hh).1
 ·cases h
section
variable {P:Program} {gl:List (Nat×V)}
structure W3 where
 x:Nat
 y:Nat
 c:Nat
def W3.ok(a:W3):Prop:=a.x<2^64∧a.y<2^64∧a.c≤1
def lZ(a b:Nat):V:= .tup (.cons (.int .u64 (a:Nat)) (.cons (.int .u64 (b:Nat)) .nil))
def AL3:A7:=Iq (fun(a:W3)=>[.int .u64 (a.x:Nat), .int .u64 (a.y:Nat), .int .u64 (a.c:Nat)]) W3.ok (fun a=>lZ ((a.x+a.y+a.c)%2^64) ((a.x+a.y+a.c)/2^64))
def AL9:A7:=Iq (fun(a:W3)=>[.int .u64 (a.x:Nat), .int .u64 (a.y:Nat), .int .u64 (a.c:Nat)]) W3.ok (fun a=>lZ ((a.x+2^64 - a.y - a.c)%2^64) (if a.x<a.y+a.c then 1 else 0))
theorem yF{E:Env}{a b:Nat}:T E (lZ a b) (.tuple #[.int .u64 (a:Nat), .int .u64 (b:Nat)]):=by
 refine⟨_,rfl,rfl,fun k y hk=>?_⟩
 match k,hk with
 |0,hk=>
  simp at hk;subst hk
  exact⟨rfl,Bb.2 rfl⟩
 |1,hk=>
  simp at hk;subst hk
  exact⟨rfl,Bb.2 rfl⟩
 |k+2,hk=>simp at hk
theorem dK{E:Env}{nm:String}{a:W3}(h:a.c≤1):(Extern.MathBitsCarry.three nm #[.int .u64 (a.x:Nat), .int .u64 (a.y:Nat), .int .u64 (a.c:Nat)]).run P E.w= .ok (a.x,a.y,a.c) E.w:=by
 have h':¬1<a.c:=by omega
 show Sem.run P (do
  let c:=(←asInt (.int .u64 (a.c:Nat))).toNat
  if c>1 then unsupported (.noEntry ("extern/math/bits." ++nm++ ": a carry that is neither 0 nor 1"))
  pure ((←asInt (.int .u64 (a.x:Nat))).toNat,(←asInt (.int .u64 (a.y:Nat))).toNat,c)) E.w=_
 simp[asInt,asIntOf]
 omega
theorem yL {f:Nat} {fn:Func} (hf:P.funcs[f]?=some fn) (hb:fn.body=none) (hname:(fn.name== "runtime.NumGoroutine")=false)
  (h1:Extern.findNext fn=none) (h2:Extern.find fn=some (fun args=>do let(x,y,c) ←Extern.MathBitsCarry.three "Add64" args;pure (Extern.MathBitsCarry.pair ((x+y+c)%Extern.MathBitsCarry.m64) ((x+y+c)/Extern.MathBitsCarry.m64)))):FOk P gl f AL3:=Bj fun a ⟨ha,hb',hc⟩ Φ h=>by
 intro E args hw hN hK hgl hT;obtain⟨l⟩:=args
 match l,hT with
 |[x,y,c],hT=>
  have hx:=Bb.1 hT.1;have hy:=Bb.1 hT.2.1;have hz:=Bb.1 hT.2.2.1;subst hx;subst hy;subst hz
  have hrun:=Jo (w:=E.w) (args:=#[.int .u64 (a.x:Nat), .int .u64 (a.y:Nat), .int .u64 (a.c:Nat)]) (v:= .tuple #[.int .u64 (((a.x+a.y+a.c)%2^64:Nat):Int), .int .u64 (((a.x+a.y+a.c)/2^64:Nat):Int)]) hf hb hname h1 h2 (by
   simp[dK hc,Extern.MathBitsCarry.pair,Extern.MathBitsCarry.m64])
  rw[hrun];exact⟨E,_,rfl,(F6.refl E).xt (Nat.zero_le _),hw,yF,⟨trivial,trivial,trivial⟩,h⟩
theorem ACz {f:Nat} {fn:Func} (hf:P.funcs[f]?=some fn) (hb:fn.body=none) (hname:(fn.name== "runtime.NumGoroutine")=false)
  (h1:Extern.findNext fn=none) (h2:Extern.find fn=some (fun args=>do let(x,y,b) ←Extern.MathBitsCarry.three "Sub64" args;pure (Extern.MathBitsCarry.pair ((x+Extern.MathBitsCarry.m64 - y - b)%Extern.MathBitsCarry.m64) (if x<y+b then 1 else 0)))):FOk P gl f AL9:=Bj fun a ⟨ha,hb',hc⟩ Φ h=>by
 intro E args hw hN hK hgl hT;obtain⟨l⟩:=args
 match l,hT with
 |[x,y,c],hT=>
  have hx:=Bb.1 hT.1;have hy:=Bb.1 hT.2.1;have hz:=Bb.1 hT.2.2.1;subst hx;subst hy;subst hz
  have hrun:=Jo (w:=E.w) (args:=#[.int .u64 (a.x:Nat), .int .u64 (a.y:Nat), .int .u64 (a.c:Nat)]) (v:= .tuple #[.int .u64 (((a.x+2^64 - a.y - a.c)%2^64:Nat):Int), .int .u64 ((if a.x<a.y+a.c then 1 else 0:Nat):Int)]) hf hb hname h1 h2 (by
   simp[dK hc,Extern.MathBitsCarry.pair,Extern.MathBitsCarry.m64])
  rw[hrun];exact⟨E,_,rfl,(F6.refl E).xt (Nat.zero_le _),hw,yF,⟨trivial,trivial,trivial⟩,h⟩
end
end Go.DD
