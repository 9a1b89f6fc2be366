/- Part of the claim ModelPuts: D1, D2, D3, D4, D5, D6, D7, D8, D9, D10, D11, D27, D28, D29, D33. -/
import Derived.Calls
import Derived.Orders
import Derived.Below
import Derived.KernelRfl
import Derived.RowKit3
import Derived.Laws.CopyRow
import Derived.Deep.MidRow
import Derived.Deep.AppendSrc
import GoSem.Dispatch
import Derived.DeepKeys
import Derived.Laws.StructEq
import Derived.Laws.Strings
import Derived.Deep.Upon
import Derived.Lib.MinMax
import Derived.Laws.Cover3
import Derived.Great.BuildSlice
import Derived.Laws.MakeOwn
import Derived.Laws.BytesString
import Derived.Lib.ConvBytes
set_option linter.unusedVariables false
set_option linter.unusedSimpArgs false
set_option maxRecDepth 100000
namespace Go.DD
open Go.RowKit
inductive E8 where
 |f (k off:Nat)
 |i (k sz:Nat)
def E8.off:E8→Nat| .f _ o=>o| .i k sz=>k*sz
def Bk:List E8→Nat|[]=>0|s::p=>s.off+Bk p
mutual
inductive V where
 |int (k:IntKind) (n:Int)
 |tt
 |ff
 |bool (b:Bool)
 |str (s:List UInt8)
 |nilp
 |ref (i:Nat) (p:List E8)
 |rref (i:Nat) (p:List E8) (sz lo n:Nat)
 |pim (lent:Bool) (v:V)
 |sl (i:Nat) (p:List E8) (sz lo len cap:Nat)
 |slx (i sz lo len cap:Nat)
 |emp
 |imm (lent:Bool) (sz n:Nat) (f:Nat→V)
 |fn (f:FuncId) (caps:Vs)
 |nilf
 |iface (t:TypeId) (v:V)
 |nili
 |row (sz n:Nat) (f:Nat→V)
 |st (l:Vs)
 |tup (l:Vs)
 |any
inductive Vs where
 |nil
 |cons (v:V) (l:Vs)
end
instance :Inhabited V:=⟨.any⟩
def Vs.of:List V→Vs|[]=> .nil|v::l=> .cons v (Vs.of l)
def Vs.get:Vs→Nat→V| .nil,_=> .any| .cons v _,0=>v| .cons _ l,k+1=>l.get k
def Vs.len:Vs→Nat| .nil=>0| .cons _ l=>l.len+1
def Vs.set:Vs→Nat→V→Vs| .nil,_,_=> .nil| .cons _ l,0,u=> .cons u l| .cons v l,k+1,u=> .cons v (l.set k u)
mutual
def A6:V→Nat
 | .row sz n _=>sz*n
 | .st l=>Au l
 |_=>1
def Au:Vs→Nat
 | .nil=>0
 | .cons v l=>A6 v+Au l
end
def V.isAgg:V→Bool| .row .. | .st .. =>true|_=>false
def V.isTup:V→Bool| .tup .. =>true|_=>false
def Vs.flat:Vs→Bool| .nil=>true| .cons v l=> !v.isAgg&& !v.isTup&&l.flat
structure Env where
 w:World
 ρ:Nat→Nat
 vt:Nat→Bool
 N:Nat
 S:Nat→Prop
 L:Nat→Prop
 K:Nat→Prop
def Env.bare(E:Env):Env:={E with N:=0,ρ:=fun _=>0,vt:=fun _=>false}
def Env.foot(E:Env)(lent:Bool)(b:Nat):Prop:=match lent with|true=>E.L b|false=>E.S b
def Am(w:World)(b:Nat):Nat→Option Value:=fun q=>w.cell? ⟨b,q,none⟩
def Cu(v:V)(x:Value):Prop:=(v.isAgg=true∧(∃cs,x= .agg cs)∧x.cells.size=A6 v)∨(v.isAgg=false∧x.oneCell'=true)
mutual
def R(E:Env):V→(Nat→Option Value)→Nat→Prop
 | .int k n,c,o=>c o=some (.int k n)
 | .tt,c,o=>c o=some (.bool true)
 | .ff,c,o=>c o=some (.bool false)
 | .bool b,c,o=>c o=some (.bool b)
 | .str s,c,o=>c o=some (.string ⟨s.toArray⟩)
 | .nilp,c,o=>c o=some (.pointer none)
 | .ref i p,c,o=>i<E.N∧c o=some (.pointer (some ⟨E.ρ i,Bk p,none⟩))
 | .rref i p sz lo _,c,o=>i<E.N∧c o=some (.pointer (some ⟨E.ρ i,Bk p+lo*sz,none⟩))
 | .pim lent v,c,o=>∃b off,c o=some (.pointer (some ⟨b,off,none⟩))∧E.foot lent b∧R E.bare v (Am E.w b) off
 | .sl i p sz lo len cap,c,o=>i<E.N∧∃a cp,c o=some (.slice a len cp)∧len≤cap∧cap≤cp∧
   (cp=0∨(E.vt i=false∧a=some ⟨E.ρ i,Bk p+lo*sz,none⟩∧∃cs t fr,E.w.heap[E.ρ i]?=some (.cells cs t fr)∧Bk p+(lo+cp)*sz≤cs.size))
 | .slx i sz lo len cap,c,o=>i<E.N∧∃a,c o=some (.slice a len cap)∧len≤cap∧
   (cap=0∨(E.vt i=false∧a=some ⟨E.ρ i,lo*sz,none⟩∧∃cs t fr,E.w.heap[E.ρ i]?=some (.cells cs t fr)∧(lo+cap)*sz≤cs.size))
 | .emp,c,o=>∃a,c o=some (.slice a 0 0)
 | .imm lent sz n f,c,o=>∃a cp,c o=some (.slice a n cp)∧n≤cp∧
   (n=0∨∃b off,a=some ⟨b,off,none⟩∧E.foot lent b∧∀k,k<n→A6 (f k)=sz∧R E.bare (f k) (Am E.w b) (off+k*sz))
 | .fn f caps,c,o=>∃xs,c o=some (.func (.func f) #[] xs)∧xs.size=Au caps∧caps.flat=true∧RL E caps (fun k=>xs[k]?) 0
 | .nilf,c,o=>c o=some .nilFunc
 | .iface t v,c,o=>∃x,c o=some (.iface t x)∧Cu v x∧R E v (fun k=>x.cells[k]?) 0
 | .nili,c,o=>c o=some .nilIface
 | .row sz n f,c,o=>∀k,k<n→A6 (f k)=sz∧R E (f k) c (o+k*sz)
 | .st l,c,o=>RL E l c o
 | .tup _,_,_=>False
 | .any,c,o=>∃x,c o=some x∧x.oneCell'=true
def RL(E:Env):Vs→(Nat→Option Value)→Nat→Prop
 | .nil,_,_=>True
 | .cons v l,c,o=>R E v c o∧RL E l c (o+A6 v)
end
def T(E:Env)(v:V)(x:Value):Prop:=
 match v with
 | .any=>True
 | .tup l=>∃xs,x= .tuple xs∧xs.size=l.len∧∀k y,xs[k]?=some y→match l.get k with
   | .any=>True
   |u=>u.isTup=false∧Cu u y∧R E u (fun q=>y.cells[q]?) 0
 |v=>Cu v x∧R E v (fun q=>x.cells[q]?) 0
structure F6(E E':Env):Prop where
 os:E'.w.os=E.w.os
 tape:E'.w.tape=E.w.tape
 output:E'.w.output=E.w.output
 size:E.w.heap.size≤E'.w.heap.size
 N:E.N≤E'.N
 ρ:∀i,i<E.N→E'.ρ i=E.ρ i
 vt:∀i,i<E.N→E'.vt i=E.vt i
 S:∀b,E.S b→E'.S b
 S':∀b,E'.S b→E.S b∨¬E.K b
 L:∀b,E'.L b↔E.L b
 K:∀b,E.K b→E'.K b
 kept:∀b,E.K b→E'.w.heap[b]?=E.w.heap[b]?
 cells:∀(b:Nat) (cs:Array Value) (t:TypeId) (fr:Nat×Nat),E.w.heap[b]?=some (.cells cs t fr)→∃(cs':Array Value) (fr':Nat×Nat),E'.w.heap[b]?=some (Obj.cells cs' t fr')∧cs'.size=cs.size
theorem F6.refl(E:Env):F6 E E:=⟨rfl,rfl,rfl,Nat.le_refl _,Nat.le_refl _,fun _ _=>rfl,fun _ _=>rfl,fun _ h=>h,fun _ h=> .inl h,fun _=>Iff.rfl,fun _ h=>h,fun _ _=>rfl,fun _ cs _ fr h=>⟨cs,fr,h,rfl⟩⟩
theorem F6.trans{E E' E'':Env}(h:F6 E E')(k:F6 E' E''):F6 E E'' where
 os:=k.os.trans h.os
 tape:=k.tape.trans h.tape
 output:=k.output.trans h.output
 size:=Nat.le_trans h.size k.size
 N:=Nat.le_trans h.N k.N
 ρ:=fun i hi=>(k.ρ i (Nat.lt_of_lt_of_le hi h.N)).trans (h.ρ i hi)
 vt:=fun i hi=>(k.vt i (Nat.lt_of_lt_of_le hi h.N)).trans (h.vt i hi)
 S:=fun b hb=>k.S b (h.S b hb)
 S':=fun b hb=>(k.S' b hb).elim (fun h'=>h.S' b h') (fun h'=> .inr fun hk=>h' (h.K b hk))
 L:=fun b=>(k.L b).trans (h.L b)
 K:=fun b hb=>k.K b (h.K b hb)
 kept:=fun b hb=>(k.kept b (h.K b hb)).trans (h.kept b hb)
 cells:=fun b cs t fr hb=>by
  obtain⟨cs',fr',h1,h2⟩:=h.cells b cs t fr hb;obtain⟨cs'',fr'',h3,h4⟩:=k.cells b cs' t fr' h1;exact⟨cs'',fr'',h3,h4.trans h2⟩
structure Wf(E:Env):Prop where
 S:∀b,E.S b→E.K b
 L:∀b,E.L b→E.K b
 K:∀b,E.K b→b<E.w.heap.size
theorem F6.bare{E E':Env}(h:F6 E E'):F6 E.bare E'.bare where
 os:=h.os
 tape:=h.tape
 output:=h.output
 size:=h.size
 N:=Nat.le_refl _
 ρ:=fun i hi=>absurd hi (Nat.not_lt_zero i)
 vt:=fun i hi=>absurd hi (Nat.not_lt_zero i)
 S:=h.S
 S':=h.S'
 L:=h.L
 K:=h.K
 kept:=h.kept
 cells:=h.cells
theorem F6.of_bare(E:Env):F6 E.bare E where
 os:=rfl
 tape:=rfl
 output:=rfl
 size:=Nat.le_refl _
 N:=Nat.zero_le _
 ρ:=fun i hi=>absurd hi (Nat.not_lt_zero i)
 vt:=fun i hi=>absurd hi (Nat.not_lt_zero i)
 S:=fun _ h=>h
 S':=fun _ h=> .inl h
 L:=fun _=>Iff.rfl
 K:=fun _ h=>h
 kept:=fun _ _=>rfl
 cells:=fun b cs t fr hb=>⟨cs,fr,hb,rfl⟩
theorem Wf.bare{E:Env}(h:Wf E):Wf E.bare:=⟨h.S,h.L,h.K⟩
theorem F6.foot{E E':Env}(h:F6 E E'){lent:Bool}{b:Nat}(hb:E.foot lent b):E'.foot lent b:=by
 cases lent
 ·exact h.S b hb
 ·exact(h.L b).2 hb
theorem Wf.foot{E:Env}(h:Wf E){lent:Bool}{b:Nat}(hb:E.foot lent b):E.K b:=by
 cases lent
 ·exact h.S b hb
 ·exact h.L b hb
theorem Hs{w w':World}{b:Nat}(h:w'.heap[b]?=w.heap[b]?):Am w' b=Am w b:=by
 funext q
 simp only[Am,World.cell?,h]
mutual
theorem Gu{E E':Env}(hw:Wf E)(h:F6 E E'):∀(v:V) (c:Nat→Option Value) (o:Nat),R E v c o→R E' v c o
 | .int ..,c,o,hr=>by simpa only[R]using hr
 | .tt,c,o,hr=>by simpa only[R]using hr
 | .ff,c,o,hr=>by simpa only[R]using hr
 | .bool _,c,o,hr=>by simpa only[R]using hr
 | .str _,c,o,hr=>by simpa only[R]using hr
 | .nilp,c,o,hr=>by simpa only[R]using hr
 | .ref i p,c,o,hr=>by
  simp only[R]at hr⊢;exact⟨Nat.lt_of_lt_of_le hr.1 h.N,by rw[h.ρ i hr.1];exact hr.2⟩
 | .rref i p sz lo n,c,o,hr=>by
  simp only[R]at hr⊢;exact⟨Nat.lt_of_lt_of_le hr.1 h.N,by rw[h.ρ i hr.1];exact hr.2⟩
 | .pim lent v,c,o,hr=>by
  simp only[R]at hr⊢;obtain⟨b,off,h1,h2,h3⟩:=hr;refine⟨b,off,h1,h.foot h2,?_⟩;rw[Hs (h.kept b (hw.foot h2))];exact Gu hw.bare h.bare v _ _ h3
 | .sl i p sz lo len cap,c,o,hr=>by
  simp only[R]at hr⊢;obtain⟨hi,a,cp,h1,h2,h3,h4⟩:=hr;refine⟨Nat.lt_of_lt_of_le hi h.N,a,cp,h1,h2,h3,h4.imp id fun⟨h5,h6,cs,t,fr,h7,h8⟩=>?_⟩;obtain⟨cs',fr',h9,h10⟩:=h.cells _ _ _ _ h7;exact⟨(h.vt i hi).trans h5,by rw[h.ρ i hi];exact h6,cs',t,fr',by rw[h.ρ i hi];exact h9,by omega⟩
 | .slx i sz lo len cap,c,o,hr=>by
  simp only[R]at hr⊢;obtain⟨hi,a,h1,h2,h4⟩:=hr;refine⟨Nat.lt_of_lt_of_le hi h.N,a,h1,h2,h4.imp id fun⟨h5,h6,cs,t,fr,h7,h8⟩=>?_⟩;obtain⟨cs',fr',h9,h10⟩:=h.cells _ _ _ _ h7;exact⟨(h.vt i hi).trans h5,by rw[h.ρ i hi];exact h6,cs',t,fr',by rw[h.ρ i hi];exact h9,by omega⟩
 | .emp,c,o,hr=>by simpa only[R]using hr
 | .imm lent sz n f,c,o,hr=>by
  simp only[R]at hr⊢;obtain⟨a,cp,h1,h2,h3⟩:=hr;refine⟨a,cp,h1,h2,h3.imp id fun⟨b,off,h4,h5,h6⟩=>⟨b,off,h4,h.foot h5,fun k hk=>⟨(h6 k hk).1,?_⟩⟩⟩;rw[Hs (h.kept b (hw.foot h5))];exact Gu hw.bare h.bare (f k) _ _ (h6 k hk).2
 | .fn f caps,c,o,hr=>by
  simp only[R]at hr⊢;obtain⟨xs,h1,h2,h3,h4⟩:=hr;exact⟨xs,h1,h2,h3,nK hw h caps _ _ h4⟩
 | .nilf,c,o,hr=>by simpa only[R]using hr
 | .iface t v,c,o,hr=>by
  simp only[R]at hr⊢;obtain⟨x,h1,h2,h3⟩:=hr;exact⟨x,h1,h2,Gu hw h v _ _ h3⟩
 | .nili,c,o,hr=>by simpa only[R]using hr
 | .row sz n f,c,o,hr=>by
  simp only[R]at hr⊢;exact fun k hk=>⟨(hr k hk).1,Gu hw h (f k) _ _ (hr k hk).2⟩
 | .st l,c,o,hr=>by
  simp only[R]at hr⊢;exact nK hw h l c o hr
 | .tup _,c,o,hr=>by simp only[R]at hr
 | .any,c,o,hr=>by simpa only[R]using hr
theorem nK{E E':Env}(hw:Wf E)(h:F6 E E'):∀(l:Vs) (c:Nat→Option Value) (o:Nat),RL E l c o→RL E' l c o
 | .nil,c,o,_=>by simp only[RL]
 | .cons v l,c,o,hr=>by
  simp only[RL]at hr⊢;exact⟨Gu hw h v c o hr.1,nK hw h l c _ hr.2⟩
end
theorem yA{E:Env}(hw:Wf E){v:V}{c:Nat→Option Value}{o:Nat}(h:R E.bare v c o):R E v c o:=Gu (E:=E.bare) (E':=E) hw.bare (F6.of_bare E) v c o h
theorem qU{E E':Env}(hw:Wf E)(h:F6 E E'){v:V}{x:Value}(ht:T E v x):T E' v x:=by
 cases v
 case any=>trivial
 case tup l=>
  obtain⟨xs,h1,h2,h3⟩:=ht;refine⟨xs,h1,h2,fun k y hk=>?_⟩
  have:=h3 k y hk
  generalize l.get k=u at this⊢
  cases u<;>first|trivial|exact⟨this.1,this.2.1,Gu hw h _ _ _ this.2.2⟩
 all_goals exact⟨ht.1,Gu hw h _ _ _ ht.2⟩
theorem Et{v:V}(h:v.isAgg=false):A6 v=1:=by cases v<;>simp_all[V.isAgg,A6]
def F2:Vs→Nat→Nat| .nil,_=>0| .cons _ _,0=>0| .cons v l,k+1=>A6 v+F2 l k
mutual
theorem Bp{E:Env}:∀(v:V) (c c':Nat→Option Value) (o o':Nat),(∀q,q<A6 v→c' (o'+q)=c (o+q))→R E v c o→R E v c' o'
 | .row sz n f,c,c',o,o',hc,hr=>by
  simp only[R]at hr⊢;intro k hk;refine⟨(hr k hk).1,Bp (f k) c c' (o+k*sz) (o'+k*sz) (fun q hq=>?_) (hr k hk).2⟩;have hq':q<sz:=by rw[(hr k hk).1]at hq;exact hq
  have:k*sz+q<sz*n:=by
   have:k*sz+sz≤n*sz:=by rw[←Nat.succ_mul];exact Nat.mul_le_mul_right _ hk
   rw[Nat.mul_comm sz n];omega
  have:=hc (k*sz+q) (by simpa only[A6]using this)
  simpa only[Nat.add_assoc]using this
 | .st l,c,c',o,o',hc,hr=>by
  simp only[R]at hr⊢;exact X0 l c c' o o' (by simpa only[A6]using hc) hr
 | .tup _,c,c',o,o',hc,hr=>by simp only[R]at hr
 | .int ..,c,c',o,o',hc,hr=>by have h:=hc 0 (by simp[A6]);simp only[R,Nat.add_zero]at*;rw[h];exact hr
 | .tt,c,c',o,o',hc,hr=>by have h:=hc 0 (by simp[A6]);simp only[R,Nat.add_zero]at*;rw[h];exact hr
 | .ff,c,c',o,o',hc,hr=>by have h:=hc 0 (by simp[A6]);simp only[R,Nat.add_zero]at*;rw[h];exact hr
 | .bool _,c,c',o,o',hc,hr=>by have h:=hc 0 (by simp[A6]);simp only[R,Nat.add_zero]at*;rw[h];exact hr
 | .str _,c,c',o,o',hc,hr=>by have h:=hc 0 (by simp[A6]);simp only[R,Nat.add_zero]at*;rw[h];exact hr
 | .nilp,c,c',o,o',hc,hr=>by have h:=hc 0 (by simp[A6]);simp only[R,Nat.add_zero]at*;rw[h];exact hr
 | .ref ..,c,c',o,o',hc,hr=>by have h:=hc 0 (by simp[A6]);simp only[R,Nat.add_zero]at*;rw[h];exact hr
 | .rref ..,c,c',o,o',hc,hr=>by have h:=hc 0 (by simp[A6]);simp only[R,Nat.add_zero]at*;rw[h];exact hr
 | .pim ..,c,c',o,o',hc,hr=>by have h:=hc 0 (by simp[A6]);simp only[R,Nat.add_zero]at*;rw[h];exact hr
 | .sl ..,c,c',o,o',hc,hr=>by have h:=hc 0 (by simp[A6]);simp only[R,Nat.add_zero]at*;rw[h];exact hr
 | .slx ..,c,c',o,o',hc,hr=>by have h:=hc 0 (by simp[A6]);simp only[R,Nat.add_zero]at*;rw[h];exact hr
 | .emp,c,c',o,o',hc,hr=>by have h:=hc 0 (by simp[A6]);simp only[R,Nat.add_zero]at*;rw[h];exact hr
 | .imm ..,c,c',o,o',hc,hr=>by have h:=hc 0 (by simp[A6]);simp only[R,Nat.add_zero]at*;rw[h];exact hr
 | .fn ..,c,c',o,o',hc,hr=>by have h:=hc 0 (by simp[A6]);simp only[R,Nat.add_zero]at*;rw[h];exact hr
 | .nilf,c,c',o,o',hc,hr=>by have h:=hc 0 (by simp[A6]);simp only[R,Nat.add_zero]at*;rw[h];exact hr
 | .iface ..,c,c',o,o',hc,hr=>by have h:=hc 0 (by simp[A6]);simp only[R,Nat.add_zero]at*;rw[h];exact hr
 | .nili,c,c',o,o',hc,hr=>by have h:=hc 0 (by simp[A6]);simp only[R,Nat.add_zero]at*;rw[h];exact hr
 | .any,c,c',o,o',hc,hr=>by have h:=hc 0 (by simp[A6]);simp only[R,Nat.add_zero]at*;rw[h];exact hr
theorem X0{E:Env}:∀(l:Vs) (c c':Nat→Option Value) (o o':Nat),(∀q,q<Au l→c' (o'+q)=c (o+q))→RL E l c o→RL E l c' o'
 | .nil,c,c',o,o',_,_=>by simp only[RL]
 | .cons v l,c,c',o,o',hc,hr=>by
  simp only[RL]at hr⊢;simp only[Au]at hc;refine⟨Bp v c c' o o' (fun q hq=>hc q (by omega)) hr.1,X0 l c c' _ _ (fun q hq=>?_) hr.2⟩
  have:=hc (A6 v+q) (by omega)
  simpa only[Nat.add_assoc]using this
end
theorem J2{E:Env}{v:V}{c c':Nat→Option Value}{o:Nat}(hc:∀q,o≤q→q<o+A6 v→c' q=c q)(hr:R E v c o):R E v c' o:=
 Bp v c c' o o (fun q hq=>hc (o+q) (by omega) (by omega)) hr
def sub:V→List E8→V
 |v,[]=>v
 | .st l, .f k _::p=>sub (l.get k) p
 | .row _ _ f, .i k _::p=>sub (f k) p
 |_,_::_=> .any
def iU:V→List E8→Prop
 |_,[]=>True
 | .st l, .f k off::p=>(k<l.len∧F2 l k=off)∧iU (l.get k) p
 | .row sz n f, .i k sz'::p=>(k<n∧sz'=sz)∧iU (f k) p
 |_,_::_=>False
def qI:V→List E8→V→V
 |_,[],u=>u
 | .st l, .f k _::p,u=> .st (l.set k (qI (l.get k) p u))
 | .row sz n f, .i k _::p,u=> .row sz n (fun j=>if j=k then qI (f k) p u else f j)
 |v,_::_,_=>v
theorem Sv{E:Env}:∀(l:Vs) (k:Nat) (c:Nat→Option Value) (o:Nat),k<l.len→RL E l c o→R E (l.get k) c (o+F2 l k)
 | .nil,k,c,o,hk,_=>by simp[Vs.len]at hk
 | .cons v l,0,c,o,_,hr=>by simp only[RL]at hr;simpa[Vs.get,F2]using hr.1
 | .cons v l,k+1,c,o,hk,hr=>by
  simp only[RL]at hr
  have:=Sv l k c _ (by simpa[Vs.len]using hk) hr.2
  simpa only[Vs.get,F2,Nat.add_assoc]using this
theorem Sa:∀(l:Vs) (k:Nat),k<l.len→F2 l k+A6 (l.get k)≤Au l
 | .nil,k,hk=>by simp[Vs.len]at hk
 | .cons v l,0,_=>by simp[F2,Vs.get,Au]
 | .cons v l,k+1,hk=>by
  have:=Sa l k (by simpa[Vs.len]using hk)
  simp only[F2,Vs.get,Au];omega
theorem iC{sz n k:Nat}(hk:k<n):k*sz+sz≤sz*n:=by
 have:k*sz+sz≤n*sz:=by rw[←Nat.succ_mul];exact Nat.mul_le_mul_right _ hk
 rw[Nat.mul_comm sz n];omega
theorem Lf{E:Env}:∀(p:List E8) (v:V) (c:Nat→Option Value) (o:Nat),iU v p→R E v c o→R E (sub v p) c (o+Bk p)
 |[],v,c,o,_,hr=>by simpa[sub,Bk]using hr
 | .f k off::p, .st l,c,o,hp,hr=>by
  simp only[iU]at hp;simp only[R]at hr;have h1:=Sv l k c o hp.1.1 hr;rw[hp.1.2]at h1
  have:=Lf p _ c _ hp.2 h1
  simpa only[sub,Bk,E8.off,Nat.add_assoc]using this
 | .i k sz'::p, .row sz n f,c,o,hp,hr=>by
  simp only[iU]at hp;simp only[R]at hr;obtain⟨⟨hk,rfl⟩,hp⟩:=hp
  have:=Lf p _ c _ hp (hr k hk).2
  simpa only[sub,Bk,E8.off,Nat.add_assoc]using this
 | .f _ _::_, .int ..,_,_,hp,_| .f _ _::_, .tt,_,_,hp,_| .f _ _::_, .ff,_,_,hp,_| .f _ _::_, .bool _,_,_,hp,_
 | .f _ _::_, .str _,_,_,hp,_| .f _ _::_, .nilp,_,_,hp,_| .f _ _::_, .ref ..,_,_,hp,_| .f _ _::_, .rref ..,_,_,hp,_
 | .f _ _::_, .pim ..,_,_,hp,_| .f _ _::_, .sl ..,_,_,hp,_| .f _ _::_, .slx ..,_,_,hp,_| .f _ _::_, .emp,_,_,hp,_| .f _ _::_, .imm ..,_,_,hp,_
 | .f _ _::_, .fn ..,_,_,hp,_| .f _ _::_, .nilf,_,_,hp,_| .f _ _::_, .iface ..,_,_,hp,_| .f _ _::_, .nili,_,_,hp,_
 | .f _ _::_, .row ..,_,_,hp,_| .f _ _::_, .tup _,_,_,hp,_| .f _ _::_, .any,_,_,hp,_
 | .i _ _::_, .int ..,_,_,hp,_| .i _ _::_, .tt,_,_,hp,_| .i _ _::_, .ff,_,_,hp,_| .i _ _::_, .bool _,_,_,hp,_
 | .i _ _::_, .str _,_,_,hp,_| .i _ _::_, .nilp,_,_,hp,_| .i _ _::_, .ref ..,_,_,hp,_| .i _ _::_, .rref ..,_,_,hp,_
 | .i _ _::_, .pim ..,_,_,hp,_| .i _ _::_, .sl ..,_,_,hp,_| .i _ _::_, .slx ..,_,_,hp,_| .i _ _::_, .emp,_,_,hp,_| .i _ _::_, .imm ..,_,_,hp,_
 | .i _ _::_, .fn ..,_,_,hp,_| .i _ _::_, .nilf,_,_,hp,_| .i _ _::_, .iface ..,_,_,hp,_| .i _ _::_, .nili,_,_,hp,_
 | .i _ _::_, .st _,_,_,hp,_| .i _ _::_, .tup _,_,_,hp,_| .i _ _::_, .any,_,_,hp,_=>by simp[iU]at hp
theorem Gl{v:V}{s:E8}{p:List E8}(h:iU v (s::p)):
  (∃l k off,v= .st l∧s= .f k off∧k<l.len∧F2 l k=off∧iU (l.get k) p)∨(∃sz n f k,v= .row sz n f∧s= .i k sz∧k<n∧iU (f k) p):=by
 cases v<;>cases s<;>simp only[iU]at h
 ·exact .inr ⟨_,_,_,_,rfl,by rw[h.1.2],h.1.1,h.2⟩
 ·exact .inl ⟨_,_,_,rfl,rfl,h.1.1,h.1.2,h.2⟩
theorem K5:∀(p:List E8) (v:V),iU v p→(∀E c o,R E v c o→Bk p+A6 (sub v p)≤A6 v)
 |[],v,_,_,_,_,_=>by simp[Bk,sub]
 |s::p,v,h,E,c,o,hr=>by
  rcases Gl h with⟨l,k,off,rfl,rfl,hk,ho,hp⟩|⟨sz,n,f,k,rfl,rfl,hk,hp⟩
  ·simp only[R]at hr;have h1:=K5 p _ hp E c _ (Sv l k c o hk hr);have h2:=Sa l k hk;simp only[Bk,E8.off,sub,A6];omega
  ·simp only[R]at hr;have h1:=K5 p _ hp E c _ (hr k hk).2;have h2:=iC (sz:=sz) hk;rw[(hr k hk).1]at h1;simp only[Bk,E8.off,sub,A6];omega
theorem Zr:∀(l:Vs) (k:Nat) (u:V),A6 u=A6 (l.get k)→Au (l.set k u)=Au l
 | .nil,k,u,_=>by simp[Vs.set]
 | .cons v l,0,u,h=>by simp only[Vs.get]at h;simp[Vs.set,Au,h]
 | .cons v l,k+1,u,h=>by simp only[Vs.get]at h;simp[Vs.set,Au,Zr l k u h]
theorem nN{E:Env}:∀(l:Vs) (k:Nat) (u:V) (c c':Nat→Option Value) (o:Nat),k<l.len→A6 u=A6 (l.get k)→RL E l c o→
  (∀q,o≤q→q<o+Au l→(q<o+F2 l k∨o+F2 l k+A6 u≤q)→c' q=c q)→R E u c' (o+F2 l k)→RL E (l.set k u) c' o
 | .nil,k,u,c,c',o,hk,_,_,_,_=>by simp[Vs.len]at hk
 | .cons v l,0,u,c,c',o,_,hs,hr,hc,hu=>by
  simp only[Vs.get]at hs;simp only[RL,Vs.set]at hr⊢;refine⟨by simpa[F2]using hu,?_⟩;rw[hs];exact X0 l c c' _ _ (fun q hq=>hc _ (by omega) (by simp only[Au];omega) (.inr (by simp only[F2];omega))) hr.2
 | .cons v l,k+1,u,c,c',o,hk,hs,hr,hc,hu=>by
  simp only[Vs.get]at hs;simp only[RL,Vs.set]at hr⊢;simp only[F2,Au]at hc hu;refine⟨J2 (fun q h1 h2=>hc q h1 (by omega) (.inl (by omega))) hr.1,?_⟩
  exact nN l k u c c' (o+A6 v) (by simpa[Vs.len]using hk) hs hr.2 (fun q h1 h2 h3=>hc q (by omega) (by omega) (by omega)) (by simpa only[Nat.add_assoc]using hu)
theorem iJ{E:Env}:∀(p:List E8) (v u:V) (c c':Nat→Option Value) (o:Nat),iU v p→A6 u=A6 (sub v p)→R E v c o→
  (∀q,o≤q→q<o+A6 v→(q<o+Bk p∨o+Bk p+A6 u≤q)→c' q=c q)→R E u c' (o+Bk p)→R E (qI v p u) c' o∧A6 (qI v p u)=A6 v
 |[],v,u,c,c',o,_,hs,_,_,hu=>⟨by simpa[qI,Bk]using hu,by simpa[qI,sub]using hs⟩
 |s::p,v,u,c,c',o,h,hs,hr,hc,hu=>by
  rcases Gl h with⟨l,k,off,rfl,rfl,hk,ho,hp⟩|⟨sz,n,f,k,rfl,rfl,hk,hp⟩
  ·simp only[R]at hr;simp only[sub]at hs;simp only[Bk,E8.off,A6]at hc hu;have hg:=Sv l k c o hk hr;have hfit:=K5 p _ hp E c _ hg;have hle:=Sa l k hk;have ih:=iJ p (l.get k) u c c' (o+F2 l k) hp hs hg (fun q h1 h2 h3=>hc q (by omega) (by omega) (by omega)) (by rw[ho];simpa only[Nat.add_assoc]using hu);refine⟨?_,?_⟩
   ·simp only[qI,R];exact nN l k _ c c' o hk ih.2 hr (fun q h1 h2 h3=>hc q h1 h2 (by rw[ih.2]at h3;omega)) ih.1
   ·simp only[qI,A6];exact Zr l k _ ih.2
  ·simp only[R]at hr;simp only[sub]at hs;simp only[Bk,E8.off,A6]at hc hu;have hg:=(hr k hk).2;have hfit:=K5 p _ hp E c _ hg;have hle:=iC (sz:=sz) hk;have hsz:=(hr k hk).1;have ih:=iJ p (f k) u c c' (o+k*sz) hp hs hg (fun q h1 h2 h3=>hc q (by omega) (by omega) (by omega)) (by simpa only[Nat.add_assoc]using hu);refine⟨?_,by simp only[qI,A6]⟩;simp only[qI,R];intro j hj
   by_cases hjk:j=k
   ·subst hjk;simp only[if_true];exact⟨ih.2.trans hsz,ih.1⟩
   ·simp only[hjk,if_false];refine⟨(hr j hj).1,J2 (fun q h1 h2=>hc q (by omega) ?_ ?_) (hr j hj).2⟩
    ·have:=iC (sz:=sz) hj
     rw[(hr j hj).1]at h2;omega
    ·rw[(hr j hj).1]at h2
     rcases Nat.lt_or_gt_of_ne hjk with hlt|hgt
     ·have:j*sz+sz≤k*sz:=by rw[←Nat.succ_mul];exact Nat.mul_le_mul_right _ hlt
      omega
     ·have:k*sz+sz≤j*sz:=by rw[←Nat.succ_mul];exact Nat.mul_le_mul_right _ hgt
      rw[hsz]at hfit;omega
mutual
theorem Nl{E:Env}:∀(v:V) (c:Nat→Option Value) (o q:Nat),R E v c o→q<A6 v→∃x,c (o+q)=some x∧x.oneCell'=true
 | .row sz n f,c,o,q,hr,hq=>by
  simp only[R]at hr;simp only[A6]at hq;have hsz:0<sz:=by rcases Nat.eq_zero_or_pos sz with h|h;(subst h;simp at hq);exact h
  have hk:q/sz<n:=by rw[Nat.div_lt_iff_lt_mul hsz,Nat.mul_comm];exact hq
  have hm:q%sz<sz:=Nat.mod_lt _ hsz;obtain⟨x,h1,h2⟩:=Nl (f (q/sz)) c (o+q/sz*sz) (q%sz) (hr _ hk).2 (by rw[(hr _ hk).1];exact hm);refine⟨x,?_,h2⟩;rw[←h1];congr 1
  have:=Nat.div_add_mod q sz
  rw[Nat.mul_comm]at this;omega
 | .st l,c,o,q,hr,hq=>by
  simp only[R]at hr;exact xZ l c o q hr (by simpa only[A6]using hq)
 | .tup _,c,o,q,hr,_=>by simp only[R]at hr
 | .int ..,c,o,q,hr,hq=>by simp only[R,A6]at hr hq;(obtain rfl:q=0:=by omega);exact⟨_,hr,rfl⟩
 | .tt,c,o,q,hr,hq=>by simp only[R,A6]at hr hq;(obtain rfl:q=0:=by omega);exact⟨_,hr,rfl⟩
 | .ff,c,o,q,hr,hq=>by simp only[R,A6]at hr hq;(obtain rfl:q=0:=by omega);exact⟨_,hr,rfl⟩
 | .bool _,c,o,q,hr,hq=>by simp only[R,A6]at hr hq;(obtain rfl:q=0:=by omega);exact⟨_,hr,rfl⟩
 | .str _,c,o,q,hr,hq=>by simp only[R,A6]at hr hq;(obtain rfl:q=0:=by omega);exact⟨_,hr,rfl⟩
 | .nilp,c,o,q,hr,hq=>by simp only[R,A6]at hr hq;(obtain rfl:q=0:=by omega);exact⟨_,hr,rfl⟩
 | .ref ..,c,o,q,hr,hq=>by simp only[R,A6]at hr hq;(obtain rfl:q=0:=by omega);exact⟨_,hr.2,rfl⟩
 | .rref ..,c,o,q,hr,hq=>by simp only[R,A6]at hr hq;(obtain rfl:q=0:=by omega);exact⟨_,hr.2,rfl⟩
 | .pim ..,c,o,q,hr,hq=>by simp only[R,A6]at hr hq;(obtain rfl:q=0:=by omega);obtain⟨b,off,h,_⟩:=hr;exact⟨_,h,rfl⟩
 | .sl ..,c,o,q,hr,hq=>by simp only[R,A6]at hr hq;(obtain rfl:q=0:=by omega);obtain⟨_,b,off,h,_⟩:=hr;exact⟨_,h,rfl⟩
 | .slx ..,c,o,q,hr,hq=>by simp only[R,A6]at hr hq;(obtain rfl:q=0:=by omega);obtain⟨_,b,h,_⟩:=hr;exact⟨_,h,rfl⟩
 | .emp,c,o,q,hr,hq=>by simp only[R,A6]at hr hq;(obtain rfl:q=0:=by omega);obtain⟨b,h⟩:=hr;exact⟨_,h,rfl⟩
 | .imm ..,c,o,q,hr,hq=>by simp only[R,A6]at hr hq;(obtain rfl:q=0:=by omega);obtain⟨b,off,h,_⟩:=hr;exact⟨_,h,rfl⟩
 | .fn ..,c,o,q,hr,hq=>by simp only[R,A6]at hr hq;(obtain rfl:q=0:=by omega);obtain⟨b,h,_⟩:=hr;exact⟨_,h,rfl⟩
 | .nilf,c,o,q,hr,hq=>by simp only[R,A6]at hr hq;(obtain rfl:q=0:=by omega);exact⟨_,hr,rfl⟩
 | .iface ..,c,o,q,hr,hq=>by simp only[R,A6]at hr hq;(obtain rfl:q=0:=by omega);obtain⟨b,h,_⟩:=hr;exact⟨_,h,rfl⟩
 | .nili,c,o,q,hr,hq=>by simp only[R,A6]at hr hq;(obtain rfl:q=0:=by omega);exact⟨_,hr,rfl⟩
 | .any,c,o,q,hr,hq=>by simp only[R,A6]at hr hq;(obtain rfl:q=0:=by omega);obtain⟨x,h,h2⟩:=hr;exact⟨x,h,h2⟩
theorem xZ{E:Env}:∀(l:Vs) (c:Nat→Option Value) (o q:Nat),RL E l c o→q<Au l→∃x,c (o+q)=some x∧x.oneCell'=true
 | .nil,c,o,q,_,hq=>by simp[Au]at hq
 | .cons v l,c,o,q,hr,hq=>by
  simp only[RL]at hr;simp only[Au]at hq
  by_cases h:q<A6 v
  ·exact Nl v c o q hr.1 h
  ·obtain⟨x,h1,h2⟩:=xZ l c (o+A6 v) (q - A6 v) hr.2 (by omega);exact⟨x,by rw[←h1];congr 1;omega,h2⟩
end
def uW(E:Env)(v:V)(i:Nat):Prop:=
 (E.vt i=true∧∃sz f,v= .row sz 0 f)∨
 (E.vt i=false∧¬E.K (E.ρ i)∧∃(cs:Array Value) (t:TypeId),E.w.heap[E.ρ i]?=some (.cells cs t (0,0))∧A6 v≤cs.size∧R E v (fun q=>cs[q]?) 0)
structure B8(E:Env)(h:List (Option V)):Prop where
 len:h.length=E.N
 live:∀(i:Nat) v,h[i]?=some (some v)→uW E v i
 inj:∀(i j:Nat) v v',h[i]?=some (some v)→h[j]?=some (some v')→i≠j→E.vt i=false→E.vt j=false→E.ρ i≠E.ρ j
theorem B8.lt{E:Env}{h:List (Option V)}(hs:B8 E h){i:Nat}{x:Option V}(hi:h[i]?=some x):i<E.N:=by
 rw[←hs.len];exact(List.getElem?_eq_some_iff.1 hi).1
theorem B8.forget{E:Env}{h:List (Option V)}(hs:B8 E h)(i:Nat):B8 E (h.set i none) where
 len:=by simpa using hs.len
 live:=fun j v hj=>by
  rw[List.getElem?_set]at hj
  split at hj
  ·split at hj<;>simp at hj
  ·exact hs.live j v hj
 inj:=fun j k v v' hj hk=>by
  rw[List.getElem?_set]at hj hk
  split at hj
  ·split at hj<;>simp at hj
  ·split at hk
   ·split at hk<;>simp at hk
   ·exact hs.inj j k v v' hj hk
theorem World.heap_size_alloc(w:World)(o:Obj):(w.alloc o).heap.size=w.heap.size+1:=by simp
theorem World.heap_alloc_new(w:World)(o:Obj):(w.alloc o).heap[w.heap.size]?=some o:=by
 show(w.heap.push o)[w.heap.size]?=some o
 rw[Array.getElem?_push,if_pos rfl]
def Env.alloc(E:Env)(o:Obj):Env:=
 {E with w:=E.w.alloc o,ρ:=fun i=>if i=E.N then E.w.heap.size else E.ρ i,vt:=fun i=>if i=E.N then false else E.vt i,N:=E.N+1}
def Env.valloc(E:Env):Env:={E with vt:=fun i=>if i=E.N then true else E.vt i,N:=E.N+1}
theorem Env.ext_alloc{E:Env}(hw:Wf E)(o:Obj):F6 E (E.alloc o) where
 os:=rfl
 tape:=rfl
 output:=rfl
 size:=by simp[Env.alloc]
 N:=Nat.le_succ _
 ρ:=fun i hi=>by simp only[Env.alloc];rw[if_neg (by omega)]
 vt:=fun i hi=>by simp only[Env.alloc];rw[if_neg (by omega)]
 S:=fun _ h=>h
 S':=fun _ h=> .inl h
 L:=fun _=>Iff.rfl
 K:=fun _ h=>h
 kept:=fun b hb=>Below.heap_alloc _ _ _ (hw.K b hb)
 cells:=fun b cs t fr hb=>⟨cs,fr,by
  have hlt:b<E.w.heap.size:=(Array.getElem?_eq_some_iff.1 hb).1;exact(Below.heap_alloc E.w o b hlt).trans hb,rfl⟩
theorem Env.wf_alloc{E:Env}(hw:Wf E)(o:Obj):Wf (E.alloc o):=⟨hw.S,hw.L,fun b hb=>by have:=hw.K b hb;simp only[Env.alloc,World.heap_size_alloc];omega⟩
theorem Env.ext_valloc{E:Env}:F6 E E.valloc where
 os:=rfl
 tape:=rfl
 output:=rfl
 size:=Nat.le_refl _
 N:=Nat.le_succ _
 ρ:=fun i hi=>rfl
 vt:=fun i hi=>by simp only[Env.valloc];rw[if_neg (by omega)]
 S:=fun _ h=>h
 S':=fun _ h=> .inl h
 L:=fun _=>Iff.rfl
 K:=fun _ h=>h
 kept:=fun b hb=>rfl
 cells:=fun b cs t fr hb=>⟨cs,fr,hb,rfl⟩
theorem Env.wf_valloc{E:Env}(hw:Wf E):Wf E.valloc:=⟨hw.S,hw.L,hw.K⟩
theorem uW.ext{E E':Env}(hw:Wf E)(h:F6 E E'){v:V}{i:Nat}(hi:i<E.N)(hl:uW E v i)(hk:¬E.K (E.ρ i)→E.vt i=false→¬E'.K (E.ρ i))(hb:E.vt i=false→E'.w.heap[E.ρ i]?=E.w.heap[E.ρ i]?):uW E' v i:=by
 rcases hl with⟨h1,h2⟩|⟨h1,h2,cs,t,h3,h4,h5⟩
 ·exact .inl ⟨(h.vt i hi).trans h1,h2⟩
 ·refine .inr ⟨(h.vt i hi).trans h1,by rw[h.ρ i hi];exact hk h2 h1,cs,t,by rw[h.ρ i hi,hb h1];exact h3,h4,Gu hw h _ _ _ h5⟩
theorem jE{E:Env}{h:List (Option V)}(hw:Wf E)(hs:B8 E h){cs:Array Value}{t:TypeId}{v:V}(hv:R E v (fun q=>cs[q]?) 0)(hz:A6 v≤cs.size):
  B8 (E.alloc (.cells cs t)) (h++[some v]):=by
 have hx:=Env.ext_alloc hw (.cells cs t);refine⟨by simp[Env.alloc,hs.len],fun i u hi=>?_,fun i j u u' hi hj hne h1 h2=>?_⟩
 ·rw[List.getElem?_append]at hi
  split at hi
  ·rename_i hlt;have hiN:i<E.N:=by rw[←hs.len];exact hlt
   refine(hs.live i u hi).ext hw hx hiN (fun h _=>h) (fun hv=>?_)
   rcases hs.live i u hi with⟨h1,_⟩|⟨_,_,cs',t',h3,_⟩
   ·rw[h1]at hv;cases hv
   ·exact Below.heap_alloc _ _ _ (Array.getElem?_eq_some_iff.1 h3).1
  ·rename_i hlt;rw[hs.len]at hi hlt
   have:i=E.N:=by
    have:=(List.getElem?_eq_some_iff.1 hi).1
    simp at this;omega
   subst this;simp at hi
   subst hi;refine .inr ⟨by simp[Env.alloc],?_,cs,t,?_,hz,Gu hw hx _ _ _ hv⟩
   ·simp only[Env.alloc,if_true];intro hk;exact Nat.lt_irrefl _ (hw.K _ hk)
   ·simp only[Env.alloc,if_true];exact World.heap_alloc_new _ _
 ·have hphys:∀k x,h[k]?=some (some x)→E.vt k=false→E.ρ k<E.w.heap.size:=fun k x hk hv=>by
   rcases hs.live k x hk with⟨h1,_⟩|⟨_,_,cs',t',h3,_⟩
   ·rw[h1]at hv;cases hv
   ·exact(Array.getElem?_eq_some_iff.1 h3).1
  rw[List.getElem?_append]at hi hj
  have hnew:∀k x,¬k<h.length→[some v][k - h.length]?=some (some x)→k=E.N:=fun k x hk hx=>by
   have:=(List.getElem?_eq_some_iff.1 hx).1
   simp at this;rw[hs.len]at this hk;omega
  split at hi<;>split at hj
  ·rename_i ha hb;rw[hs.len]at ha hb;simp only[Env.alloc]at h1 h2⊢;rw[if_neg (by omega)]at h1 h2⊢;rw[if_neg (by omega)];exact hs.inj i j u u' hi hj hne h1 h2
  ·rename_i ha hb
   have:=hnew j u' hb hj
   subst this;rw[hs.len]at ha;simp only[Env.alloc,if_true]at h1⊢;rw[if_neg (by omega)]at h1⊢;exact Nat.ne_of_lt (hphys i u hi h1)
  ·rename_i ha hb
   have:=hnew i u ha hi
   subst this;rw[hs.len]at hb;simp only[Env.alloc,if_true]at h2⊢;rw[if_neg (by omega)]at h2⊢;exact Nat.ne_of_gt (hphys j u' hj h2)
  ·rename_i ha hb;exact absurd ((hnew i u ha hi).trans (hnew j u' hb hj).symm) hne
theorem U9{E:Env}{h:List (Option V)}(hw:Wf E)(hs:B8 E h)(sz:Nat)(f:Nat→V):B8 E.valloc (h++[some (.row sz 0 f)]):=by
 have hx:=Env.ext_valloc (E:=E);refine⟨by simp[Env.valloc,hs.len],fun i u hi=>?_,fun i j u u' hi hj hne h1 h2=>?_⟩
 ·rw[List.getElem?_append]at hi
  split at hi
  ·rename_i hlt;have hiN:i<E.N:=by rw[←hs.len];exact hlt
   exact(hs.live i u hi).ext hw hx hiN (fun h _=>h) (fun _=>rfl)
  ·rename_i hlt;rw[hs.len]at hi hlt
   have:i=E.N:=by
    have:=(List.getElem?_eq_some_iff.1 hi).1
    simp at this;omega
   subst this;simp at hi
   subst hi;exact .inl ⟨by simp[Env.valloc],sz,f,rfl⟩
 ·rw[List.getElem?_append]at hi hj
  have hnew:∀k x,¬k<h.length→[some (V.row sz 0 f)][k - h.length]?=some (some x)→k=E.N:=fun k x hk hx=>by
   have:=(List.getElem?_eq_some_iff.1 hx).1
   simp at this;rw[hs.len]at this hk;omega
  split at hi<;>split at hj
  ·rename_i ha hb;rw[hs.len]at ha hb;simp only[Env.valloc]at h1 h2⊢;rw[if_neg (by omega)]at h1 h2;exact hs.inj i j u u' hi hj hne h1 h2
  ·rename_i ha hb
   have:=hnew j u' hb hj
   subst this;simp[Env.valloc]at h2
  ·rename_i ha hb
   have:=hnew i u ha hi
   subst this;simp[Env.valloc]at h1
  ·rename_i ha hb;exact absurd ((hnew i u ha hi).trans (hnew j u' hb hj).symm) hne
structure Ek(w w':World)(b:Nat)(cs':Array Value)(t:TypeId):Prop where
 os:w'.os=w.os
 tape:w'.tape=w.tape
 output:w'.output=w.output
 size:w'.heap.size=w.heap.size
 here:w'.heap[b]?=some (.cells cs' t (0,0))
 other:∀k,k≠b→w'.heap[k]?=w.heap[k]?
theorem Ek.setRow{w:World}{b:Nat}{cs cs':Array Value}{t:TypeId}(h:w.heap[b]?=some (.cells cs t (0,0))):Ek w (w.setRow b cs') b cs' t:=
 ⟨rfl,rfl,rfl,by simp,setRow_heap w b cs cs' t _ h,fun k hk=>setRow_other w b k cs' hk⟩
theorem Ek.ext{E:Env}{w':World}{b:Nat}{cs cs':Array Value}{t:TypeId}(hb:E.w.heap[b]?=some (.cells cs t (0,0)))(hk:¬E.K b)(hsz:cs'.size=cs.size)(h:Ek E.w w' b cs' t):F6 E {E with w:=w'} where
 os:=h.os
 tape:=h.tape
 output:=h.output
 size:=by simp[h.size]
 N:=Nat.le_refl _
 ρ:=fun _ _=>rfl
 vt:=fun _ _=>rfl
 S:=fun _ h=>h
 S':=fun _ h=> .inl h
 L:=fun _=>Iff.rfl
 K:=fun _ h=>h
 kept:=fun c hc=>h.other c (fun e=>hk (e▸hc))
 cells:=fun c cs₀ t₀ fr hc=>by
  by_cases e:c=b
  ·subst e;rw[hb]at hc
   cases hc
   exact⟨cs',_,h.here,hsz⟩
  ·exact⟨cs₀,fr,(h.other c e).trans hc,rfl⟩
theorem Ek.wf{E:Env}{w':World}{b:Nat}{cs':Array Value}{t:TypeId}(hw:Wf E)(h:Ek E.w w' b cs' t):Wf {E with w:=w'}:=
 ⟨hw.S,hw.L,fun c hc=>by have:=hw.K c hc;simp only[h.size];exact this⟩
theorem Zz {E:Env} {h:List (Option V)} {w':World} {i:Nat} {v v':V} {cs cs':Array Value} {t:TypeId} (hw:Wf E) (hs:B8 E h) (hi:h[i]?=some (some v)) (hvt:E.vt i=false)
  (hb:E.w.heap[E.ρ i]?=some (.cells cs t (0,0))) (hk:¬E.K (E.ρ i)) (hsz:cs'.size=cs.size) (hwr:Ek E.w w' (E.ρ i) cs' t) (hv:R E v' (fun q=>cs'[q]?) 0) (hz:A6 v'≤cs'.size):
  B8 {E with w:=w'} (h.set i (some v')):=by
 have hx:=Ek.ext hb hk hsz hwr
 have old:∀j u,(h.set i (some v'))[j]?=some (some u)→(j=i∧u=v')∨(j≠i∧h[j]?=some (some u)):=fun j u hj=>by
  rw[List.getElem?_set]at hj
  split at hj
  ·rename_i e
   split at hj
   ·simp at hj;exact .inl ⟨e.symm,hj.symm⟩
   ·cases hj
  ·rename_i e;exact .inr ⟨fun e'=>e e'.symm,hj⟩
 have keep:∀j u,(h.set i (some v'))[j]?=some (some u)→∃u',h[j]?=some (some u'):=fun j u hj=>by
  rcases old j u hj with⟨rfl,_⟩|⟨_,h2⟩
  ·exact⟨v,hi⟩
  ·exact⟨u,h2⟩
 refine⟨by simpa using hs.len,fun j u hj=>?_,fun j k u u' hj hk'=>?_⟩
 ·rcases old j u hj with⟨rfl,rfl⟩|⟨hne,hj'⟩
  ·exact .inr ⟨hvt,hk,cs',t,hwr.here,hz,Gu hw hx _ _ _ hv⟩
  ·refine(hs.live j u hj').ext hw hx (hs.lt hj') (fun h _=>h) (fun hvj=>hwr.other _ (hs.inj j i u v hj' hi hne hvj hvt))
 ·obtain⟨a,ha⟩:=keep j u hj;obtain⟨b,hb⟩:=keep k u' hk';exact hs.inj j k a b ha hb
def Env.drew(E:Env):Env:={E with w:=E.w.drew}
theorem Env.ext_drew(E:Env):F6 E E.drew:=⟨rfl,rfl,rfl,Nat.le_refl _,Nat.le_refl _,fun _ _=>rfl,fun _ _=>rfl,fun _ h=>h,fun _ h=> .inl h,fun _=>Iff.rfl,fun _ h=>h,fun _ _=>rfl,fun _ cs _ fr h=>⟨cs,fr,h,rfl⟩⟩
theorem Env.wf_drew{E:Env}(hw:Wf E):Wf E.drew:=⟨hw.S,hw.L,hw.K⟩
theorem fF{E:Env}{h:List (Option V)}(hw:Wf E)(hs:B8 E h):B8 E.drew h:=
 ⟨hs.len,fun i v hi=>(hs.live i v hi).ext hw E.ext_drew (hs.lt hi) (fun h _=>h) (fun _=>rfl),hs.inj⟩
def V.one:V→Bool| .row .. | .st .. | .tup .. | .any=>false|_=>true
theorem Pb{x:Value}(h:x.oneCell'=true):x.cells=#[x]:=by cases x<;>simp_all[Value.cells,Value.oneCell']
theorem F7{E:Env}{v:V}{x:Value}(h:v.one=true)(ht:T E v x):x.oneCell'=true∧R E v (fun _=>some x) 0:=by
 have hz:A6 v=1:=by cases v<;>simp_all[V.one,A6]
 have ha:v.isAgg=false:=by cases v<;>simp_all[V.one,V.isAgg]
 have h':Cu v x∧R E v (fun q=>x.cells[q]?) 0:=by cases v<;>first|exact ht|simp[V.one]at h
 have h1:x.oneCell'=true:=by
  rcases h'.1 with h2|h2
  ·rw[ha]at h2;cases h2.1
  ·exact h2.2
 refine⟨h1,Bp v _ _ 0 0 (fun q hq=>?_) h'.2⟩;rw[hz]at hq;obtain rfl:q=0:=by omega
 simp[Pb h1]
theorem Ik{E:Env}{v:V}{x:Value}(h:v.one=true)(h1:x.oneCell'=true)(hr:R E v (fun _=>some x) 0):T E v x:=by
 have hz:A6 v=1:=by cases v<;>simp_all[V.one,A6]
 have ha:v.isAgg=false:=by cases v<;>simp_all[V.one,V.isAgg]
 have h':Cu v x∧R E v (fun q=>x.cells[q]?) 0:=⟨.inr ⟨ha,h1⟩,Bp v _ _ 0 0 (fun q hq=>by
  rw[hz]at hq;obtain rfl:q=0:=by omega
  simp[Pb h1]) hr⟩
 cases v<;>first|exact h'|simp[V.one]at h
theorem Nm{E:Env}{v:V}{x:Value}(h:v.isAgg=true)(ht:T E v x):∃cs,x= .agg cs∧cs.size=A6 v∧R E v (fun q=>cs[q]?) 0:=by
 have h':Cu v x∧R E v (fun q=>x.cells[q]?) 0:=by cases v<;>first|exact ht|simp[V.isAgg]at h
 rcases h'.1 with⟨_,⟨cs,rfl⟩,h3⟩|⟨h2,_⟩
 ·exact⟨cs,rfl,h3,h'.2⟩
 ·rw[h]at h2;cases h2
theorem J3{E:Env}{v:V}{cs:Array Value}(h:v.isAgg=true)(hz:cs.size=A6 v)(hr:R E v (fun q=>cs[q]?) 0):T E v (.agg cs):=by
 have h':Cu v (.agg cs)∧R E v (fun q=>(Value.agg cs).cells[q]?) 0:=⟨.inl ⟨h,⟨cs,rfl⟩,hz⟩,hr⟩
 cases v<;>first|exact h'|simp[V.isAgg]at h
section
variable {E:Env} {x:Value}
theorem Bb{k:IntKind}{n:Int}:T E (.int k n) x↔x= .int k n:=
 ⟨fun h=>by have:=(F7 rfl h).2;simpa[R]using this,fun h=>by subst h;exact Ik rfl rfl (by simp[R])⟩
theorem dZ:T E .tt x↔x= .bool true:=⟨fun h=>by have:=(F7 rfl h).2;simpa[R]using this,fun h=>by subst h;exact Ik rfl rfl (by simp[R])⟩
theorem aF:T E .ff x↔x= .bool false:=⟨fun h=>by have:=(F7 rfl h).2;simpa[R]using this,fun h=>by subst h;exact Ik rfl rfl (by simp[R])⟩
theorem Ij{b:Bool}:T E (.bool b) x↔x= .bool b:=⟨fun h=>by have:=(F7 rfl h).2;simpa[R]using this,fun h=>by subst h;exact Ik rfl rfl (by simp[R])⟩
theorem I2{s:List UInt8}:T E (.str s) x↔x= .string ⟨s.toArray⟩:=⟨fun h=>by have:=(F7 rfl h).2;simpa[R]using this,fun h=>by subst h;exact Ik rfl rfl (by simp[R])⟩
theorem yE:T E .nilp x↔x= .pointer none:=⟨fun h=>by have:=(F7 rfl h).2;simpa[R]using this,fun h=>by subst h;exact Ik rfl rfl (by simp[R])⟩
theorem yC:T E .nilf x↔x= .nilFunc:=⟨fun h=>by have:=(F7 rfl h).2;simpa[R]using this,fun h=>by subst h;exact Ik rfl rfl (by simp[R])⟩
theorem yD:T E .nili x↔x= .nilIface:=⟨fun h=>by have:=(F7 rfl h).2;simpa[R]using this,fun h=>by subst h;exact Ik rfl rfl (by simp[R])⟩
theorem I1{i:Nat}{p:List E8}:T E (.ref i p) x↔i<E.N∧x= .pointer (some ⟨E.ρ i,Bk p,none⟩):=
 ⟨fun h=>by have:=(F7 rfl h).2;simpa[R]using this,fun⟨h,h2⟩=>by subst h2;exact Ik rfl rfl (by simpa[R]using h)⟩
theorem X4{i:Nat}{p:List E8}{sz lo n:Nat}:T E (.rref i p sz lo n) x↔i<E.N∧x= .pointer (some ⟨E.ρ i,Bk p+lo*sz,none⟩):=
 ⟨fun h=>by have:=(F7 rfl h).2;simpa[R]using this,fun⟨h,h2⟩=>by subst h2;exact Ik rfl rfl (by simpa[R]using h)⟩
theorem Kf{l:Bool}{v:V}:T E (.pim l v) x↔∃b off,x= .pointer (some ⟨b,off,none⟩)∧E.foot l b∧R E.bare v (Am E.w b) off:=
 ⟨fun h=>by have:=(F7 rfl h).2;simpa only[R,Option.some.injEq]using this,fun⟨b,off,h,h2⟩=>by subst h;exact Ik rfl rfl (by simp only[R,Option.some.injEq];exact⟨b,off,rfl,h2⟩)⟩
theorem Jj:T E .emp x↔∃a,x= .slice a 0 0:=
 ⟨fun h=>by have:=(F7 rfl h).2;simpa only[R,Option.some.injEq]using this,fun⟨a,h⟩=>by subst h;exact Ik rfl rfl (by simp only[R];exact⟨a,rfl⟩)⟩
theorem Hq{i:Nat}{p:List E8}{sz lo len cap:Nat}:T E (.sl i p sz lo len cap) x↔i<E.N∧∃a cp,x= .slice a len cp∧len≤cap∧cap≤cp∧
   (cp=0∨(E.vt i=false∧a=some ⟨E.ρ i,Bk p+lo*sz,none⟩∧∃cs t fr,E.w.heap[E.ρ i]?=some (.cells cs t fr)∧Bk p+(lo+cp)*sz≤cs.size)):=
 ⟨fun h=>by have:=(F7 rfl h).2;simpa only[R,Option.some.injEq]using this,fun⟨h0,a,cp,h,h2⟩=>by subst h;exact Ik rfl rfl (by simp only[R,Option.some.injEq];exact⟨h0,a,cp,rfl,h2⟩)⟩
theorem R1{i:Nat}{sz lo len cap:Nat}:T E (.slx i sz lo len cap) x↔i<E.N∧∃a,x= .slice a len cap∧len≤cap∧
   (cap=0∨(E.vt i=false∧a=some ⟨E.ρ i,lo*sz,none⟩∧∃cs t fr,E.w.heap[E.ρ i]?=some (.cells cs t fr)∧(lo+cap)*sz≤cs.size)):=
 ⟨fun h=>by have:=(F7 rfl h).2;simpa only[R,Option.some.injEq]using this,fun⟨h0,a,h,h2⟩=>by subst h;exact Ik rfl rfl (by simp only[R,Option.some.injEq];exact⟨h0,a,rfl,h2⟩)⟩
def unx:V→V
 | .slx i sz lo len cap=> .sl i [] sz lo len cap
 |v=>v
theorem yG{v:V}(h:T E v x):T E (unx v) x:=by
 unfold unx
 split
 ·obtain⟨h0,a,h1,h2,h3⟩:=R1.1 h;exact Hq.2 ⟨h0,a,_,h1,h2,Nat.le_refl _,h3.imp id fun⟨h4,h5,cs,t,fr,h6,h7⟩=>⟨h4,by simpa[Bk]using h5,cs,t,fr,h6,by simpa[Bk]using h7⟩⟩
 ·exact h
theorem Ej{l:Bool}{sz n:Nat}{f:Nat→V}:T E (.imm l sz n f) x↔∃a cp,x= .slice a n cp∧n≤cp∧
   (n=0∨∃b off,a=some ⟨b,off,none⟩∧E.foot l b∧∀k,k<n→A6 (f k)=sz∧R E.bare (f k) (Am E.w b) (off+k*sz)):=
 ⟨fun h=>by have:=(F7 rfl h).2;simpa only[R,Option.some.injEq]using this,fun⟨a,cp,h,h2⟩=>by subst h;exact Ik rfl rfl (by simp only[R,Option.some.injEq];exact⟨a,cp,rfl,h2⟩)⟩
theorem vA{f:FuncId}{caps:Vs}:T E (.fn f caps) x↔∃xs,x= .func (.func f) #[] xs∧xs.size=Au caps∧caps.flat=true∧RL E caps (fun k=>xs[k]?) 0:=
 ⟨fun h=>by have:=(F7 rfl h).2;simpa only[R,Option.some.injEq]using this,fun⟨xs,h,h2⟩=>by subst h;exact Ik rfl rfl (by simp only[R,Option.some.injEq];exact⟨xs,rfl,h2⟩)⟩
theorem dY{t:TypeId}{v:V}:T E (.iface t v) x↔∃y,x= .iface t y∧Cu v y∧R E v (fun k=>y.cells[k]?) 0:=
 ⟨fun h=>by have:=(F7 rfl h).2;simpa only[R,Option.some.injEq]using this,fun⟨xs,h,h2⟩=>by subst h;exact Ik rfl rfl (by simp only[R,Option.some.injEq];exact⟨xs,rfl,h2⟩)⟩
end
inductive TD where
 |int (k:IntKind)|bool|str|ptr (e:Nat)|slice (e:Nat)|arr (n e:Nat)|st (fs:List (Nat×Nat))|fn|iface|other
 deriving DecidableEq
structure TI where
 d:TD
 sz:Nat
 by_:Nat
 z:V
def TD.isAgg:TD→Bool| .arr .. | .st _=>true|_=>false
def Bi:List (Option TI)→Nat→Option TI|[],_=>none|x::_,0=>x|_::l,k+1=>Bi l k
mutual
def Sr:V→(Nat→Option Value)→Nat→Bool
 | .int k n,c,o=>match c o with|some (.int k' n')=>k==k'&&n==n'|_=>false
 | .ff,c,o=>match c o with|some (.bool b)=> !b|_=>false
 | .str s,c,o=>match c o with|some (.string t)=>t.data.toList==s|_=>false
 | .nilp,c,o=>match c o with|some (.pointer none)=>true|_=>false
 | .emp,c,o=>match c o with|some (.slice _ 0 0)=>true|_=>false
 | .nilf,c,o=>match c o with|some .nilFunc=>true|_=>false
 | .nili,c,o=>match c o with|some .nilIface=>true|_=>false
 | .row sz n f,c,o=>(List.range n).all fun k=>A6 (f k)==sz&&Sr (f k) c (o+k*sz)
 | .st l,c,o=>uS l c o
 |_,_,_=>false
def uS:Vs→(Nat→Option Value)→Nat→Bool
 | .nil,_,_=>true
 | .cons v l,c,o=>Sr v c o&&uS l c (o+A6 v)
end
mutual
theorem iR{E:Env}:∀(v:V) (c:Nat→Option Value) (o:Nat),Sr v c o=true→R E v c o
 | .int k n,c,o,h=>by
  simp only[Sr]at h;split at h
  ·rename_i k' n' hc;simp at h;simp only[R];rw[hc,h.1,h.2]
  ·cases h
 | .ff,c,o,h=>by
  simp only[Sr]at h;split at h
  ·rename_i b hc;simp at h;simp only[R];rw[hc,h]
  ·cases h
 | .str s,c,o,h=>by
  simp only[Sr]at h;split at h
  ·rename_i t hc;simp only[beq_iff_eq]at h;simp only[R];rw[hc,←h]
  ·cases h
 | .nilp,c,o,h=>by
  simp only[Sr]at h;split at h
  ·rename_i hc;simp only[R];rw[hc]
  ·cases h
 | .emp,c,o,h=>by
  simp only[Sr]at h;split at h
  ·rename_i a hc;simp only[R];exact⟨_,hc⟩
  ·cases h
 | .nilf,c,o,h=>by
  simp only[Sr]at h;split at h
  ·rename_i hc;simp only[R];rw[hc]
  ·cases h
 | .nili,c,o,h=>by
  simp only[Sr]at h;split at h
  ·rename_i hc;simp only[R];rw[hc]
  ·cases h
 | .row sz n f,c,o,h=>by
  simp only[Sr,List.all_eq_true,List.mem_range,Bool.and_eq_true,beq_iff_eq]at h;simp only[R];exact fun k hk=>⟨(h k hk).1,iR (f k) c _ (h k hk).2⟩
 | .st l,c,o,h=>by
  simp only[Sr]at h;simp only[R];exact nC l c o h
 | .tt,_,_,h| .bool _,_,_,h| .ref ..,_,_,h| .rref ..,_,_,h| .pim ..,_,_,h| .sl ..,_,_,h| .slx ..,_,_,h| .imm ..,_,_,h| .fn ..,_,_,h| .iface ..,_,_,h| .tup _,_,_,h| .any,_,_,h=>by simp[Sr]at h
theorem nC{E:Env}:∀(l:Vs) (c:Nat→Option Value) (o:Nat),uS l c o=true→RL E l c o
 | .nil,_,_,_=>by simp only[RL]
 | .cons v l,c,o,h=>by
  simp only[uS,Bool.and_eq_true]at h;simp only[RL];exact⟨iR v c o h.1,nC l c _ h.2⟩
end
def Hb(P:Program)(t:Nat):TD→Bool
 | .int k=>match P.underlying t with|some (.int k')=>k==k'|_=>false
 | .bool=>match P.underlying t with|some .bool=>true|_=>false
 | .str=>match P.underlying t with|some .string=>true|_=>false
 | .ptr e=>match P.underlying t with|some (.pointer e')=>e==e'|_=>false
 | .slice e=>match P.underlying t with|some (.slice e')=>e==e'|_=>false
 | .arr n e=>match P.underlying t with|some (.array n' e')=>n==n'&&e==e'|_=>false
 | .st fs=>match P.underlying t with|some (.struct gs)=>gs.toList.map (fun f=>(f.offset,f.type))==fs&&gs.toList.all (fun f=>(P.info? f.type).isSome)|_=>false
 | .fn=>match P.underlying t with|some (.func ..)=>true|_=>false
 | .iface=>match P.underlying t with|some (.interface _)=>true|_=>false
 | .other=>false
def AOo(P:Program)(t:Nat)(i:TI):Bool:=
 Hb P t i.d&&match P.info? t with
  |some f=>f.size==i.sz&&f.bytes==i.by_&&(match f.zero with
   |some z=>(match z with| .agg cs=>i.d.isAgg&&cs.size==i.sz|z=> !i.d.isAgg&&z.oneCell'&&i.sz==1)&&Sr i.z (fun k=>z.cells[k]?) 0&&i.z.isAgg==i.d.isAgg&&i.z.one== !i.d.isAgg&&A6 i.z==i.sz
   |none=>false)
  |none=>false
def K6(P:Program):List (Option TI)→Nat→Bool
 |[],_=>true
 |none::l,t=>K6 P l (t+1)
 |some i::l,t=>AOo P t i&&K6 P l (t+1)
def Bu(P:Program)(tb:List (Option TI)):Prop:=K6 P tb 0=true
theorem U8{P:Program}:∀{tb:List (Option TI)} {s t:Nat} {i:TI},K6 P tb s=true→Bi tb t=some i→AOo P (s+t) i=true
 |[],_,_,_,_,h=>by simp[Bi]at h
 |none::l,s,0,i,_,h=>by simp[Bi]at h
 |some j::l,s,0,i,hok,h=>by
  simp only[Bi,Option.some.injEq]at h;subst h;simp only[K6,Bool.and_eq_true]at hok;exact hok.1
 |none::l,s,t+1,i,hok,h=>by
  simp only[Bi]at h
  have:=U8 (s:=s+1) (by simpa only[K6]using hok) h
  rwa [Nat.add_assoc,Nat.add_comm 1 t]at this
 |some j::l,s,t+1,i,hok,h=>by
  simp only[Bi]at h;simp only[K6,Bool.and_eq_true]at hok
  have:=U8 (s:=s+1) hok.2 h
  rwa [Nat.add_assoc,Nat.add_comm 1 t]at this
structure F8(P:Program)(t:Nat)(i:TI):Prop where
 td:Hb P t i.d=true
 info:∃f z,P.info? t=some f∧f.size=i.sz∧f.bytes=i.by_∧f.zero=some z∧(∀E,T E i.z z)∧z.cells.size=i.sz
 agg:i.z.isAgg=i.d.isAgg
 one:i.z.one= !i.d.isAgg
 size:A6 i.z=i.sz
theorem Bu.get{P:Program}{tb:List (Option TI)}(h:Bu P tb){t:Nat}{i:TI}(hg:Bi tb t=some i):F8 P t i:=by
 have h1:=U8 (s:=0) h hg;rw[Nat.zero_add]at h1;simp only[AOo,Bool.and_eq_true]at h1;obtain⟨h2,h3⟩:=h1
 split at h3
 ·rename_i f hf;simp only[Bool.and_eq_true,beq_iff_eq]at h3;obtain⟨⟨h4,h5⟩,h6⟩:=h3
  split at h6
  ·rename_i z hz;simp only[Bool.and_eq_true,beq_iff_eq]at h6;obtain⟨⟨⟨⟨h7,h8⟩,h9⟩,h10⟩,h11⟩:=h6;have hr:∀E,R E i.z (fun k=>z.cells[k]?) 0:=fun E=>iR _ _ _ h8
   have hag:∀E,T E i.z z∧z.cells.size=i.sz:=fun E=>by
    cases z with
    |agg cs=>
     simp only[Bool.and_eq_true,beq_iff_eq]at h7;exact⟨J3 (h9.trans h7.1) (h7.2.trans h11.symm) (hr E),h7.2⟩
    |_=>
     simp only[Bool.and_eq_true,Bool.not_eq_true',beq_iff_eq]at h7
     first
      |(simp[Value.oneCell']at h7;done)
      |exact⟨Ik (by rw[h10,h7.1.1];rfl) h7.1.2 (Bp _ _ _ 0 0 (fun q hq=>by
        rw[h11,h7.2]at hq;obtain rfl:q=0:=by omega
        simp[Value.cells]) (hr E)),by simp[Value.cells,h7.2]⟩
   exact⟨h2,⟨f,z,hf,h4,h5,hz,fun E=>(hag E).1,(hag ⟨default,fun _=>0,fun _=>false,0,fun _=>False,fun _=>False,fun _=>False⟩).2⟩,h9,h10,h11⟩
  ·cases h6
 ·cases h3
structure Ob(p:Prop):Prop where
 out:p
def Di(E:Env)(κ:V→Prop)(r:Result Value):Prop:=∃x v,r= .ok x E.w∧T E v x∧κ v
theorem Di.mk{E:Env}{κ:V→Prop}{r:Result Value}(x:Value)(v:V)(h:r= .ok x E.w)(ht:T E v x)(hk:κ v):Di E κ r:=⟨x,v,h,ht,hk⟩
def Ag(op:BinOp)(k:IntKind)(x y:Int):Int:=
 match op with
 | .and=>k.wrap (BitVec.ofInt k.bits x&&&BitVec.ofInt k.bits y).toNat
 | .or=>k.wrap (BitVec.ofInt k.bits x|||BitVec.ofInt k.bits y).toNat
 | .xor=>k.wrap (BitVec.ofInt k.bits x^^^BitVec.ofInt k.bits y).toNat
 |_=>k.wrap (BitVec.ofInt k.bits x&&&~~~BitVec.ofInt k.bits y).toNat
def Ch(k:IntKind)(x y:Int):Int:=k.wrap (x*2^min y.toNat k.bits)
def Bt(k:IntKind)(x y:Int):Int:=x.fdiv (2^min y.toNat k.bits)
def vb:V→Option Bool| .tt=>some true| .ff=>some false| .bool b=>some b|_=>none
def Y8(k:IntKind):V→Bool| .int k' _=>k'==k|_=>false
def Fy:V→Int| .int _ n=>n|_=>0
def De(n:Nat)(f g:Nat→V):Bool:=(List.range n).all fun k=>Fy (f k)==Fy (g k)
def Tn(op:BinOp)(k:IntKind)(a b:Int)(κ:V→Prop):Prop:=
 match op with
 | .add=>κ (.int k (k.wrap (a+b)))
 | .sub=>κ (.int k (k.wrap (a - b)))
 | .mul=>κ (.int k (k.wrap (a*b)))
 | .quo=>Ob (b≠0)∧κ (.int k (k.wrap (a.tdiv b)))
 | .rem=>Ob (b≠0)∧κ (.int k (a.tmod b))
 | .and=>κ (.int k (Ag .and k a b))
 | .or=>κ (.int k (Ag .or k a b))
 | .xor=>κ (.int k (Ag .xor k a b))
 | .andNot=>κ (.int k (Ag .andNot k a b))
 | .eql=>κ (.bool (a==b))
 | .neq=>κ (.bool (a !=b))
 | .lss=>κ (.bool (decide (a<b)))
 | .leq=>κ (.bool (decide (a≤b)))
 | .gtr=>κ (.bool (decide (b<a)))
 | .geq=>κ (.bool (decide (b≤a)))
 |_=>False
def U7(op:BinOp)(a b:List UInt8)(κ:V→Prop):Prop:=
 match op with
 | .add=>Ob (a.length+b.length≤140737488355328)∧κ (.str (a++b))
 | .eql=>κ (.bool (a==b))
 | .neq=>κ (.bool (!(a==b)))
 | .lss=>κ (.bool (Op.bytesLess a b))
 | .leq=>κ (.bool (Op.bytesLess a b||a==b))
 | .gtr=>κ (.bool (!(Op.bytesLess a b||a==b)))
 | .geq=>κ (.bool (!Op.bytesLess a b))
 |_=>False
def Yk(d:TD)(x:V)(κ:Bool→Prop):Prop:=
 match d,x with
 | .ptr _, .nilp| .fn, .nilf| .iface, .nili=>κ true
 | .ptr _, .ref .. | .ptr _, .rref .. | .ptr _, .pim .. | .fn, .fn .. | .iface, .iface .. =>κ false
 | .slice _, .emp=>∀b,κ b
 | .slice _, .imm _ _ n _=>∀b:Bool,(b=true→n=0)→κ b
 | .slice _, .sl _ _ _ _ n _=>∀b:Bool,(b=true→n=0)→κ b
 |_,_=>False
def O4(d:TD)(y:Operand):Bool:=
 match d,y with
 | .ptr _, .const (.pointer none)| .fn, .const .nilFunc| .iface, .const .nilIface| .slice _, .const (.slice none 0 0)=>true
 |_,_=>false
def jY(tb:List (Option TI))(t n:Nat)(f:Nat→V)(m:Nat)(g:Nat→V)(κ:Bool→Prop):Prop:=
 match Bi tb t with
 |some ⟨.arr l e,_,_,_⟩=>
  match Bi tb e with
  |some ⟨.int k,1,_,_⟩=>
   match Nat.beq n l&&Nat.beq m l with
   |true=>Ob (∀i,i<l→Y8 k (f i)=true)∧Ob (∀i,i<l→Y8 k (g i)=true)∧κ (De l f g)
   |false=>False
  |_=>False
 |_=>False
def eqD(tb:List (Option TI))(t:Nat)(x y:V)(κ:Bool→Prop):Prop:=
 match vb x,vb y with
 |some a,some b=>(match Bi tb t with|some ⟨.bool,_,_,_⟩=>κ (a==b)|_=>False)
 |_,_=>
  match x,y with
  | .row _ n f, .row _ m g=>jY tb t n f m g κ
  |_,_=>False
def Nc(tb:List (Option TI))(t:Nat)(yo:Operand)(x y:V)(κ:Bool→Prop):Prop:=
 match Bi tb t with
 |some i=>
  match O4 i.d yo with
  |true=>Yk i.d x κ
  |false=>eqD tb t x y κ
 |none=>False
def aH(tb:List (Option TI))(op:BinOp)(t:Nat)(_xo yo:Operand)(x y:V)(κ:V→Prop):Prop:=
 match x,y with
 | .int k a, .int k' b=>
  (match op with
  | .shl=>Ob (0≤b)∧κ (.int k (Ch k a b))
  | .shr=>Ob (0≤b)∧κ (.int k (Bt k a b))
  |op=>if k=k' then Tn op k a b κ else False)
 | .str a, .str b=>U7 op a b κ
 |x,y=>
  match op with
  | .eql=>Nc tb t yo x y (fun b=>κ (.bool b))
  | .neq=>Nc tb t yo x y (fun b=>κ (.bool (!b)))
  |_=>False
def unD(op:UnOp)(x:V)(κ:V→Prop):Prop:=
 match op,x with
 | .not, .tt=>κ .ff
 | .not, .ff=>κ .tt
 | .not, .bool b=>κ (.bool (!b))
 | .neg, .int k n=>κ (.int k (k.wrap (0 - n)))
 | .xor, .int k n=>κ (.int k (Ag .xor k (if k.signed then -1 else k.max) n))
 |_,_=>False
theorem ASu{E:Env}{v:V}{x:Value}{b:Bool}(h:vb v=some b)(ht:T E v x):x= .bool b:=by
 cases v<;>simp[vb]at h
 ·subst h;exact dZ.1 ht
 ·subst h;exact aF.1 ht
 ·subst h;exact Ij.1 ht
section
variable {P:Program} {tb:List (Option TI)} {E:Env}
theorem jW(op:BinOp)(t:TypeId)(xo yo:Operand)(k k':IntKind)(a b:Int)(w:World):(eqGuard op t xo yo (.int k a) (.int k' b)).run P w= .ok () w:=by
 cases op<;>rfl
theorem vY{op:BinOp}{k:IntKind}{a b:Int}{κ:V→Prop}(h:Tn op k a b κ)(hs:op≠ .shl)(hr:op≠ .shr)(t:TypeId):Di E κ ((binOp op t (.int k a) (.int k b)).run P E.w):=by
 cases op<;>simp only[Tn]at h<;>first|exact h.elim|(exact absurd rfl hs)|(exact absurd rfl hr)|skip
 all_goals simp only[binOp,ne_eq,not_true,if_false,Op.intArith,Op.intDiv,Op.intBits,Op.intCmp,Sem.run_ite,Sem.run_pure]
 case quo=>rw[if_neg h.1.out];exact .mk _ _ rfl (Bb.2 rfl) h.2
 case rem=>rw[if_neg h.1.out];exact .mk _ _ rfl (Bb.2 rfl) h.2
 all_goals first
  |exact .mk _ _ rfl (Bb.2 rfl) h
  |exact .mk _ _ rfl (Ij.2 rfl) h
theorem xC{op:BinOp}{a b:List UInt8}{κ:V→Prop}(h:U7 op a b κ)(t:TypeId):Di E κ ((binOp op t (.string ⟨a.toArray⟩) (.string ⟨b.toArray⟩)).run P E.w):=by
 cases op<;>simp only[U7]at h<;>first|exact h.elim|skip
 all_goals simp only[binOp,Op.stringOp,ByteArray.toList_mk,Sem.run_ite,Sem.run_pure]
 case add=>
  have h1:=h.1.out
  rw[if_neg (by
   show¬((((ByteArray.mk a.toArray).size+(ByteArray.mk b.toArray).size:Nat):Int)>IntKind.i64.max)
   have ha:(ByteArray.mk a.toArray).size=a.length:=by simp[ByteArray.size]
   have hb:(ByteArray.mk b.toArray).size=b.length:=by simp[ByteArray.size]
   rw[ha,hb]
   have:IntKind.i64.max=9223372036854775807:=by decide
   rw[this];omega)]
  refine .mk _ _ rfl (I2.2 ?_) h.2
  congr 1
  first|done|(apply ByteArray.ext;first|done|simp)
 all_goals exact .mk _ _ rfl (Ij.2 rfl) h
theorem jX(op:BinOp)(t:TypeId)(xo yo:Operand)(a b:ByteArray)(w:World):(eqGuard op t xo yo (.string a) (.string b)).run P w= .ok () w:=by
 cases op<;>rfl
theorem mI{l:Nat}{f:Nat→V}{k:IntKind}{cs:Array Value}{sz:Nat}(h:∀i,i<l→Y8 k (f i)=true)(hr:∀i,i<l→A6 (f i)=sz∧R E (f i) (fun q=>cs[q]?) (0+i*sz)):
  ∀j,j<l→cs[j]?=some (.int k (Fy (f j))):=fun j hj=>by
 have h1:=hr j hj;have h2:=h j hj;generalize f j=u at h1 h2
 cases u<;>simp[Y8]at h2
 subst h2;obtain⟨h3,h4⟩:=h1;simp only[A6]at h3;subst h3;simpa[R,Fy]using h4
theorem zS(ht:Bu P tb){t:Nat}{sz n sz' m:Nat}{f g:Nat→V}{X Y:Value}{κ:Bool→Prop}(h:jY tb t n f m g κ)(hx:T E (.row sz n f) X)(hy:T E (.row sz' m g) Y)(op:BinOp)(xo yo:Operand):
  (eqGuard op t xo yo X Y).run P E.w= .ok () E.w∧∃b,κ b∧(Op.equal t X Y).run P E.w= .ok b E.w∧∃a c,X= .agg a∧Y= .agg c:=by
 unfold jY at h
 split at h
 ·rename_i l e zs zb zz hg
  split at h
  ·rename_i k zb' zz' hg'
   split at h
   ·rename_i hnm;obtain⟨hf,hg2,hk⟩:=h;simp only[Bool.and_eq_true,Nat.beq_eq]at hnm;obtain⟨rfl,rfl⟩:=hnm;have hT:=(ht.get hg).td;simp only[Hb]at hT;have hTe:=ht.get hg';have hTd:=hTe.td;simp only[Hb]at hTd
    split at hT
    ·rename_i n' e' hu;simp only[Bool.and_eq_true,beq_iff_eq]at hT;obtain⟨rfl,rfl⟩:=hT
     split at hTd
     ·rename_i k' hue;simp only[beq_iff_eq]at hTd;subst hTd;obtain⟨i,zv,hi,hsz,_⟩:=hTe.info;obtain⟨xs,rfl,hxs,hrx⟩:=Nm rfl hx;obtain⟨ys,rfl,hys,hry⟩:=Nm rfl hy;simp only[R]at hrx hry;have hfx:=mI hf.out hrx;have hgx:=mI hg2.out hry
      have hguard:P.eqGuardType P.depth t=false:=by
       have:P.depth=(2*(P.types.size+Made.depth))+1+1:=rfl
       rw[this];simp only[Program.eqGuardType,hu,hue]
      refine⟨run_eqGuard_agg E.w op t xo yo xs ys hguard,_,hk,?_,xs,ys,rfl,rfl⟩
      show(Op.equalIn (9999+1) t (.agg xs) (.agg ys)).run P E.w=_
      rw[run_equalIn_array E.w 9999 xs ys hu hi];have hc:P.cellsOf e=1:=by simp[Program.cellsOf,hi,hsz]
      rw[hc]
      have hpart:∀(cs:Array Value) (j:Nat) (v:Value),cs[j]?=some v→(part e cs (j*1)).run P E.w= .ok v E.w:=fun cs j v hv=>by
       simp only[part,isAgg,Sem.run_bind,run_underlying hue,Result.andThen_ok,Sem.run_pure,Nat.mul_one,hv,Bool.false_eq_true,if_false]
      have key:∀(is:List Nat),(∀j∈is,j<m)→(Op.eqItems 9999 e 1 xs ys is).run P E.w= .ok (is.all fun j=>Fy (f j)==Fy (g j)) E.w:=by
       intro is
       induction is with
       |nil=>intro _;simp[Op.eqItems]
       |cons j is ih=>
        intro hall;have hj:=hall j (by simp);simp only[Op.eqItems,Sem.run_bind,hpart _ _ _ (hfx j hj),hpart _ _ _ (hgx j hj),Result.andThen_ok,run_equalIn_int E.w 9998 e k k _ _ hue,List.all_cons]
        cases hb:(Fy (f j)==Fy (g j))
        ·simp
        ·simpa using ih (fun q hq=>hall q (by simp[hq]))
      exact key (List.range m) (fun j hj=>List.mem_range.1 hj)
     ·cases hTd
    ·cases hT
   ·exact h.elim
  ·exact h.elim
 ·exact h.elim
theorem AM5(ht:Bu P tb){t:Nat}{x y:V}{X Y:Value}{κ:Bool→Prop}(h:eqD tb t x y κ)(hx:T E x X)(hy:T E y Y)(op:BinOp)(xo yo:Operand):
  (eqGuard op t xo yo X Y).run P E.w= .ok () E.w∧∃b,κ b∧(Op.equal t X Y).run P E.w= .ok b E.w∧((∃a c,X= .bool a∧Y= .bool c)∨(∃a c,X= .agg a∧Y= .agg c)):=by
 unfold eqD at h
 split at h
 ·rename_i a b ha hb;have h1:=ASu ha hx;have h2:=ASu hb hy;subst h1;subst h2
  split at h
  ·rename_i hg;have hT:=(ht.get hg).td;simp only[Hb]at hT
   split at hT
   ·rename_i hu;refine⟨by cases op<;>rfl,a==b,h,run_equalIn_bool E.w 9999 t a b hu, .inl ⟨a,b,rfl,rfl⟩⟩
   ·cases hT
  ·exact h.elim
 ·cases x<;>cases y<;>first|exact h.elim|skip
  obtain⟨h1,b,h2,h3,h4⟩:=zS ht h hx hy op xo yo;exact⟨h1,b,h2,h3, .inr h4⟩
theorem rW{t e:TypeId}(hu:P.underlying t=some (.pointer e))(A:Option Addr)(w:World):(Op.equal t (.pointer A) (.pointer none)).run P w= .ok A.isNone w:=by
 show(Op.equalIn (9999+1) t _ _).run P w=_
 unfold Op.equalIn;simp only[Sem.run_bind,run_underlying hu,Result.andThen_ok]
 cases A<;>rfl
theorem AQn{t:TypeId}{a b:Array TypeId}{v:Bool}(hu:P.underlying t=some (.func a b v))(w:World):(Op.equal t .nilFunc .nilFunc).run P w= .ok true w:=by
 show(Op.equalIn (9999+1) t _ _).run P w=_
 unfold Op.equalIn;simp only[Sem.run_bind,run_underlying hu,Result.andThen_ok];rfl
theorem AQl{t:TypeId}{a b:Array TypeId}{v:Bool}(hu:P.underlying t=some (.func a b v))(f:Fn)(x y:Array Value)(w:World):(Op.equal t (.func f x y) .nilFunc).run P w= .ok false w:=by
 show(Op.equalIn (9999+1) t _ _).run P w=_
 unfold Op.equalIn;simp only[Sem.run_bind,run_underlying hu,Result.andThen_ok];rfl
theorem AQo{t:TypeId}{ms:Array (String×TypeId)}(hu:P.underlying t=some (.interface ms))(w:World):(Op.equal t .nilIface .nilIface).run P w= .ok true w:=by
 show(Op.equalIn (9999+1) t _ _).run P w=_
 unfold Op.equalIn;simp only[Sem.run_bind,run_underlying hu,Result.andThen_ok];rfl
theorem AQm{t:TypeId}{ms:Array (String×TypeId)}(hu:P.underlying t=some (.interface ms))(u:TypeId)(v:Value)(w:World):(Op.equal t (.iface u v) .nilIface).run P w= .ok false w:=by
 show(Op.equalIn (9999+1) t _ _).run P w=_
 unfold Op.equalIn;simp only[Sem.run_bind,run_underlying hu,Result.andThen_ok];rfl
theorem AQp{t e:TypeId}(hu:P.underlying t=some (.slice e))(A:Option Addr)(n c:Nat)(w:World):(Op.equal t (.slice A n c) (.slice none 0 0)).run P w= .ok A.isNone w:=by
 show(Op.equalIn (9999+1) t _ _).run P w=_
 unfold Op.equalIn;simp only[Sem.run_bind,run_underlying hu,Result.andThen_ok]
 cases A<;>rfl
theorem AI3(ht:Bu P tb){t:Nat}{i:TI}(hg:Bi tb t=some i){x:V}{a:Act}{xo yo:Operand}{κ:Bool→Prop}(hn:O4 i.d yo=true)(h:Yk i.d x κ)(hx:T E x (a.eval xo))(op:BinOp):
  (eqGuard op t xo yo (a.eval xo) (a.eval yo)).run P E.w= .ok () E.w∧∃b,κ b∧(Op.equal t (a.eval xo) (a.eval yo)).run P E.w= .ok b E.w∧
    ((∀(op:BinOp),op= .eql→binOp op t (a.eval xo) (a.eval yo)=(do pure (.bool (←Op.equal t (a.eval xo) (a.eval yo)))))∧(∀(op:BinOp),op= .neq→binOp op t (a.eval xo) (a.eval yo)=(do pure (.bool (!(←Op.equal t (a.eval xo) (a.eval yo))))))):=by
 have hT:=(ht.get hg).td;generalize hX:a.eval xo=X at*;unfold O4 at hn
 split at hn<;>first|cases hn|skip
 ·rename_i e hd;rw[hd]at h hT;simp only[Hb]at hT
  split at hT
  ·rename_i e' hu
   cases x<;>simp only[Yk]at h<;>first|exact h.elim|skip
   ·obtain rfl:=yE.1 hx;exact⟨by cases op<;>rfl,true,h,rW hu _ _,fun op ho=>by subst ho;rfl,fun op ho=>by subst ho;rfl⟩
   ·obtain⟨_,rfl⟩:=I1.1 hx;exact⟨by cases op<;>rfl,false,h,rW hu _ _,fun op ho=>by subst ho;rfl,fun op ho=>by subst ho;rfl⟩
   ·obtain⟨_,rfl⟩:=X4.1 hx;exact⟨by cases op<;>rfl,false,h,rW hu _ _,fun op ho=>by subst ho;rfl,fun op ho=>by subst ho;rfl⟩
   ·obtain⟨b,off,rfl,_⟩:=Kf.1 hx;exact⟨by cases op<;>rfl,false,h,rW hu _ _,fun op ho=>by subst ho;rfl,fun op ho=>by subst ho;rfl⟩
  ·cases hT
 ·rename_i hd;rw[hd]at h hT;simp only[Hb]at hT
  split at hT
  ·rename_i hu
   cases x<;>simp only[Yk]at h<;>first|exact h.elim|skip
   ·obtain⟨xs,rfl,_⟩:=vA.1 hx;exact⟨by cases op<;>rfl,false,h,AQl hu _ _ _ _,fun op ho=>by subst ho;rfl,fun op ho=>by subst ho;rfl⟩
   ·obtain rfl:=yC.1 hx;exact⟨by cases op<;>rfl,true,h,AQn hu _,fun op ho=>by subst ho;rfl,fun op ho=>by subst ho;rfl⟩
  ·cases hT
 ·rename_i hd;rw[hd]at h hT;simp only[Hb]at hT
  split at hT
  ·rename_i hu
   cases x<;>simp only[Yk]at h<;>first|exact h.elim|skip
   ·obtain⟨y,rfl,_⟩:=dY.1 hx;exact⟨by cases op<;>rfl,false,h,AQm hu _ _ _,fun op ho=>by subst ho;rfl,fun op ho=>by subst ho;rfl⟩
   ·obtain rfl:=yD.1 hx;exact⟨by cases op<;>cases xo<;>rfl,true,h,AQo hu _,fun op ho=>by subst ho;rfl,fun op ho=>by subst ho;rfl⟩
  ·cases hT
 ·rename_i e hd;rw[hd]at h hT;simp only[Hb]at hT
  split at hT
  ·rename_i e' hu
   have key:∀(A:Option Addr) (n c:Nat),κ A.isNone→X= .slice A n c→(eqGuard op t xo (.const (.slice none 0 0)) X (a.eval (.const (.slice none 0 0)))).run P E.w= .ok () E.w∧∃b,κ b∧(Op.equal t X (a.eval (.const (.slice none 0 0)))).run P E.w= .ok b E.w∧
     ((∀(op:BinOp),op= .eql→binOp op t X (a.eval (.const (.slice none 0 0)))=(do pure (.bool (←Op.equal t X (a.eval (.const (.slice none 0 0)))))))∧(∀(op:BinOp),op= .neq→binOp op t X (a.eval (.const (.slice none 0 0)))=(do pure (.bool (!(←Op.equal t X (a.eval (.const (.slice none 0 0))))))))):=fun A n c hk hX=>by
    subst hX;exact⟨by cases op<;>rfl,A.isNone,hk,AQp hu _ _ _ _,fun op ho=>by subst ho;rfl,fun op ho=>by subst ho;rfl⟩
   cases x<;>simp only[Yk]at h<;>first|exact h.elim|skip
   ·obtain⟨_,A,cp,h1,h2,h3,h4⟩:=Hq.1 hx
    exact key A _ cp (h _ fun ha=>by
     rcases h4 with h4|⟨_,h4,_⟩
     ·omega
     ·subst h4;cases ha) h1
   ·obtain⟨A,h1⟩:=Jj.1 hx;exact key A _ _ (h _) h1
   ·obtain⟨A,cp,h1,h2,h3⟩:=Ej.1 hx
    exact key A _ cp (h _ fun ha=>by
     rcases h3 with h3|⟨b,off,h3,_⟩
     ·exact h3
     ·subst h3;cases ha) h1
  ·cases hT
theorem rX(ht:Bu P tb){t:Nat}{x y:V}{a:Act}{xo yo:Operand}{κ:Bool→Prop}(h:Nc tb t yo x y κ)(hx:T E x (a.eval xo))(hy:T E y (a.eval yo))(op:BinOp):
  (eqGuard op t xo yo (a.eval xo) (a.eval yo)).run P E.w= .ok () E.w∧∃b,κ b∧(Op.equal t (a.eval xo) (a.eval yo)).run P E.w= .ok b E.w∧
    ((∀(op:BinOp),op= .eql→binOp op t (a.eval xo) (a.eval yo)=(do pure (.bool (←Op.equal t (a.eval xo) (a.eval yo)))))∧(∀(op:BinOp),op= .neq→binOp op t (a.eval xo) (a.eval yo)=(do pure (.bool (!(←Op.equal t (a.eval xo) (a.eval yo))))))):=by
 unfold Nc at h
 split at h
 ·rename_i i hg
  split at h
  ·rename_i hn;exact AI3 ht hg hn h hx op
  ·obtain⟨h1,b,h2,h3,h4⟩:=AM5 ht h hx hy op xo yo;refine⟨h1,b,h2,h3,?_⟩
   rcases h4 with⟨p,q,h5,h6⟩|⟨p,q,h5,h6⟩
   ·rw[h5,h6];exact⟨fun op ho=>by subst ho;rfl,fun op ho=>by subst ho;rfl⟩
   ·rw[h5,h6];exact⟨fun op ho=>by subst ho;rfl,fun op ho=>by subst ho;rfl⟩
 ·exact h.elim
theorem AEj(ht:Bu P tb){op:BinOp}{t:Nat}{x y:V}{a:Act}{xo yo:Operand}{κ:V→Prop}(h:aH tb op t xo yo x y κ)(hx:T E x (a.eval xo))(hy:T E y (a.eval yo)):
  Di E κ ((do eqGuard op t xo yo (a.eval xo) (a.eval yo);binOp op t (a.eval xo) (a.eval yo)).run P E.w):=by
 have eqs:∀κ':V→Prop,(op= .eql∧Nc tb t yo x y (fun b=>κ' (.bool b))∨op= .neq∧Nc tb t yo x y (fun b=>κ' (.bool (!b))))→Di E κ' ((do eqGuard op t xo yo (a.eval xo) (a.eval yo);binOp op t (a.eval xo) (a.eval yo)).run P E.w):=by
  rintro κ' (⟨rfl,hq⟩|⟨rfl,hq⟩)
  ·obtain⟨h1,b,h2,h3,h4,_⟩:=rX ht hq hx hy .eql;simp only[Sem.run_bind,h1,Result.andThen_ok,h4 _ rfl,h3,Sem.run_pure];exact .mk _ _ rfl (Ij.2 rfl) h2
  ·obtain⟨h1,b,h2,h3,_,h4⟩:=rX ht hq hx hy .neq;simp only[Sem.run_bind,h1,Result.andThen_ok,h4 _ rfl,h3,Sem.run_pure];exact .mk _ _ rfl (Ij.2 rfl) h2
 unfold aH at h
 split at h
 ·rename_i k n k' m;have h1:=Bb.1 hx;have h2:=Bb.1 hy;simp only[Sem.run_bind];rw[h1,h2,jW];simp only[Result.andThen_ok]
  split at h
  ·simp only[binOp,Op.shift,Sem.run_ite];rw[if_neg (by have:=h.1.out;omega)];exact .mk _ _ rfl (Bb.2 rfl) h.2
  ·simp only[binOp,Op.shift,Sem.run_ite];rw[if_neg (by have:=h.1.out;omega)];exact .mk _ _ rfl (Bb.2 rfl) h.2
  ·rename_i hs hr
   split at h
   ·rename_i hk;subst hk;exact vY h (fun e=>hs e) (fun e=>hr e) t
   ·exact h.elim
 ·have h1:=I2.1 hx;have h2:=I2.1 hy;simp only[Sem.run_bind];rw[h1,h2,jX];exact xC h t
 ·split at h
  ·exact eqs κ (.inl ⟨rfl,h⟩)
  ·exact eqs κ (.inr ⟨rfl,h⟩)
  ·exact h.elim
theorem AOu{op:UnOp}{x:V}{X:Value}{κ:V→Prop}(h:unD op x κ)(hx:T E x X):Di E κ ((Op.unary op X).run P E.w):=by
 unfold unD at h
 split at h
 ·obtain rfl:=dZ.1 hx;exact .mk _ _ rfl (aF.2 rfl) h
 ·obtain rfl:=aF.1 hx;exact .mk _ _ rfl (dZ.2 rfl) h
 ·obtain rfl:=Ij.1 hx;exact .mk _ _ rfl (Ij.2 rfl) h
 ·obtain rfl:=Bb.1 hx;exact .mk _ _ rfl (Bb.2 rfl) h
 ·obtain rfl:=Bb.1 hx;exact .mk _ _ rfl (Bb.2 rfl) h
 ·exact h.elim
end
def Dx:List (Option V)→Nat→Option V|[],_=>none|x::_,0=>x|_::l,k+1=>Dx l k
theorem Cf:∀(h:List (Option V)) (k:Nat) (v:V),Dx h k=some v↔h[k]?=some (some v)
 |[],k,v=>by simp[Dx]
 |x::l,0,v=>by simp[Dx]
 |x::l,k+1,v=>by simpa[Dx]using Cf l k v
def Hd(i:TI)(v:V):Bool:=
 match v with
 | .row .. | .st .. =>i.d.isAgg&&Nat.beq i.sz (A6 v)
 | .tup _| .any=>false
 |_=> !i.d.isAgg
def Wg:V→List E8→Prop→Prop
 |_,[],K=>K
 | .st l, .f k off::p,K=>match Nat.blt k l.len&&Nat.beq (F2 l k) off with|true=>Wg (l.get k) p K|false=>False
 | .row sz n f, .i k sz'::p,K=>match Nat.beq sz' sz with|true=>Ob (k<n)∧Wg (f k) p K|false=>False
 |_,_::_,_=>False
theorem F1:∀(p:List E8) (v:V) (K:Prop),Wg v p K→iU v p∧K
 |[],v,K,h=>⟨by simp[iU],by simpa[Wg]using h⟩
 |s::p,v,K,h=>by
  cases v<;>cases s<;>simp only[Wg]at h
  ·split at h
   ·rename_i hb
    have:=F1 p _ K h.2
    exact⟨by simp only[iU];exact⟨⟨h.1.out,by simpa using hb⟩,this.1⟩,this.2⟩
   ·exact h.elim
  ·split at h
   ·rename_i hb;simp only[Bool.and_eq_true,Nat.beq_eq,Nat.blt_eq]at hb
    have:=F1 p _ K h
    exact⟨by simp only[iU];exact⟨hb,this.1⟩,this.2⟩
   ·exact h.elim
def Iy(tb:List (Option TI))(t:Nat)(x:V)(h:List (Option V))(κ:V→Prop):Prop:=
 match Bi tb t with
 |none=>False
 |some i=>
  match x with
  | .ref j p=>
   match Dx h j with
   |some c=>Wg c p (match Hd i (sub c p)with|true=>κ (sub c p)|false=>False)
   |none=>False
  | .rref j p sz lo n=>
   match Dx h j with
   |some c=>
    match sub c p with
    | .row sz' m f=>Wg c p (Ob (lo+n≤m)∧match Nat.beq sz sz'&&Hd i (.row sz n fun k=>f (lo+k))with|true=>κ (.row sz n fun k=>f (lo+k))|false=>False)
    |_=>False
   |none=>False
  | .pim _ v=>match Hd i v with|true=>κ v|false=>False
  |_=>False
def Qu(tb:List (Option TI))(t:Nat)(x u:V)(h:List (Option V))(κ:List (Option V)→Prop):Prop:=
 match Bi tb t with
 |none=>False
 |some i=>
  match x with
  | .ref j p=>
   match Dx h j with
   |some c=>Wg c p (match Hd i (sub c p)&&Hd i u&& !Nat.beq i.sz 0 with|true=>κ (h.set j (some (qI c p u)))|false=>False)
   |none=>False
  |_=>False
def Fb(tb:List (Option TI))(s:Nat)(x:V)(k:Nat)(κ:V→Prop):Prop:=
 match Bi tb s with
 |some ⟨.st fs,_,_,_⟩=>
  match fs[k]? with
  |some (off,ft)=>
   match Bi tb ft with
   |some fi=>
    match Nat.beq fi.sz 0 with
    |true=>False
    |false=>
     match x with
     | .ref j p=>κ (.ref j (p++[.f k off]))
     | .pim l (.st vs)=>match Nat.blt k vs.len&&Nat.beq (F2 vs k) off with|true=>κ (.pim l (vs.get k))|false=>False
     |_=>False
   |none=>False
  |none=>False
 |_=>False
def Dr(tb:List (Option TI))(t:Nat)(x ix:V)(κ:V→Prop):Prop:=
 match ix with
 | .int _ n=>
  match Bi tb t with
  |some ⟨.slice e,_,_,_⟩=>
   match Bi tb e with
   |some ei=>
    match x with
    | .sl j p sz lo len _=>match Nat.beq ei.sz sz with|true=>Ob (0≤n∧n<len)∧κ (.ref j (p++[.i (lo+n.toNat) sz]))|false=>False
    | .imm l sz m f=>match Nat.beq ei.sz sz with|true=>Ob (0≤n∧n<m)∧κ (.pim l (f n.toNat))|false=>False
    |_=>False
   |none=>False
  |some ⟨.arr m e,_,_,_⟩=>
   match Bi tb e with
   |some ei=>
    match x with
    | .ref j p=>Ob (0≤n∧n<m)∧κ (.ref j (p++[.i n.toNat ei.sz]))
    | .pim l (.row sz m' f)=>match Nat.beq ei.sz sz&&Nat.beq m' m with|true=>Ob (0≤n∧n<m)∧κ (.pim l (f n.toNat))|false=>False
    |_=>False
   |none=>False
  |_=>False
 |_=>False
def Hi(v:Option V)(d:Int)(κ:Int→Prop):Prop:=
 match v with
 |none=>κ d
 |some (.int _ n)=>κ n
 |some _=>False
def Dw(tb:List (Option TI))(t:Nat)(x:V)(lo hi mx:Option V)(h:List (Option V))(κ:V→Prop):Prop:=
 match mx.isSome&&hi.isNone with
 |true=>False
 |false=>
 Hi lo 0 fun l=>
 match Bi tb t with
 |some ⟨.slice e,_,_,_⟩=>
  match Bi tb e with
  |some ei=>
   match x with
   | .sl j p sz l0 len cap=>match Nat.beq ei.sz sz with
    |true=>Hi hi len fun r=>Hi mx cap fun m=>Ob (0≤l∧l≤r∧r≤m∧m≤cap)∧κ (.sl j p sz (l0+l.toNat) (r.toNat - l.toNat) (m.toNat - l.toNat))
    |false=>False
   | .slx j sz l0 len cap=>match Nat.beq ei.sz sz with
    |true=>Hi hi len fun r=>match mx with
     |none=>Ob (0≤l∧l≤r∧r≤cap)∧κ (.slx j sz (l0+l.toNat) (r.toNat - l.toNat) (cap - l.toNat))
     |some _=>False
    |false=>False
   | .imm b sz n f=>match Nat.beq ei.sz sz with
    |true=>Hi hi n fun r=>match mx with
     |none=>Ob (0≤l∧l≤r∧r≤n)∧κ (.imm b sz (r.toNat - l.toNat) fun k=>f (l.toNat+k))
     |some mv=>Hi (some mv) 0 fun m=>(Ob (0≤l∧l=r∧r=m∧m≤n)∧κ .emp)∨(Ob (0≤l∧l≤r∧r≤m∧m≤n)∧κ (.imm b sz (r.toNat - l.toNat) fun k=>f (l.toNat+k)))
    |false=>False
   | .emp=>Hi hi 0 fun r=>Hi mx 0 fun m=>Ob (l=0∧r=0∧m=0)∧κ .emp
   |_=>False
  |none=>False
 |some ⟨.str,_,_,_⟩=>
  match x,mx with
  | .str s,none=>Hi hi s.length fun r=>Ob (0≤l∧l≤r∧r≤s.length)∧κ (.str ((s.drop l.toNat).take (r.toNat - l.toNat)))
  |_,_=>False
 |some ⟨.arr n e,_,_,_⟩=>
  match Bi tb e with
  |some ei=>
   match x with
   | .ref j p=>match Dx h j with
    |none=>False
    |some c=>Wg c p (match sub c p with
     | .row sz' n' _=>match Nat.beq sz' ei.sz&&Nat.beq n' n with
      |true=>Hi hi n fun r=>Hi mx n fun m=>Ob (0≤l∧l≤r∧r≤m∧m≤n)∧κ (.sl j p ei.sz l.toNat (r.toNat - l.toNat) (m.toNat - l.toNat))
      |false=>False
     |_=>False)
   | .pim b (.row sz n' f)=>match Nat.beq ei.sz sz&&Nat.beq n' n with
    |true=>Hi hi n fun r=>match mx with
     |none=>Ob (0≤l∧l≤r∧r≤n)∧κ (.imm b sz (r.toNat - l.toNat) fun k=>f (l.toNat+k))
     |some _=>False
    |false=>False
   |_=>False
  |none=>False
 |_=>False
section
variable {P:Program} {tb:List (Option TI)} {E:Env}
theorem F8.isAgg{t:Nat}{i:TI}(h:F8 P t i):∃d,P.underlying t=some d∧d.isRow=i.d.isAgg:=by
 have hT:=h.td
 cases hd:i.d<;>rw[hd]at hT<;>simp only[Hb]at hT<;>first|(split at hT<;>first|exact⟨_,‹_›,rfl⟩|cases hT)|cases hT
theorem Mn{t:Nat}{d:TypeDesc}(hu:P.underlying t=some d)(w:World):(Go.isAgg t).run P w= .ok d.isRow w:=by
 unfold Go.isAgg;rw[Sem.run_bind,run_underlying hu w]
 cases d<;>rfl
theorem Lp(ht:Bu P tb){t:Nat}{i:TI}(hg:Bi tb t=some i){v:V}(hf:Hd i v=true){b o:Nat}(hr:R E v (Am E.w b) o):
  ∃x,(loadVar t ⟨b,o,none⟩).run P E.w= .ok x E.w∧T E v x:=by
 have hty:=ht.get hg;obtain⟨d,hu,hd⟩:=hty.isAgg;obtain⟨f,z,hi,hsz,_⟩:=hty.info
 by_cases hagg:v.isAgg=true
 ·have hs:i.d.isAgg=true∧i.sz=A6 v:=by
   cases v<;>simp_all[Hd,V.isAgg]
  let cs:=(List.range (A6 v)).map fun q=>(Am E.w b (o+q)).getD undef
  have hcs:∀q,q<A6 v→cs[q]?=Am E.w b (o+q):=fun q hq=>by
   obtain⟨x,h1,_⟩:=Nl v _ o q hr hq;simp[cs,hq,h1]
  refine⟨.agg cs.toArray,?_,?_⟩
  ·refine run_loadVar_mid E.w b o t cs d (fun j x hj=>?_) hu (hd.trans hs.1) (by simp[hi,hsz,hs.2,cs])
   have hlt:j<A6 v:=by
    have:=(List.getElem?_eq_some_iff.1 hj).1
    simpa[cs]using this
   rw[hcs j hlt]at hj;exact hj
  ·refine J3 hagg (by simp[cs]) (Bp v _ _ o 0 (fun q hq=>?_) hr);simpa using hcs q hq
 ·have hone:v.one=true∧i.d.isAgg=false:=by
   cases v<;>simp_all[Hd,V.isAgg,V.one]
  have hz:A6 v=1:=by cases v<;>simp_all[V.one,A6]
  obtain⟨x,h1,h2⟩:=Nl v _ o 0 hr (by omega);refine⟨x,?_,Ik hone.1 h2 (Bp v _ _ o 0 (fun q hq=>by(obtain rfl:q=0:=by omega);exact h1.symm) hr)⟩
  have hc:E.w.cell? ⟨b,o,none⟩=some x:=h1;simp only[loadVar,Sem.run_bind,Mn hu,hd,hone.2,Result.andThen_ok,Bool.false_eq_true,if_false,run_load,hc]
theorem Yc(ht:Bu P tb)(hw:Wf E){h:List (Option V)}(hs:B8 E h){t:Nat}{x:V}{X:Value}{κ:V→Prop}(hl:Iy tb t x h κ)(hx:T E x X):Di E κ ((Instr.loadAt t X).run P E.w):=by
 unfold Iy at hl
 split at hl
 ·exact hl.elim
 ·rename_i i hg
  split at hl
  ·rename_i j p
   split at hl
   ·rename_i c hc;obtain⟨hp,hk⟩:=F1 p c _ hl
    split at hk
    ·rename_i hfit;obtain⟨_,rfl⟩:=I1.1 hx
     rcases hs.live j c ((Cf h j c).1 hc)with⟨_,sz,f,rfl⟩|⟨_,_,cs,t',hb,_,hr⟩
     ·cases p with
      |nil=>
       have hr:R E (.row sz 0 f) (Am E.w (E.ρ j)) 0:=by simp[R]
       obtain⟨x,h1,h2⟩:=Lp ht hg (v:= .row sz 0 f) hfit hr;exact⟨x,_,h1,h2,hk⟩
      |cons s p=>
       rcases Gl hp with⟨l,k,off,he,_⟩|⟨sz',n,f',k,he,_,hkn,_⟩
       ·cases he
       ·cases he;omega
     ·have hr':R E c (Am E.w (E.ρ j)) 0:=by
       have:Am E.w (E.ρ j)=fun q=>cs[q]?:=by funext q;simp[Am,World.cell?,hb]
       rw[this];exact hr
      have h1:=Lf p c _ 0 hp hr';rw[Nat.zero_add]at h1;obtain⟨x,h2,h3⟩:=Lp ht hg hfit h1;exact⟨x,_,h2,h3,hk⟩
    ·exact hk.elim
   ·exact hl.elim
  ·rename_i j p sz lo n
   split at hl
   ·rename_i c hc
    split at hl
    ·rename_i sz' m f hsub;obtain⟨hp,hle,hk⟩:=F1 p c _ hl
     split at hk
     ·rename_i hfit;simp only[Bool.and_eq_true,Nat.beq_eq]at hfit;obtain⟨rfl,hfit⟩:=hfit;obtain⟨_,rfl⟩:=X4.1 hx;have hle:=hle.out
      rcases hs.live j c ((Cf h j c).1 hc)with⟨_,sz',f',rfl⟩|⟨_,_,cs,t',hb,_,hr⟩
      ·cases p with
       |nil=>
        simp only[sub,V.row.injEq]at hsub;obtain⟨rfl,rfl,rfl⟩:=hsub;have hn:n=0:=by omega
        subst hn;have hr:R E (.row sz' 0 fun k=>f' (lo+k)) (Am E.w (E.ρ j)) (Bk []+lo*sz'):=by simp[R]
        obtain⟨x,h1,h2⟩:=Lp ht hg hfit hr;exact⟨x,_,h1,h2,hk⟩
       |cons s p=>
        rcases Gl hp with⟨l,k,off,he,_⟩|⟨sz',n,f',k,he,_,hkn,_⟩
        ·cases he
        ·cases he;omega
      ·have hr':R E c (Am E.w (E.ρ j)) 0:=by
        have:Am E.w (E.ρ j)=fun q=>cs[q]?:=by funext q;simp[Am,World.cell?,hb]
        rw[this];exact hr
       have h1:=Lf p c _ 0 hp hr';rw[Nat.zero_add,hsub]at h1
       have h2:R E (.row sz n fun k=>f (lo+k)) (Am E.w (E.ρ j)) (Bk p+lo*sz):=by
        simp only[R]at h1⊢;intro k hk'
        have:=h1 (lo+k) (by omega)
        refine⟨this.1,?_⟩;have h3:=this.2;rw[Nat.add_mul,←Nat.add_assoc]at h3;exact h3
       obtain⟨x,h2,h3⟩:=Lp ht hg hfit h2;exact⟨x,_,h2,h3,hk⟩
     ·exact hk.elim
    ·exact hl.elim
   ·exact hl.elim
  ·rename_i lent v
   split at hl
   ·rename_i hfit;obtain⟨b,off,rfl,_,hr⟩:=Kf.1 hx;obtain⟨x,h1,h2⟩:=Lp ht hg hfit (yA hw hr);exact⟨x,_,h1,h2,hl⟩
   ·exact hl.elim
  ·exact hl.elim
end
section
variable {P:Program} {tb:List (Option TI)} {E:Env}
theorem Ky:∀(p q:List E8),Bk (p++q)=Bk p+Bk q
 |[],q=>by simp[Bk]
 |s::p,q=>by simp[Bk,Ky p q,Nat.add_assoc]
theorem Qf{v:V}{x:Value}{i:TI}(hf:Hd i v=true)(hT:T E v x):x.cells.size=A6 v∧(∀u∈x.cells,u.oneCell'=true)∧R E v (fun q=>x.cells[q]?) 0∧(i.d.isAgg=true→i.sz=A6 v)∧(i.d.isAgg=false→A6 v=1):=by
 by_cases hagg:v.isAgg=true
 ·obtain⟨cs,rfl,h1,h2⟩:=Nm hagg hT;refine⟨h1,fun u hu=>?_,h2,fun _=>by cases v<;>simp_all[Hd,V.isAgg],fun h=>by cases v<;>simp_all[Hd,V.isAgg]⟩;obtain⟨q,hq,rfl⟩:=Array.mem_iff_getElem.1 hu;have hq':q<cs.size:=hq;obtain⟨x,h3,h4⟩:=Nl v _ 0 q h2 (by rw[←h1];exact hq');rw[Nat.zero_add]at h3
  have:cs[q]?=some cs[q]:=Array.getElem?_eq_getElem hq'
  rw[this]at h3
  cases h3
  exact h4
 ·have hone:v.one=true:=by cases v<;>simp_all[Hd,V.isAgg,V.one]
  have hz:A6 v=1:=by cases v<;>simp_all[V.one,A6]
  obtain⟨h1,h2⟩:=F7 hone hT;have hc:=Pb h1;refine⟨by rw[hc,hz];rfl,fun u hu=>by rw[hc]at hu;simp at hu;subst hu;exact h1,Bp v _ _ 0 0 (fun q hq=>?_) h2,fun h=>by cases v<;>simp_all[Hd,V.isAgg],fun _=>hz⟩
  obtain rfl:q=0:=by omega
  simp[hc]
def Bz(cs:Array Value)(o:Nat)(new:List Value):Array Value:=(cs.toList.take o++new++cs.toList.drop (o+new.length)).toArray
theorem Id{cs:Array Value}{o:Nat}{new:List Value}(h:o+new.length≤cs.size):(Bz cs o new).size=cs.size:=by
 simp only[Bz,List.size_toArray,List.length_append,List.length_take,List.length_drop,Array.length_toList];omega
theorem Pu{cs:Array Value}{o:Nat}{new:List Value}(h:o+new.length≤cs.size){q:Nat}(hq:q<new.length):(Bz cs o new)[o+q]?=new[q]?:=by
 simp only[Bz,List.getElem?_toArray];rw[List.append_assoc,List.getElem?_append_right (by simp;omega),List.getElem?_append_left (by simp[Nat.min_eq_left (by omega:o≤cs.size)];omega)];simp only[List.length_take,Array.length_toList,Nat.min_eq_left (by omega:o≤cs.size),Nat.add_sub_cancel_left]
theorem K1{cs:Array Value}{o:Nat}{new:List Value}(h:o+new.length≤cs.size){q:Nat}(hq:q<o∨o+new.length≤q):(Bz cs o new)[q]?=cs[q]?:=by
 simp only[Bz,List.getElem?_toArray]
 rcases hq with hq|hq
 ·rw[List.append_assoc,List.getElem?_append_left (by simp;omega),List.getElem?_take,if_pos hq];simp
 ·rw[List.getElem?_append_right (by simp;omega),List.getElem?_drop];simp only[List.length_append,List.length_take,Array.length_toList,Nat.min_eq_left (by omega:o≤cs.size)];rw[show o+new.length+(q - (o+new.length))=q by omega];simp
def Fv(E:Env)(κ:V→List (Option V)→Prop)(r:Result Value):Prop:=∃x E' v h',r= .ok x E'.w∧F6 E E'∧Wf E'∧B8 E' h'∧T E' v x∧κ v h'
theorem Di.heap{κ:V→Prop}{r:Result Value}{h:List (Option V)}(hw:Wf E)(hs:B8 E h){κ':V→List (Option V)→Prop}(hr:Di E κ r)(hk:∀v,κ v→κ' v h):Fv E κ' r:=by
 obtain⟨x,v,h1,h2,h3⟩:=hr;exact⟨x,E,v,h,h1,F6.refl E,hw,hs,h2,hk v h3⟩
theorem xA(ht:Bu P tb)(hw:Wf E){h:List (Option V)}(hs:B8 E h){t:Nat}{x u:V}{X U:Value}{κ:List (Option V)→Prop}(hl:Qu tb t x u h κ)(hx:T E x X)(hu:T E u U):
  ∃E' h',(Instr.storeAt t X U).run P E.w= .ok () E'.w∧F6 E E'∧Wf E'∧B8 E' h'∧κ h':=by
 unfold Qu at hl
 split at hl
 ·exact hl.elim
 ·rename_i i hg
  split at hl
  ·rename_i j p
   split at hl
   ·rename_i c hc;obtain⟨hp,hk⟩:=F1 p c _ hl
    split at hk
    ·rename_i hfit;simp only[Bool.and_eq_true]at hfit;obtain⟨_,rfl⟩:=I1.1 hx;obtain⟨k1,k2,k3,k4,k5⟩:=Qf hfit.1.2 hu
     have hsz:A6 u=A6 (sub c p):=by
      cases hd:i.d.isAgg
      ·have h1:A6 (sub c p)=1:=by
        have hf:=hfit.1.1;generalize sub c p=y at hf
        cases y<;>simp_all[Hd,A6]
       rw[h1,k5 hd]
      ·have h1:i.sz=A6 (sub c p):=by
        have hf:=hfit.1.1;generalize sub c p=y at hf
        cases y<;>simp_all[Hd]
       rw[←h1,k4 hd]
     have hty:=ht.get hg;obtain⟨f,z,hi,hisz,_,_,_,hzs⟩:=hty.info
     have hsize:U.cells.size=f.size:=by
      rw[k1,hisz]
      cases hd:i.d.isAgg
      ·rw[k5 hd];have h1:i.z.one=true:=by rw[hty.one,hd];rfl
       have h2:=hty.size
       have h3:A6 i.z=1:=by
        generalize i.z=y at h1
        cases y<;>simp_all[V.one,A6]
       omega
      ·rw[k4 hd]
     have hci:=(Cf h j c).1 hc
     rcases hs.live j c hci with⟨_,sz,g,rfl⟩|⟨hvt,hnk,cs,t',hb,hle,hr⟩
     ·cases p with
      |nil=>
       have h0:i.sz=0:=by
        have:=hfit.1.1
        simp only[sub,Hd,Bool.and_eq_true,Nat.beq_eq,A6,Nat.mul_zero]at this;exact this.2
       have:=hfit.2
       rw[h0]at this
       cases this
      |cons s p=>
       rcases Gl hp with⟨l,k,off,he,_⟩|⟨sz',n,f',k,he,_,hkn,_⟩
       ·cases he
       ·cases he;omega
     ·have hfits:=K5 p c hp E _ 0 hr;have hoff:Bk p+U.cells.toList.length≤cs.size:=by simp[k1,hsz];omega
      have hst:=run_storeCells_at (P:=P) (E.ρ j) (Bk p) t' U.cells.toList 0 cs E.w hb (by simpa using hoff) (fun v hv=>k2 v (by simpa using hv))
      simp only[Nat.add_zero]at hst;have hwr:Ek E.w (E.w.setRow (E.ρ j) (Bz cs (Bk p) U.cells.toList)) (E.ρ j) (Bz cs (Bk p) U.cells.toList) t':=Ek.setRow hb;have hps:=Id hoff
      have hupd:=iJ p c u (fun q=>cs[q]?) (fun q=>(Bz cs (Bk p) U.cells.toList)[q]?) 0 hp hsz hr
       (fun q _ _ h3=>K1 hoff (by simp[k1];omega))
       (Bp u _ _ 0 _ (fun q hq=>by
         show(Bz cs (Bk p) U.cells.toList)[0+Bk p+q]?=U.cells[0+q]?
         rw[Nat.zero_add,Nat.zero_add,Pu hoff (by simp[k1];exact hq)];simp) k3)
      refine⟨{E with w:=E.w.setRow (E.ρ j) (Bz cs (Bk p) U.cells.toList)},h.set j (some (qI c p u)),?_,Ek.ext hb hnk hps hwr,Ek.wf hw hwr,Zz hw hs hci hvt hb hnk hps hwr hupd.1 (by rw[hupd.2,hps];exact hle),hk⟩;simp only[Instr.storeAt,Instr.sureAddr,Sem.run_bind,Sem.run_pure,Result.andThen_ok,storeVar,sizeOf,typeInfo,run_program,hi,hsize,ne_eq,not_true,if_false,Sem.run_ite];exact hst
    ·exact hk.elim
   ·exact hl.elim
  ·exact hl.elim
theorem aL(ht:Bu P tb){s:Nat}{x:V}{X:Value}{k:Nat}{κ:V→Prop}(hl:Fb tb s x k κ)(hx:T E x X):Di E κ ((Instr.fieldAt s X k).run P E.w):=by
 unfold Fb at hl
 split at hl
 ·rename_i fs sz by_ z hg
  split at hl
  ·rename_i off ft hk
   split at hl
   ·rename_i fi hgf
    split at hl
    ·exact hl.elim
    ·rename_i hnz;have hT:=(ht.get hg).td;simp only[Hb]at hT
     split at hT
     ·rename_i gs hu;simp only[Bool.and_eq_true,beq_iff_eq]at hT;replace hT:=hT.1
      obtain⟨f,hf,ho,hft⟩:∃f,gs[k]?=some f∧f.offset=off∧f.type=ft:=by
       rw[←hT,List.getElem?_map,Option.map_eq_some_iff]at hk;obtain⟨f,h1,h2⟩:=hk
       cases h2
       exact⟨f,by simpa using h1,rfl,rfl⟩
      obtain⟨g,z',hi,hsz,_⟩:=(ht.get hgf).info;have hne:¬g.size=0:=by rw[hsz];intro h0;rw[h0]at hnz;cases hnz
      have hrun:∀b o,(Instr.fieldAt s (.pointer (some ⟨b,o,none⟩)) k).run P E.w= .ok (.pointer (some ⟨b,o+off,none⟩)) E.w:=fun b o=>by
       simp only[Instr.fieldAt,Sem.run_bind,run_underlying hu,Result.andThen_ok,hf,Instr.sureAddr,Sem.run_pure,fieldPlace,sizeOf,typeInfo,run_program,hft,hi,Sem.run_ite,if_neg hne,Addr.add_mid,ho]
      split at hl
      ·rename_i j p;obtain⟨h1,rfl⟩:=I1.1 hx;refine .mk _ _ (hrun _ _) (I1.2 ⟨h1,?_⟩) hl;simp[Ky,Bk,E8.off]
      ·rename_i l vs
       split at hl
       ·rename_i hb;simp only[Bool.and_eq_true,Nat.beq_eq,Nat.blt_eq]at hb;obtain⟨b,o,rfl,h2,h3⟩:=Kf.1 hx;simp only[R]at h3;have h4:=Sv vs k _ _ hb.1 h3;rw[hb.2]at h4;exact .mk _ _ (hrun _ _) (Kf.2 ⟨b,o+off,rfl,h2,h4⟩) hl
       ·exact hl.elim
      ·exact hl.elim
     ·cases hT
   ·exact hl.elim
  ·exact hl.elim
 ·exact hl.elim
theorem aN(ht:Bu P tb){t:Nat}{x ix:V}{X I:Value}{κ:V→Prop}(hl:Dr tb t x ix κ)(hx:T E x X)(hi:T E ix I):Di E κ ((Instr.indexAt t X I).run P E.w):=by
 unfold Dr at hl
 split at hl
 ·rename_i kd n;obtain rfl:=Bb.1 hi
  split at hl
  ·rename_i e sz by_ z hg;have hT:=(ht.get hg).td;simp only[Hb]at hT
   split at hT
   ·rename_i e' hu;simp only[beq_iff_eq]at hT;subst hT
    split at hl
    ·rename_i ei hge;obtain⟨g,z',hie,hsz,_⟩:=(ht.get hge).info
     have hrun:∀(b o len cap:Nat),(0≤n∧n<len)→(Instr.indexAt t (.slice (some ⟨b,o,none⟩) len cap) (.int kd n)).run P E.w= .ok (.pointer (some ⟨b,o+n.toNat*ei.sz,none⟩)) E.w:=fun b o len cap hn=>by
      have h1:(match TypeDesc.slice e with| .array .. =>true|_=>false)=false:=rfl;simp only[Instr.indexAt,asIntOf,Sem.run_bind,Sem.run_pure,Result.andThen_ok,run_underlying hu,if_pos hn,Sem.run_ite,sizeOf,typeInfo,run_program,hie,hsz,Addr.add_mid]
     split at hl
     ·rename_i j p sz' lo len cap
      split at hl
      ·rename_i hb;simp only[Nat.beq_eq]at hb;obtain⟨hn,hk⟩:=hl;obtain⟨h1,a,cp,rfl,h3,h4,h5⟩:=Hq.1 hx;have hn:=hn.out
       rcases h5 with h5|⟨_,rfl,_⟩
       ·omega
       ·refine .mk _ _ (hrun _ _ _ _ hn) (I1.2 ⟨h1,?_⟩) hk;simp only[Ky,Bk,E8.off,hb,Nat.add_mul,Nat.add_zero,Nat.add_assoc]
      ·exact hl.elim
     ·rename_i l sz' m f
      split at hl
      ·rename_i hb;simp only[Nat.beq_eq]at hb;obtain⟨hn,hk⟩:=hl;have hn:=hn.out;obtain⟨a,cp,rfl,h3,h4⟩:=Ej.1 hx
       rcases h4 with h4|⟨b,off,rfl,h5,h6⟩
       ·omega
       ·refine .mk _ _ (hrun _ _ _ _ hn) (Kf.2 ⟨b,off+n.toNat*ei.sz,rfl,h5,?_⟩) hk;rw[hb];exact(h6 n.toNat (by omega)).2
      ·exact hl.elim
     ·exact hl.elim
    ·exact hl.elim
   ·cases hT
  ·rename_i m e sz by_ z hg;have hT:=(ht.get hg).td;simp only[Hb]at hT
   split at hT
   ·rename_i m' e' hu;simp only[Bool.and_eq_true,beq_iff_eq]at hT;obtain⟨rfl,rfl⟩:=hT
    split at hl
    ·rename_i ei hge;obtain⟨g,z',hie,hsz,_⟩:=(ht.get hge).info
     have hrun:∀(b o:Nat),(0≤n∧n<m)→(Instr.indexAt t (.pointer (some ⟨b,o,none⟩)) (.int kd n)).run P E.w= .ok (.pointer (some ⟨b,o+n.toNat*ei.sz,none⟩)) E.w:=fun b o hn=>by
      simp only[Instr.indexAt,asIntOf,Sem.run_bind,Sem.run_pure,Result.andThen_ok,run_underlying hu,Instr.sureAddr,if_pos hn,Sem.run_ite,sizeOf,typeInfo,run_program,hie,hsz,Addr.add_mid]
     split at hl
     ·rename_i j p;obtain⟨hn,hk⟩:=hl;obtain⟨h1,rfl⟩:=I1.1 hx;refine .mk _ _ (hrun _ _ hn.out) (I1.2 ⟨h1,?_⟩) hk;simp[Ky,Bk,E8.off]
     ·rename_i l sz' m' f
      split at hl
      ·rename_i hb;simp only[Bool.and_eq_true,Nat.beq_eq]at hb;obtain⟨rfl,rfl⟩:=hb;obtain⟨hn,hk⟩:=hl;have hn':=hn.out;obtain⟨b,o,rfl,h2,h3⟩:=Kf.1 hx;simp only[R]at h3;exact .mk _ _ (hrun _ _ hn') (Kf.2 ⟨b,o+n.toNat*ei.sz,rfl,h2,(h3 n.toNat (by omega)).2⟩) hk
      ·exact hl.elim
     ·exact hl.elim
    ·exact hl.elim
   ·cases hT
  ·exact hl.elim
 ·exact hl.elim
theorem Iv {isS:Bool} {len cap:Nat} {lo hi mx:Option Value} {l r m:Int} (w:World)
  (hl:(lo=none∧l=0)∨∃k,lo=some (.int k l)) (hr:(hi=none∧r=len∧mx=none)∨∃k,hi=some (.int k r)) (hm:(mx=none∧m=cap)∨∃k,mx=some (.int k m))
  (h0:0≤l) (h1:l≤r) (h2:r≤m) (h3:m≤cap):(Instr.sliceBounds isS len cap lo hi mx).run P w= .ok (l.toNat,r.toNat,m.toNat) w:=by
 have sb:∀(k:IntKind) (n:Int) (y:Nat) (code:BoundsCode),0≤n→n≤y→(Instr.sliceBound (.int k n) y code).run P w= .ok n.toNat w:=fun k n y code ha hb=>by
  simp only[Instr.sliceBound,asIntOf,Sem.run_bind,Sem.run_pure,Result.andThen_ok,if_pos (And.intro ha hb),Sem.run_ite]
 rcases hm with⟨rfl,rfl⟩|⟨k2,rfl⟩
 ·rcases hr with⟨rfl,rfl,_⟩|⟨k,rfl⟩
  ·rcases hl with⟨rfl,rfl⟩|⟨k',rfl⟩
   ·simp[Instr.sliceBounds]
   ·simp[Instr.sliceBounds,sb k' l len _ h0 h1]
  ·rcases hl with⟨rfl,rfl⟩|⟨k',rfl⟩
   ·simp[Instr.sliceBounds,sb k r cap _ (by omega) h2]
   ·simp[Instr.sliceBounds,sb k r cap _ (by omega) h2,sb k' l r.toNat _ h0 (by omega)]
 ·rcases hr with⟨rfl,rfl,h⟩|⟨k,rfl⟩
  ·cases h
  ·rcases hl with⟨rfl,rfl⟩|⟨k',rfl⟩
   ·simp[Instr.sliceBounds,sb k2 m cap _ (by omega) h3,sb k r m.toNat _ (by omega) (by omega)]
   ·simp[Instr.sliceBounds,sb k2 m cap _ (by omega) h3,sb k r m.toNat _ (by omega) (by omega),sb k' l r.toNat _ h0 (by omega)]
def xW(E:Env)(v:Option V)(o:Option Value):Prop:=(v=none∧o=none)∨∃u U,v=some u∧o=some U∧T E u U
theorem Dk{v:Option V}{o:Option Value}{d:Int}{κ:Int→Prop}(h:Hi v d κ)(ho:xW E v o):
  ∃n,κ n∧((v=none∧o=none∧n=d)∨(v.isNone=false∧∃k,o=some (.int k n))):=by
 rcases ho with⟨rfl,rfl⟩|⟨u,U,rfl,rfl,hu⟩
 ·exact⟨d,h, .inl ⟨rfl,rfl,rfl⟩⟩
 ·unfold Hi at h
  split at h
  ·rename_i hh;cases hh
  ·rename_i k n hh
   cases hh
   obtain rfl:=Bb.1 hu;exact⟨n,h, .inr ⟨rfl,k,rfl⟩⟩
  ·exact h.elim
theorem gG{l:Bool}{sz n:Nat}{f:Nat→V}{b off p q:Nat}(hfoot:E.foot l b)(h:∀k,k<n→A6 (f k)=sz∧R E.bare (f k) (Am E.w b) (off+k*sz))(hq:p+q≤n){a:Option Addr}{cp:Nat}(hcp:q≤cp)(ha:q≠0→a=some ⟨b,off+p*sz,none⟩):
  T E (.imm l sz q fun k=>f (p+k)) (.slice a q cp):=by
 refine Ej.2 ⟨a,cp,rfl,hcp,?_⟩
 rcases Nat.eq_zero_or_pos q with h0|h0
 ·exact .inl h0
 ·refine .inr ⟨b,off+p*sz,ha (by omega),hfoot,fun k hk=>?_⟩
  have:=h (p+k) (by omega)
  refine⟨this.1,?_⟩;have h3:=this.2;rw[Nat.add_mul,←Nat.add_assoc]at h3;exact h3
theorem wW(ht:Bu P tb){h:List (Option V)}(hS:B8 E h){t:Nat}{x:V}{X:Value}{lo hi mx:Option V}{lo' hi' mx':Option Value}{κ:V→Prop}(hs:Dw tb t x lo hi mx h κ)(hx:T E x X)(hl:xW E lo lo')(hh:xW E hi hi')(hm:xW E mx mx'):
  Di E κ ((Instr.sliceAt t X lo' hi' mx').run P E.w):=by
 unfold Dw at hs
 split at hs
 ·exact hs.elim
 rename_i hmh;obtain⟨l,hs,cD⟩:=Dk hs hl;have cD:(lo'=none∧l=0)∨∃k,lo'=some (.int k l):=cD.imp (fun h=>⟨h.2.1,h.2.2⟩) (fun h=>h.2)
 have hmx:mx=none→mx'=none:=fun h=>by
  rcases hm with⟨_,h2⟩|⟨u,U,h1,_⟩
  ·exact h2
  ·rw[h]at h1;cases h1
 have nH:∀{d r:Int},((hi=none∧hi'=none∧r=d)∨(hi.isNone=false∧∃k,hi'=some (.int k r)))→((hi'=none∧r=d∧mx'=none)∨∃k,hi'=some (.int k r)):=fun h=>by
  rcases h with⟨h1,h2,h3⟩|⟨_,h2⟩
  ·refine .inl ⟨h2,h3,hmx ?_⟩;subst h1
   cases mx with
   |none=>rfl
   |some u=>simp at hmh
  ·exact .inr h2
 split at hs
 ·rename_i e sz by_ z hg;have hT:=(ht.get hg).td;simp only[Hb]at hT
  split at hT
  ·rename_i e' hu;simp only[beq_iff_eq]at hT;subst hT
   split at hs
   ·rename_i ei hge;obtain⟨g,z',hie,hsz,_⟩:=(ht.get hge).info
    have hrun:∀(a:Option Addr) (len cap:Nat) (r m:Int),((hi'=none∧r=len∧mx'=none)∨∃k,hi'=some (.int k r))→((mx'=none∧m=cap)∨∃k,mx'=some (.int k m))→0≤l→l≤r→r≤m→m≤cap→
      (Instr.sliceAt t (.slice a len cap) lo' hi' mx').run P E.w= .ok (.slice (if m.toNat=l.toNat then a else a.map (·.add (l.toNat*ei.sz))) (r.toNat - l.toNat) (m.toNat - l.toNat)) E.w:=fun a len cap r m h1 h2 h3 h4 h5 h6=>by
     simp only[Instr.sliceAt,Instr.slice,Sem.run_bind,run_underlying hu,Result.andThen_ok,Iv (isS:=true) E.w cD h1 h2 h3 h4 h5 h6,sizeOf,typeInfo,run_program,hie,Sem.run_pure,hsz]
    split at hs
    ·rename_i j p sz' l0 len cap _
     split at hs
     ·rename_i hb;simp only[Nat.beq_eq]at hb;obtain⟨r,hs,hr⟩:=Dk hs hh;obtain⟨m,hs,hm'⟩:=Dk hs hm;obtain⟨hob,hk⟩:=hs;obtain⟨g1,g2,g3,g4⟩:=hob.out;obtain⟨h1,a,cp,rfl,h3,h4,h5⟩:=Hq.1 hx
      have hcase:∃M:Int,((mx'=none∧M=cp)∨∃k,mx'=some (.int k M))∧m≤M∧M≤cp:=by
       rcases hm' with⟨_,h6,rfl⟩|⟨_,h6⟩
       ·exact⟨cp, .inl ⟨h6,rfl⟩,by omega,by omega⟩
       ·exact⟨m, .inr h6,by omega,by omega⟩
      obtain⟨M,hM,hM1,hM2⟩:=hcase;refine .mk _ _ (hrun a len cp r M (nH hr) hM g1 g2 (by omega) hM2) (Hq.2 ⟨h1,_,_,rfl,by omega,by omega,?_⟩) hk
      rcases h5 with h5|⟨k1,rfl,cs,t',fr,k2,k3⟩
      ·exact .inl (by omega)
      ·by_cases hz:M.toNat=l.toNat
       ·exact .inl (by omega)
       ·refine .inr ⟨k1,?_,cs,t',fr,k2,?_⟩
        ·rw[if_neg hz];simp only[Option.map_some,Addr.add_mid,hb,Nat.add_mul,Nat.add_assoc]
        ·refine Nat.le_trans ?_ k3
         have:(l0+l.toNat+(M.toNat - l.toNat))*sz'≤(l0+cp)*sz':=Nat.mul_le_mul_right _ (by omega)
         omega
     ·exact hs.elim
    ·rename_i j sz' l0 len cap _
     split at hs
     ·rename_i hb;simp only[Nat.beq_eq]at hb;obtain⟨r,hs,hr⟩:=Dk hs hh
      split at hs
      ·obtain⟨hob,hk⟩:=hs;obtain⟨g1,g2,g3⟩:=hob.out;obtain⟨h1,a,rfl,h4,h5⟩:=R1.1 hx;have hcl:(cap:Int).toNat=cap:=by omega
       refine .mk _ _ (hrun a len cap r cap (nH hr) (.inl ⟨hmx rfl,rfl⟩) g1 g2 g3 (by omega)) (R1.2 ⟨h1,_,by rw[hcl],by omega,?_⟩) hk
       rcases h5 with h5|⟨k1,rfl,cs,t',fr,k2,k3⟩
       ·exact .inl (by omega)
       ·by_cases hz:cap=l.toNat
        ·exact .inl (by omega)
        ·refine .inr ⟨k1,?_,cs,t',fr,k2,?_⟩
         ·rw[if_neg hz];simp only[Option.map_some,Addr.add_mid,hb,Nat.add_mul,Nat.add_assoc]
         ·refine Nat.le_trans ?_ k3;exact Nat.mul_le_mul_right _ (by omega)
      ·exact hs.elim
     ·exact hs.elim
    ·rename_i b sz' n f _
     split at hs
     ·rename_i hb;simp only[Nat.beq_eq]at hb;obtain⟨r,hs,hr⟩:=Dk hs hh;obtain⟨a,cp,rfl,h3,h4⟩:=Ej.1 hx
      split at hs
      ·obtain⟨hob,hk⟩:=hs;obtain⟨g1,g2,g3⟩:=hob.out
       have:=hrun a n cp r cp (nH hr) (.inl ⟨hmx rfl,rfl⟩) g1 g2 (by omega) (by omega)
       refine .mk _ _ this ?_ hk
       rcases h4 with rfl|⟨b',off,rfl,h5,h6⟩
       ·refine Ej.2 ⟨_,_,rfl,by omega, .inl (by omega)⟩
       ·refine gG h5 h6 (by omega) (by omega) (fun hne=>?_);rw[if_neg (by omega)];simp only[Option.map_some,Addr.add_mid,hb]
      ·rename_i mv;obtain⟨m,hs,hm'⟩:=Dk hs hm
       have hm2:∃k,mx'=some (.int k m):=by
        rcases hm' with⟨h,_⟩|⟨_,h⟩
        ·cases h
        ·exact h
       rcases hs with⟨hob,hk⟩|⟨hob,hk⟩
       ·obtain⟨g1,g2,g3,g4⟩:=hob.out
        have:=hrun a n cp r m (nH hr) (.inr hm2) g1 (by omega) (by omega) (by omega)
        rw[show r.toNat - l.toNat=0 by omega,show m.toNat - l.toNat=0 by omega]at this;exact .mk _ _ this (Jj.2 ⟨_,rfl⟩) hk
       ·obtain⟨g1,g2,g3,g4⟩:=hob.out
        have:=hrun a n cp r m (nH hr) (.inr hm2) g1 (by omega) (by omega) (by omega)
        refine .mk _ _ this ?_ hk
        rcases h4 with rfl|⟨b',off,rfl,h5,h6⟩
        ·refine Ej.2 ⟨_,_,rfl,by omega, .inl (by omega)⟩
        ·refine gG h5 h6 (by omega) (by omega) (fun hne=>?_);rw[if_neg (by omega)];simp only[Option.map_some,Addr.add_mid,hb]
     ·exact hs.elim
    ·obtain⟨r,hs,hr⟩:=Dk hs hh;obtain⟨m,hs,hm'⟩:=Dk hs hm;obtain⟨hob,hk⟩:=hs;obtain⟨g1,g2,g3⟩:=hob.out;obtain⟨a,rfl⟩:=Jj.1 hx;have hm2:(mx'=none∧m=((0:Nat):Int))∨∃k,mx'=some (.int k m):=hm'.imp (fun h=>⟨h.2.1,h.2.2⟩) (fun h=>h.2)
     have:=hrun a 0 0 r m (nH hr) hm2 (by omega) (by omega) (by omega) (by omega)
     rw[show r.toNat - l.toNat=0 by omega,show m.toNat - l.toNat=0 by omega]at this;exact .mk _ _ this (Jj.2 ⟨_,rfl⟩) hk
    ·exact hs.elim
   ·exact hs.elim
  ·cases hT
 ·rename_i sz by_ z hg;have hT:=(ht.get hg).td;simp only[Hb]at hT
  split at hT
  ·rename_i hu
   split at hs
   ·rename_i s _;obtain⟨r,hs,hr⟩:=Dk hs hh;obtain⟨hob,hk⟩:=hs;obtain⟨g1,g2,g3⟩:=hob.out;obtain rfl:=I2.1 hx;have hmn:=hmx rfl;subst hmn;have Ar:(ByteArray.mk s.toArray).size=s.length:=by simp[ByteArray.size]
    have hsb:=Iv (P:=P) (isS:=false) (len:=s.length) (cap:=s.length) (mx:=none) (m:=s.length) E.w cD (nH hr) (.inl ⟨rfl,rfl⟩) g1 g2 g3 (Int.le_refl _);refine .mk (.string ((ByteArray.mk s.toArray).extract l.toNat r.toNat)) _ ?_ (I2.2 ?_) hk
    ·simp only[Instr.sliceAt,Instr.slice,Sem.run_bind,run_underlying hu,Result.andThen_ok,Ar,Option.isSome_none,Bool.false_eq_true,if_false,Sem.run_pure,hsb]
    ·congr 1
     apply ByteArray.ext
     simp[ByteArray.data_extract]
   ·exact hs.elim
  ·cases hT
 ·rename_i n e sz by_ z hg;have hT:=(ht.get hg).td;simp only[Hb]at hT
  split at hT
  ·rename_i n' e' hu;simp only[Bool.and_eq_true,beq_iff_eq]at hT;obtain⟨rfl,rfl⟩:=hT
   split at hs
   ·rename_i ei hge;obtain⟨g,z',hie,hsz,_⟩:=(ht.get hge).info
    have hrun:∀(a:Addr) (r m:Int),((hi'=none∧r=n∧mx'=none)∨∃k,hi'=some (.int k r))→((mx'=none∧m=n)∨∃k,mx'=some (.int k m))→0≤l→l≤r→r≤m→m≤n→
      (Instr.sliceAt t (.pointer (some a)) lo' hi' mx').run P E.w= .ok (.slice (some (if m.toNat=l.toNat then a else a.add (l.toNat*ei.sz))) (r.toNat - l.toNat) (m.toNat - l.toNat)) E.w:=fun a r m h1 h2 h3 h4 h5 h6=>by
     simp only[Instr.sliceAt,Sem.run_bind,run_underlying hu,Result.andThen_ok,Instr.sureAddr,Sem.run_pure,Iv (isS:=false) E.w cD h1 h2 h3 h4 h5 h6,sizeOf,typeInfo,run_program,hie,hsz]
    split at hs
    ·rename_i j p _
     split at hs
     ·exact hs.elim
     ·rename_i c hc;obtain⟨hp,hs⟩:=F1 p c _ hs
      split at hs
      ·rename_i sz' n' f hsub
       split at hs
       ·rename_i hb;simp only[Bool.and_eq_true,Nat.beq_eq]at hb;obtain⟨rfl,rfl⟩:=hb;obtain⟨r,hs,hr⟩:=Dk hs hh;obtain⟨m,hs,hm'⟩:=Dk hs hm;obtain⟨hob,hk⟩:=hs;obtain⟨g1,g2,g3,g4⟩:=hob.out;obtain⟨h1,rfl⟩:=I1.1 hx;have hm2:(mx'=none∧m=n')∨∃k,mx'=some (.int k m):=hm'.imp (fun h=>⟨h.2.1,h.2.2⟩) (fun h=>h.2);refine .mk _ _ (hrun _ r m (nH hr) hm2 g1 g2 g3 g4) (Hq.2 ⟨h1,_,_,rfl,by omega,Nat.le_refl _,?_⟩) hk
        rcases hS.live j c ((Cf h j c).1 hc)with⟨_,sz0,g,rfl⟩|⟨hvt,_,cs,t',hb,hle,hr'⟩
        ·cases p with
         |nil=>
          simp only[sub,V.row.injEq]at hsub;obtain⟨_,rfl,_⟩:=hsub;exact .inl (by omega)
         |cons s p=>
          rcases Gl hp with⟨l,k,off,he,_⟩|⟨sz',n,f',k,he,_,hkn,_⟩
          ·cases he
          ·cases he;omega
        ·by_cases hz:m.toNat=l.toNat
         ·exact .inl (by omega)
         ·refine .inr ⟨hvt,by rw[if_neg hz,Addr.add_mid],cs,t',_,hb,?_⟩;have hfit:=K5 p c hp E _ 0 hr';rw[hsub]at hfit;simp only[A6]at hfit
          have:(l.toNat+(m.toNat - l.toNat))*ei.sz≤ei.sz*n':=by
           rw[Nat.mul_comm ei.sz];exact Nat.mul_le_mul_right _ (by omega)
          omega
       ·exact hs.elim
      ·exact hs.elim
    ·rename_i b sz' n' f _
     split at hs
     ·rename_i hb;simp only[Bool.and_eq_true,Nat.beq_eq]at hb;obtain⟨hb,rfl⟩:=hb;obtain⟨r,hs,hr⟩:=Dk hs hh
      split at hs
      ·obtain⟨hob,hk⟩:=hs;obtain⟨g1,g2,g3⟩:=hob.out;obtain⟨b',off,rfl,h5,h6⟩:=Kf.1 hx;simp only[R]at h6;refine .mk _ _ (hrun _ r n' (nH hr) (.inl ⟨hmx rfl,rfl⟩) g1 g2 (by omega) (by omega)) ?_ hk;refine gG h5 h6 (by omega) (by omega) (fun hne=>?_);rw[if_neg (by omega),Addr.add_mid,hb]
      ·exact hs.elim
     ·exact hs.elim
    ·exact hs.elim
   ·exact hs.elim
  ·cases hT
 ·exact hs.elim
end
def Ar:List (Option V)→Nat|[]=>0|_::l=>Ar l+1
theorem Az:∀(h:List (Option V)),Ar h=h.length|[]=>rfl|_::l=>by simp[Ar,Az l]
def C2:List (Option V)→V→List (Option V)|[],v=>[some v]|x::l,v=>x::C2 l v
theorem G6:∀(h:List (Option V)) (v:V),C2 h v=h++[some v]|[],_=>rfl|_::l,v=>by simp[C2,G6 l]
theorem Ed{h:List (Option V)}{i:Nat}{c z:V}(hi:Dx h i=some c):Dx (C2 h z) i=some c:=by
 rw[Cf]at hi⊢;rw[G6,List.getElem?_append_left (List.getElem?_eq_some_iff.1 hi).1];exact hi
def Nn(tb:List (Option TI))(t:Nat)(h:List (Option V))(κ:V→List (Option V)→Prop):Prop:=
 match Bi tb t with
 |some i=>κ (.ref (Ar h) []) (C2 h i.z)
 |none=>False
def jN(v:V)(h:List (Option V))(κ:V→List (Option V)→Prop):Prop:=
 match v.isAgg||v.one with
 |true=>κ (.ref (Ar h) []) (C2 h v)
 |false=>False
def Up(tb:List (Option TI))(fs:List (Nat×Nat))(z0:Vs):List (Nat×V)→Vs→(Vs→Prop)→Prop
 |[],vs,κ=>κ vs
 |(k,u)::rest,vs,κ=>
  match fs[k]? with
  |none=>False
  |some (off,ft)=>
   match Bi tb ft with
   |none=>False
   |some fi=>
    match Nat.blt k z0.len&&Nat.beq (F2 z0 k) off&&Nat.beq (A6 (z0.get k)) fi.sz&&Hd fi u with
    |true=>Up tb fs z0 rest (vs.set k u) κ
    |false=>False
def Fs:List (Nat×V)→Nat→V→V
 |[],_,d=>d
 |(i,u)::rest,k,d=>if k=i then u else Fs rest k d
def kT(n:Nat)(ei:TI):List (Nat×V)→Bool
 |[]=>true
 |(i,u)::rest=>Nat.blt i n&&Hd ei u&&kT n ei rest
def Np(tb:List (Option TI))(t:Nat)(parts:List (Nat×V))(κ:V→Prop):Prop:=
 match Bi tb t with
 |some ⟨.st fs,_,_, .st z0⟩=>Up tb fs z0 parts z0 fun vs=>κ (.st vs)
 |some ⟨.arr n e,_,_, .row sz n' z⟩=>
  match Bi tb e with
  |some ei=>
   match Nat.beq sz ei.sz&&Nat.beq n n'&&kT n ei parts with
   |true=>κ (.row sz n fun k=>Fs parts.reverse k (z k))
   |false=>False
  |none=>False
 |_=>False
def El(tb:List (Option TI))(t n:Nat)(parts:List (Nat×V))(h:List (Option V))(κ:V→List (Option V)→Prop):Prop:=
 match Bi tb t with
 |some ⟨.slice e,_,_,_⟩=>
  match Bi tb e with
  |some ei=>
   match kT n ei parts&&Nat.ble (n*ei.sz) 16777216 with
   |true=>κ (.sl (Ar h) [] ei.sz 0 n n) (C2 h (.row ei.sz n fun k=>Fs parts.reverse k ei.z))
   |false=>False
  |none=>False
 |_=>False
section
variable {P:Program} {tb:List (Option TI)} {E:Env}
theorem dX{v:V}{x:Value}(h:(v.isAgg||v.one)=true)(ht:T E v x):x.cells.size=A6 v∧R E v (fun q=>x.cells[q]?) 0:=by
 cases hagg:v.isAgg
 ·have hone:v.one=true:=by simpa[hagg]using h
  have hz:A6 v=1:=by cases v<;>simp_all[V.one,A6]
  obtain⟨h1,h2⟩:=F7 hone ht;have hc:=Pb h1;refine⟨by rw[hc,hz];rfl,Bp v _ _ 0 0 (fun q hq=>?_) h2⟩;obtain rfl:q=0:=by omega
  simp[hc]
 ·obtain⟨cs,rfl,h1,h2⟩:=Nm hagg ht;exact⟨h1,h2⟩
theorem cK(hw:Wf E){h:List (Option V)}(hs:B8 E h){t:TypeId}{v:V}{x:Value}(hz:A6 v≤x.cells.size)(hr:R E v (fun q=>x.cells[q]?) 0){κ:V→List (Option V)→Prop}(hk:κ (.ref (Ar h) []) (C2 h v)):
  Fv E κ ((do pure (.pointer (some (←newVar t x))):Sem Value).run P E.w):=by
 refine⟨.pointer (some ⟨E.w.heap.size,0,none⟩),E.alloc (.cells x.cells t), .ref (Ar h) [],C2 h v,?_,Env.ext_alloc hw _,Env.wf_alloc hw _,?_,?_,hk⟩
 ·simp only[newVar,newRow,Sem.run_bind,run_newObj,Result.andThen_ok,Sem.run_pure];rfl
 ·rw[G6];exact jE hw hs hr hz
 ·refine I1.2 ⟨?_,?_⟩
  ·rw[Az,hs.len];simp[Env.alloc]
  ·rw[Az,hs.len];simp[Env.alloc,Bk]
theorem vB(ht:Bu P tb)(hw:Wf E){h:List (Option V)}(hs:B8 E h){t:Nat}{κ:V→List (Option V)→Prop}(hl:Nn tb t h κ):Fv E κ ((Instr.alloc t true (.tuple #[])).run P E.w):=by
 unfold Nn at hl
 split at hl
 ·rename_i i hg;obtain⟨f,z,hi,_,_,hz,hT,hzs⟩:=(ht.get hg).info
  have hrun:(Instr.alloc t true (.tuple #[])).run P E.w=(do pure (.pointer (some (←newVar t z))):Sem Value).run P E.w:=by
   simp only[Instr.alloc,zeroValue,typeInfo,Sem.run_bind,run_program,Result.andThen_ok,hi,hz,Sem.run_pure]
  rw[hrun]
  have hc:=dX (E:=E) (v:=i.z) (x:=z) (by
   have h1:=(ht.get hg).agg;have h2:=(ht.get hg).one;rw[h1,h2];cases i.d.isAgg<;>rfl) (hT E)
  exact cK hw hs (by omega) hc.2 hl
 ·exact hl.elim
theorem AEl(hw:Wf E){h:List (Option V)}(hs:B8 E h){t:TypeId}{v:V}{x:Value}{κ:V→List (Option V)→Prop}(hl:jN v h κ)(hx:T E v x):Fv E κ ((Instr.box t x).run P E.w):=by
 unfold jN at hl
 split at hl
 ·rename_i hb;have hc:=dX hb hx;exact cK hw hs (by omega) hc.2 hl
 ·exact hl.elim
theorem kX(off:Nat):∀(l:List Value) (j:Nat) (cs:Array Value),off+j+l.length≤cs.size→
  ((l.zipIdx j).foldl (fun(cs:Array Value) (x:Value×Nat)=>cs.setIfInBounds (off+x.2) x.1) cs).size=cs.size∧
  ∀q,((l.zipIdx j).foldl (fun(cs:Array Value) (x:Value×Nat)=>cs.setIfInBounds (off+x.2) x.1) cs)[q]?=if off+j≤q∧q<off+j+l.length then l[q - (off+j)]? else cs[q]?
 |[],j,cs,_=>⟨rfl,fun q=>by rw[if_neg (by simp)];rfl⟩
 |v::l,j,cs,h=>by
  simp only[List.length_cons]at h;have ih:=kX off l (j+1) (cs.setIfInBounds (off+j) v) (by simp;omega);simp only[List.zipIdx_cons,List.foldl_cons];refine⟨by rw[ih.1];simp,fun q=>?_⟩;rw[ih.2 q]
  by_cases h1:off+(j+1)≤q∧q<off+(j+1)+l.length
  ·rw[if_pos h1,if_pos (by simp;omega)];rw[show q - (off+j)=(q - (off+(j+1)))+1 by omega];simp
  ·rw[if_neg h1]
   by_cases h2:q=off+j
   ·subst h2;rw[if_pos (by simp)];simp[Array.getElem?_setIfInBounds]
    omega
   ·rw[if_neg (by simp;omega),Array.getElem?_setIfInBounds_ne (by omega)]
def I0(cells:Array Value)(off:Nat)(v:Value):Array Value:=v.cells.zipIdx.foldl (fun cs (c,j)=>cs.setIfInBounds (off+j) c) cells
theorem Sc{cells:Array Value}{off:Nat}{v:Value}(h:off+v.cells.size≤cells.size):(I0 cells off v).size=cells.size∧
  ∀q,(I0 cells off v)[q]?=if off≤q∧q<off+v.cells.size then v.cells[q - off]? else cells[q]?:=by
 have:=kX off v.cells.toList 0 cells (by simpa using h)
 have e:I0 cells off v=(v.cells.toList.zipIdx 0).foldl (fun(cs:Array Value) (x:Value×Nat)=>cs.setIfInBounds (off+x.2) x.1) cells:=by
  unfold I0;rw[←Array.foldl_toList,Array.toList_zipIdx]
 rw[e];refine⟨this.1,fun q=>?_⟩;rw[this.2 q];simp
theorem bX{place:Nat→Option (Nat×Nat)}{cells:Array Value}{i:Nat}{v:Value}{rest:List (Nat×Value)}{off size:Nat}(hp:place i=some (off,size))(hs:v.cells.size=size)(hle:off+size≤cells.size):
  Instr.fill place cells ((i,v)::rest)=Instr.fill place (I0 cells off v) rest:=by
 simp only[Instr.fill,hp,hs,ne_eq,not_true,decide_false,Bool.false_or,decide_eq_true_eq];rw[if_neg (by omega)];rfl
theorem Vs.len_set:∀(l:Vs) (k:Nat) (u:V),(l.set k u).len=l.len
 | .nil,k,u=>by simp[Vs.set,Vs.len]
 | .cons v l,0,u=>by simp[Vs.set,Vs.len]
 | .cons v l,k+1,u=>by simp[Vs.set,Vs.len,Vs.len_set l k u]
theorem Vs.get_set:∀(l:Vs) (k j:Nat) (u:V),k<l.len→(l.set k u).get j=if j=k then u else l.get j
 | .nil,k,j,u,h=>by simp[Vs.len]at h
 | .cons v l,0,0,u,_=>by simp[Vs.set,Vs.get]
 | .cons v l,0,j+1,u,_=>by simp[Vs.set,Vs.get]
 | .cons v l,k+1,0,u,_=>by simp[Vs.set,Vs.get]
 | .cons v l,k+1,j+1,u,h=>by simpa[Vs.set,Vs.get]using Vs.get_set l k j u (by simpa[Vs.len]using h)
theorem Oi:∀(l l':Vs) (k:Nat),l.len=l'.len→(∀j,j<l.len→A6 (l.get j)=A6 (l'.get j))→F2 l k=F2 l' k∧Au l=Au l'
 | .nil, .nil,k,_,_=>⟨rfl,rfl⟩
 | .nil, .cons _ _,k,h,_=>by simp[Vs.len]at h
 | .cons _ _, .nil,k,h,_=>by simp[Vs.len]at h
 | .cons v l, .cons v' l',k,h,hj=>by
  have h0:=hj 0 (by simp[Vs.len]);simp only[Vs.get]at h0;have ih:=fun k=>Oi l l' k (by simpa[Vs.len]using h) (fun j hlt=>by simpa[Vs.get]using hj (j+1) (by simp[Vs.len];omega))
  refine⟨?_,by simp only[Au,h0,(ih 0).2]⟩
  cases k with
  |zero=>simp[F2]
  |succ k=>simp only[F2,h0,(ih k).1]
def Ii(E:Env):List (Nat×V)→List (Nat×Value)→Prop
 |[],[]=>True
 |(i,u)::l,(j,x)::m=>i=j∧T E u x∧Ii E l m
 |_,_=>False
theorem kU(ht:Bu P tb){fs:List (Nat×Nat)}{z0:Vs}{place:Nat→Option (Nat×Nat)}(hplace:∀k off ft fi,fs[k]?=some (off,ft)→Bi tb ft=some fi→place k=some (off,fi.sz)):
  ∀(parts:List (Nat×V)) (ps:List (Nat×Value)) (vs:Vs) (cells:Array Value) (κ:Vs→Prop),Ii E parts ps→Up tb fs z0 parts vs κ→vs.len=z0.len→(∀j,j<z0.len→A6 (vs.get j)=A6 (z0.get j))→
   Au z0=cells.size→RL E vs (fun q=>cells[q]?) 0→∃cells' vs',Instr.fill place cells ps=some cells'∧κ vs'∧vs'.len=z0.len∧Au vs'=cells'.size∧cells'.size=cells.size∧RL E vs' (fun q=>cells'[q]?) 0
 |[],ps,vs,cells,κ,hp,h,hl,hj,hz,hr=>by
  cases ps with
  |cons x m=>simp[Ii]at hp
  |nil=>
   simp only[Up]at h
   have:=Oi vs z0 0 hl (fun j hjj=>hj j (by omega))
   exact⟨cells,vs,rfl,h,hl,by rw[this.2,hz],rfl,hr⟩
 |(k,u)::rest,ps,vs,cells,κ,hp,h,hl,hj,hz,hr=>by
  cases ps with
  |nil=>simp[Ii]at hp
  |cons y m=>
   obtain⟨j,x⟩:=y;simp only[Ii]at hp;obtain⟨rfl,hu,hp⟩:=hp;simp only[Up]at h
   split at h
   ·exact h.elim
   ·rename_i off ft hfs
    split at h
    ·exact h.elim
    ·rename_i fi hg
     split at h
     ·rename_i hb;simp only[Bool.and_eq_true,Nat.beq_eq,Nat.blt_eq]at hb;obtain⟨⟨⟨b1,b2⟩,b3⟩,b4⟩:=hb;obtain⟨c1,c2,c3,c4,c5⟩:=Qf b4 hu
      have hus:A6 u=fi.sz:=by
       cases hd:fi.d.isAgg
       ·have h1:=(ht.get hg).one;have h2:=(ht.get hg).size;rw[hd]at h1
        have h3:A6 fi.z=1:=by
         generalize fi.z=y at h1
         cases y<;>simp_all[V.one,A6]
        rw[c5 hd];omega
       ·exact(c4 hd).symm
      have hcong:=fun k=>Oi vs z0 k hl (fun j hjj=>hj j (by omega))
      have hle:=Sa vs k (by omega);have hvk:A6 (vs.get k)=A6 u:=by rw[hj k b1,b3,hus]
      rw[(hcong k).1,(hcong 0).2,hz,hvk,b2]at hle;have hsp:=Sc (cells:=cells) (off:=off) (v:=x) (by omega);rw[bX (hplace k off ft fi hfs hg) (by omega) (by omega)]
      have hset:=nN vs k u (fun q=>cells[q]?) (fun q=>(I0 cells off x)[q]?) 0 (by omega) hvk.symm hr
       (fun q _ h2 h3=>by
         rw[hsp.2 q,if_neg];rw[(hcong k).1,b2]at h3;omega)
       (by
         rw[(hcong k).1,b2,Nat.zero_add];exact Bp u _ _ 0 off (fun q hq=>by rw[hsp.2 (off+q),if_pos (by omega)];simp) c3)
      have ih:=kU ht hplace rest m (vs.set k u) (I0 cells off x) κ hp h (by rw[Vs.len_set,hl]) (fun j hjj=>by
       rw[Vs.get_set _ _ _ _ (by omega)]
       split
       ·rename_i e;subst e;rw[hus,b3]
       ·exact hj j hjj) (by rw[hsp.1,hz]) hset
      obtain⟨cells',vs',e1,e2,e3,e4,e5,e6⟩:=ih;exact⟨cells',vs',e1,e2,e3,e4,by rw[e5,hsp.1],e6⟩
     ·exact h.elim
theorem gV(l:List (Nat×V))(i:Nat)(u:V)(k:Nat)(d:V):Fs ((i,u)::l).reverse k d=Fs l.reverse k (if k=i then u else d):=by
 have key:∀(a:List (Nat×V)) (d:V),Fs (a++[(i,u)]) k d=Fs a k (if k=i then u else d):=fun a=>by
  induction a with
  |nil=>intro d;simp[Fs]
  |cons x a ih=>
   intro d;obtain⟨j,y⟩:=x;simp only[List.cons_append,Fs]
   split
   ·rfl
   ·exact ih d
 rw[List.reverse_cons];exact key _ _
theorem Rm(ht:Bu P tb){e:Nat}{ei:TI}(hg:Bi tb e=some ei){n:Nat}:
  ∀(parts:List (Nat×V)) (ps:List (Nat×Value)) (f:Nat→V) (cells:Array Value),Ii E parts ps→kT n ei parts=true→ei.sz*n=cells.size→R E (.row ei.sz n f) (fun q=>cells[q]?) 0→
   ∃cells',Instr.fill (fun i=>some (i*ei.sz,ei.sz)) cells ps=some cells'∧cells'.size=cells.size∧R E (.row ei.sz n fun k=>Fs parts.reverse k (f k)) (fun q=>cells'[q]?) 0
 |[],ps,f,cells,hp,_,hz,hr=>by
  cases ps with
  |cons x m=>simp[Ii]at hp
  |nil=>exact⟨cells,rfl,rfl,by simpa[Fs]using hr⟩
 |(i,u)::rest,ps,f,cells,hp,h,hz,hr=>by
  cases ps with
  |nil=>simp[Ii]at hp
  |cons y m=>
   obtain⟨j,x⟩:=y;simp only[Ii]at hp;obtain⟨rfl,hu,hp⟩:=hp;simp only[kT,Bool.and_eq_true,Nat.blt_eq]at h;obtain⟨⟨b1,b2⟩,b3⟩:=h;obtain⟨c1,c2,c3,c4,c5⟩:=Qf b2 hu
   have hus:A6 u=ei.sz:=by
    cases hd:ei.d.isAgg
    ·have h1:=(ht.get hg).one;have h2:=(ht.get hg).size;rw[hd]at h1
     have h3:A6 ei.z=1:=by
      generalize ei.z=y at h1
      cases y<;>simp_all[V.one,A6]
     rw[c5 hd];omega
    ·exact(c4 hd).symm
   have hle:=iC (sz:=ei.sz) b1;have hsp:=Sc (cells:=cells) (off:=i*ei.sz) (v:=x) (by omega);rw[bX (place:=fun i=>some (i*ei.sz,ei.sz)) rfl (by omega) (by omega)];simp only[R]at hr
   have hr':R E (.row ei.sz n fun k=>if k=i then u else f k) (fun q=>(I0 cells (i*ei.sz) x)[q]?) 0:=by
    simp only[R];intro k hk
    by_cases hki:k=i
    ·subst hki;rw[if_pos rfl]
     exact⟨hus,Bp u _ _ 0 _ (fun q hq=>by
      show(I0 cells (k*ei.sz) x)[0+k*ei.sz+q]?=_
      rw[Nat.zero_add,hsp.2,if_pos (by omega)];simp) c3⟩
    ·rw[if_neg hki];refine⟨(hr k hk).1,J2 (fun q h1 h2=>?_) (hr k hk).2⟩;rw[(hr k hk).1]at h2
     show(I0 cells (i*ei.sz) x)[q]?=cells[q]?
     rw[hsp.2 q,if_neg]
     rcases Nat.lt_or_gt_of_ne hki with hlt|hgt
     ·have:k*ei.sz+ei.sz≤i*ei.sz:=by rw[←Nat.succ_mul];exact Nat.mul_le_mul_right _ hlt
      omega
     ·have:i*ei.sz+ei.sz≤k*ei.sz:=by rw[←Nat.succ_mul];exact Nat.mul_le_mul_right _ hgt
      omega
   obtain⟨cells',e1,e2,e3⟩:=Rm ht hg rest m _ _ hp b3 (by rw[hsp.1,hz]) hr';refine⟨cells',e1,by rw[e2,hsp.1],?_⟩;simp only[gV];exact e3
theorem dD(w:World):∀(l:List Field),(∀f∈l,∃i,P.info? f.type=some i)→
  (l.mapM (m:=Sem) fun f=>do pure (f.offset,←sizeOf f.type)).run P w= .ok (l.map fun f=>(f.offset,P.cellsOf f.type)) w
 |[],_=>by simp
 |f::l,h=>by
  obtain⟨i,hi⟩:=h f (by simp);have ih:=dD w l (fun g hg=>h g (by simp[hg]))
  simp only[List.mapM_cons,Sem.run_bind,sizeOf,typeInfo,run_program,Result.andThen_ok,hi,Sem.run_pure,List.map_cons];have hc:P.cellsOf f.type=i.size:=by simp[Program.cellsOf,hi]
  simp only[sizeOf,typeInfo]at ih;rw[ih];simp[hc]
theorem vE(ht:Bu P tb){t:Nat}{parts:List (Nat×V)}{ps:Array (Nat×Value)}{κ:V→Prop}(hp:Ii E parts ps.toList)(hl:Np tb t parts κ):Di E κ ((Instr.build t ps).run P E.w):=by
 unfold Np at hl
 split at hl
 ·rename_i fs sz by_ z0 hg;have hty:=ht.get hg;have hT:=hty.td;simp only[Hb]at hT;obtain⟨g,z,hi,hsz,_,hz,hTz,hzs⟩:=hty.info
  split at hT
  ·rename_i gs hu;simp only[Bool.and_eq_true,beq_iff_eq]at hT;obtain⟨hT,hall⟩:=hT;obtain⟨zc,rfl,hz1,hz2⟩:=Nm rfl (hTz E);simp only[R]at hz2;simp only[A6]at hz1
   have hplaces:(gs.mapM (m:=Sem) fun f=>do pure (f.offset,←sizeOf f.type)).run P E.w= .ok (gs.map fun f=>(f.offset,P.cellsOf f.type)) E.w:=by
    rw[Array.mapM_eq_mapM_toList]
    have hf:∀f∈gs.toList,∃i,P.info? f.type=some i:=fun f hf=>by
     have:=List.all_eq_true.1 hall f hf
     exact Option.isSome_iff_exists.1 this
    simp only[Sem.run_map,dD E.w gs.toList hf,Result.andThen_ok]
    congr 1
    apply Array.ext'
    simp
   have hplace:∀k off ft fi,fs[k]?=some (off,ft)→Bi tb ft=some fi→(gs.map fun f=>(f.offset,P.cellsOf f.type))[k]?=some (off,fi.sz):=fun k off ft fi h1 h2=>by
    rw[←hT,List.getElem?_map,Option.map_eq_some_iff]at h1;obtain⟨f,h3,h4⟩:=h1
    cases h4
    obtain⟨g',_,hi',hsz',_⟩:=(ht.get h2).info;rw[Array.getElem?_map]
    have:gs[k]?=some f:=by simpa using h3
    rw[this];simp[Program.cellsOf,hi',hsz']
   obtain⟨cells',vs',e1,e2,e3,e4,e5,e6⟩:=kU ht (place:=fun i=>(gs.map fun f=>(f.offset,P.cellsOf f.type))[i]?) hplace parts ps.toList z0 zc _ hp hl rfl (fun _ _=>rfl) hz1.symm hz2;refine .mk (.agg cells') _ ?_ (J3 rfl (by simp only[A6];exact e4.symm) (by simp only[R];exact e6)) e2;simp only[Instr.build,Sem.run_bind,zeroValue,typeInfo,run_program,Result.andThen_ok,hi,hz,Sem.run_pure,run_underlying hu,hplaces,Value.cells,e1]
  ·cases hT
 ·rename_i n e sz' by_ sz n' z hg;have hty:=ht.get hg;have hT:=hty.td;simp only[Hb]at hT;obtain⟨g,zv,hi,hsz,_,hz,hTz,hzs⟩:=hty.info
  split at hT
  ·rename_i m' e' hu;simp only[Bool.and_eq_true,beq_iff_eq]at hT;obtain⟨rfl,rfl⟩:=hT
   split at hl
   ·rename_i ei hge
    split at hl
    ·rename_i hb;simp only[Bool.and_eq_true,Nat.beq_eq]at hb;obtain⟨⟨rfl,rfl⟩,hb⟩:=hb;obtain⟨g',_,hi',hsz',_⟩:=(ht.get hge).info;obtain⟨zc,rfl,hz1,hz2⟩:=Nm rfl (hTz E);simp only[A6]at hz1;obtain⟨cells',e1,e2,e3⟩:=Rm ht hge parts ps.toList z zc hp hb hz1.symm hz2;refine .mk (.agg cells') _ ?_ (J3 rfl (by simp only[A6];rw[e2,hz1]) e3) hl;simp only[Instr.build,Sem.run_bind,zeroValue,typeInfo,run_program,Result.andThen_ok,hi,hz,Sem.run_pure,run_underlying hu,sizeOf,hi',hsz',Value.cells,e1]
    ·exact hl.elim
   ·exact hl.elim
  ·cases hT
 ·exact hl.elim
end
def Lb(sz:Nat)(y:V)(h:List (Option V))(κ:Nat→(Nat→V)→Prop):Prop:=
 match y with
 | .imm _ sz' m g=>match Nat.beq sz' sz with|true=>κ m g|false=>False
 | .emp=>κ 0 (fun _=> .any)
 | .str s=>match Nat.beq sz 1 with|true=>κ s.length (fun k=> .int .u8 (s.getD k 0).toNat)|false=>False
 | .sl j p sz' lo m _=>
  match Dx h j with
  |some c=>Wg c p (match sub c p with
   | .row sz'' n f=>match Nat.beq sz' sz&&Nat.beq sz'' sz with
    |true=>Ob (lo+m≤n)∧κ m (fun k=>f (lo+k))
    |false=>False
   |_=>False)
  |none=>False
 |_=>False
def TD.srcOk:TD→Bool| .slice _| .str=>true|_=>false
def Ur(ei:TI)(base:V)(m:Nat)(g:Nat→V)(h:List (Option V))(κ:V→List (Option V)→Prop):Prop:=
 match base with
 | .emp=>Ob (m*ei.by_≤140737488355328∧m≤140737488355328)∧κ (.sl (Ar h) [] ei.sz 0 m m) (C2 h (.row ei.sz m g))
 | .sl i [] sz lo len _=>
  match Dx h i with
  |some (.row sz' n f)=>match Nat.beq sz ei.sz&&Nat.beq sz' ei.sz&&Nat.beq lo 0 with
   |true=>Ob (len=n)∧Ob ((n+m)*ei.by_≤140737488355328∧n+m≤140737488355328)∧
     κ (.sl (Ar h) [] sz 0 (n+m) (n+m)) (C2 (h.set i none) (.row sz (n+m) fun k=>if k<n then f k else g (k - n)))
   |false=>False
  |_=>False
 |_=>False
def Yx(ei:TI)(base:V)(m:Nat)(g:Nat→V)(h:List (Option V))(κ:V→List (Option V)→Prop):Prop:=
 match base with
 | .sl i [] sz lo len cap=>
  match Dx h i with
  |some (.row sz' n f)=>match Nat.beq sz ei.sz&&Nat.beq sz' ei.sz with
   |true=>Ob (len+m≤cap∧lo+len+m≤n)∧κ (.sl i [] sz lo (len+m) cap) (h.set i (some (.row sz n fun k=>if lo+len≤k∧k<lo+len+m then g (k - (lo+len))else f k)))
   |false=>False
  |_=>False
 |_=>False
def Kh(tb:List (Option TI))(t tx:Nat)(base y:V)(h:List (Option V))(κ:V→List (Option V)→Prop):Prop:=
 match Bi tb t,Bi tb tx with
 |some ⟨.slice e,_,_,_⟩,some ti=>
  match ti.d.srcOk,Bi tb e with
  |true,some ei=>Lb ei.sz y h fun m g=>Ur ei base m g h κ∨Yx ei base m g h κ
  |_,_=>False
 |_,_=>False
section
variable {P:Program} {tb:List (Option TI)} {E:Env}
def Gx(c:Nat→Option Value)(o n:Nat):List Value:=(List.range n).map fun q=>(c (o+q)).getD undef
theorem Ca(c:Nat→Option Value)(o n:Nat):(Gx c o n).length=n:=by simp[Gx]
theorem J5{c:Nat→Option Value}{o n q:Nat}(hq:q<n){x:Value}(hx:c (o+q)=some x):(Gx c o n)[q]?=some x:=by
 simp[Gx,hq,hx]
theorem Ot{sz n:Nat}{f:Nat→V}{c:Nat→Option Value}{o:Nat}(h:∀k,k<n→A6 (f k)=sz∧R E (f k) c (o+k*sz)):∀q,q<n*sz→∃x,c (o+q)=some x∧x.oneCell'=true:=fun q hq=>by
 refine Nl (.row sz n f) c o q (by simp only[R];exact h) (by simp only[A6];rw[Nat.mul_comm];exact hq)
theorem iD{sz n:Nat}{f:Nat→V}{c:Nat→Option Value}{o:Nat}(h:∀k,k<n→A6 (f k)=sz∧R E (f k) c (o+k*sz)):∀k,k<n→A6 (f k)=sz∧R E (f k) (fun q=>(Gx c o (n*sz))[q]?) (k*sz):=fun k hk=>by
 refine⟨(h k hk).1,Bp (f k) c _ (o+k*sz) (k*sz) (fun q hq=>?_) (h k hk).2⟩;rw[(h k hk).1]at hq;have h1:k*sz+sz≤n*sz:=by rw[←Nat.succ_mul];exact Nat.mul_le_mul_right _ hk
 obtain⟨x,h2,_⟩:=Ot h (k*sz+q) (by omega)
 show(Gx c o (n*sz))[k*sz+q]?=_
 rw[J5 (by omega) h2,Nat.add_assoc,h2]
theorem dE {tx:Nat} {sz:Nat} (hkind:(∃e',P.underlying tx=some (.slice e'))∨P.underlying tx=some .string) (w:World) (a:Addr) (n c:Nat) (news:List Value) (hl:news.length=n*sz) (hnews:∀j u,news[j]?=some u→w.cell? (a.add j)=some u)
  (h1:∀u∈news,u.oneCell'=true):Src P sz tx (.slice (some a) n c) n news w:=
 ⟨hkind,fun _=>rfl,run_firstCells_some w sz n a n c news hl hnews,run_firstCells_some w.drew sz n a n c news hl (by simpa using hnews),hl,h1⟩
theorem AJf{tx:Nat}{sz:Nat}(hkind:(∃e',P.underlying tx=some (.slice e'))∨P.underlying tx=some .string)(w:World)(c:Nat):Src P sz tx (.slice none 0 c) 0 [] w:=
 ⟨hkind,fun _=>rfl,run_firstCells_none w sz 0 0 c,run_firstCells_none w.drew sz 0 0 c,by simp,fun _ h=>by cases h⟩
theorem Sj(ht:Bu P tb)(hw:Wf E){h:List (Option V)}(hs:B8 E h){sz:Nat}{tx:Nat}{ti:TI}(hg:Bi tb tx=some ti)(hk:ti.d.srcOk=true){y:V}{Y:Value}{κ:Nat→(Nat→V)→Prop}(hd:Lb sz y h κ)(hy:T E y Y):
  ∃m g news,κ m g∧Src P sz tx Y m news E.w∧∀k,k<m→A6 (g k)=sz∧R E (g k) (fun q=>news[q]?) (k*sz):=by
 have hT:=(ht.get hg).td
 have hkind:(∃e',P.underlying tx=some (.slice e'))∨P.underlying tx=some .string:=by
  cases hd':ti.d<;>rw[hd']at hk hT<;>simp[TD.srcOk]at hk<;>simp only[Hb]at hT
  ·split at hT
   ·exact .inr ‹_›
   ·cases hT
  ·split at hT
   ·exact .inl ⟨_,‹_›⟩
   ·cases hT
 have hslice:∀(A:Option Addr) (m cp:Nat) (g:Nat→V),Y= .slice A m cp→κ m g→(m=0∨∃b off,A=some ⟨b,off,none⟩∧∀k,k<m→A6 (g k)=sz∧R E (g k) (Am E.w b) (off+k*sz))→
   ∃m g news,κ m g∧Src P sz tx Y m news E.w∧∀k,k<m→A6 (g k)=sz∧R E (g k) (fun q=>news[q]?) (k*sz):=fun A m cp g hY hk hr=>by
  subst hY
  rcases hr with rfl|⟨b,off,rfl,hr⟩
  ·refine⟨0,g,[],hk,?_,fun k hk=>absurd hk (by omega)⟩
   cases A with
   |none=>exact AJf hkind E.w cp
   |some a=>exact dE hkind E.w a 0 cp [] (by simp) (by simp) (by simp)
  ·refine⟨m,g,Gx (Am E.w b) off (m*sz),hk,dE hkind E.w _ m cp _ (Ca _ _ _) (fun j u hj=>?_) (fun u hu'=>?_),iD hr⟩
   ·have hlt:j<m*sz:=by
     have:=(List.getElem?_eq_some_iff.1 hj).1
     rwa [Ca]at this
    obtain⟨x,h1,_⟩:=Ot hr j hlt;rw[J5 hlt h1]at hj
    cases hj
    rw[Addr.add_mid];exact h1
   ·obtain⟨q,hq,rfl⟩:=List.mem_map.1 hu';obtain⟨x,h1,h2⟩:=Ot hr q (List.mem_range.1 hq);rw[h1];exact h2
 unfold Lb at hd
 split at hd
 ·rename_i l sz' m g
  split at hd
  ·rename_i hb;simp only[Nat.beq_eq]at hb;subst hb;obtain⟨A,cp,rfl,h1,h2⟩:=Ej.1 hy;exact hslice A m cp g rfl hd (h2.imp id fun⟨b,off,h3,_,h4⟩=>⟨b,off,h3,fun k hk=>⟨(h4 k hk).1,yA hw (h4 k hk).2⟩⟩)
  ·exact hd.elim
 ·obtain⟨A,rfl⟩:=Jj.1 hy;exact hslice A 0 0 _ rfl hd (.inl rfl)
 ·rename_i s
  split at hd
  ·rename_i hb;simp only[Nat.beq_eq]at hb;subst hb;obtain rfl:=I2.1 hy;have Ar:(ByteArray.mk s.toArray).size=s.length:=by simp[ByteArray.size]
   refine⟨s.length,_,byteCells ⟨s.toArray⟩,hd,⟨hkind,fun w=>by simp[Builtin.lenOf,Ar],?_,?_,by rw[byteCells_length,Ar,Nat.mul_one],fun u hu=>?_⟩,fun k hk=>⟨rfl,?_⟩⟩
   ·have:=firstCells_string (P:=P) ⟨s.toArray⟩ E.w
    rwa [Ar]at this
   ·have:=firstCells_string (P:=P) ⟨s.toArray⟩ E.w.drew
    rwa [Ar]at this
   ·obtain⟨_,_,rfl⟩:=List.mem_map.1 hu;rfl
   ·simp only[R,Nat.mul_one,byteCells,List.getElem?_map];rw[List.getElem?_eq_getElem hk];simp[hk]
  ·exact hd.elim
 ·rename_i j p sz' lo m _
  split at hd
  ·rename_i c hc;obtain⟨hp,hd2⟩:=F1 p c _ hd;clear hd
   split at hd2
   ·rename_i sz'' n f hsub
    split at hd2
    ·rename_i hb;simp only[Bool.and_eq_true,Nat.beq_eq]at hb;obtain⟨rfl,rfl⟩:=hb;obtain⟨hle,hd2⟩:=hd2;have hle:=hle.out;obtain⟨h1,A,cp,rfl,h2,h3,h4⟩:=Hq.1 hy;refine hslice A m cp _ rfl hd2 ?_
     rcases h4 with h4|⟨hvt,rfl,cs,t,fr,hb,_⟩
     ·exact .inl (by omega)
     ·rcases hs.live j c ((Cf h j c).1 hc)with⟨h5,_⟩|⟨_,_,cs',t',hb',_,hr⟩
      ·rw[h5]at hvt;cases hvt
      ·refine .inr ⟨_,_,rfl,fun k hk=>?_⟩
       have hr':R E c (Am E.w (E.ρ j)) 0:=by
        have:Am E.w (E.ρ j)=fun q=>cs'[q]?:=by funext q;simp[Am,World.cell?,hb']
        rw[this];exact hr
       have h6:=Lf p c _ 0 hp hr';rw[Nat.zero_add,hsub]at h6;simp only[R]at h6
       have:=h6 (lo+k) (by omega)
       refine⟨this.1,?_⟩;have h7:=this.2;rw[Nat.add_mul,←Nat.add_assoc]at h7;exact h7
    ·exact hd2.elim
   ·exact hd2.elim
  ·exact hd.elim
 ·exact hd.elim
theorem Tg(hw:Wf E){h:List (Option V)}(hs:B8 E h){cs:Array Value}{t:TypeId}{v:V}(hv:R E v (fun q=>cs[q]?) 0)(hz:A6 v≤cs.size):
  F6 E (E.alloc (.cells cs t))∧Wf (E.alloc (.cells cs t))∧B8 (E.alloc (.cells cs t)) (C2 h v):=
 ⟨Env.ext_alloc hw _,Env.wf_alloc hw _,by rw[G6];exact jE hw hs hv hz⟩
def Env.again(E:Env)(w':World)(i:Nat):Env:={E with w:=w',ρ:=fun k=>if k=E.N then E.ρ i else E.ρ k,vt:=fun k=>if k=E.N then false else E.vt k,N:=E.N+1}
theorem jD {h:List (Option V)} {w':World} {i:Nat} {v v':V} {cs cs':Array Value} {t:TypeId} (hw:Wf E) (hs:B8 E h) (hi:h[i]?=some (some v)) (hvt:E.vt i=false)
  (hb:E.w.heap[E.ρ i]?=some (.cells cs t (0,0))) (hk:¬E.K (E.ρ i)) (hsz:cs'.size=cs.size) (hwr:Ek E.w w' (E.ρ i) cs' t) (hv:R E v' (fun q=>cs'[q]?) 0) (hz:A6 v'≤cs'.size):
  F6 E (E.again w' i)∧Wf (E.again w' i)∧B8 (E.again w' i) (C2 (h.set i none) v'):=by
 have hiN:i<E.N:=hs.lt hi;have hx1:=Ek.ext hb hk hsz hwr
 have hx:F6 E (E.again w' i):=
  {hx1 with N:=Nat.le_succ _,ρ:=fun j hj=>by simp only[Env.again];rw[if_neg (by omega)],vt:=fun j hj=>by simp only[Env.again];rw[if_neg (by omega)]}
 have hwf:Wf (E.again w' i):=⟨hw.S,hw.L,fun c hc=>by have:=hw.K c hc;simp only[Env.again,hwr.size];exact this⟩;refine⟨hx,hwf,?_⟩;rw[G6];have Ar:(h.set i none).length=E.N:=by simpa using hs.len
 have old:∀j u,(h.set i none)[j]?=some (some u)→j≠i∧h[j]?=some (some u)∧j<E.N:=fun j u hj=>by
  rw[List.getElem?_set]at hj
  split at hj
  ·split at hj<;>simp at hj
  ·rename_i e;exact⟨fun e'=>e e'.symm,hj,hs.lt hj⟩
 have get:∀j u,((h.set i none)++[some v'])[j]?=some (some u)→(j=E.N∧u=v')∨(j<E.N∧j≠i∧h[j]?=some (some u)):=fun j u hj=>by
  rw[List.getElem?_append]at hj
  split at hj
  ·obtain⟨h1,h2,h3⟩:=old j u hj;exact .inr ⟨h3,h1,h2⟩
  ·rename_i hlt;have h1:=(List.getElem?_eq_some_iff.1 hj).1;simp only[List.length_singleton]at h1;rw[Ar]at h1 hlt hj
   have:j=E.N:=by omega
   subst this;simp at hj
   exact .inl ⟨rfl,hj.symm⟩
 refine⟨by simp[Env.again,hs.len],fun j u hj=>?_,fun j k u u' hj hk' hne h1 h2=>?_⟩
 ·rcases get j u hj with⟨rfl,rfl⟩|⟨h1,h2,h3⟩
  ·refine .inr ⟨by simp[Env.again],?_,cs',t,?_,hz,Gu hw hx _ _ _ hv⟩
   ·simp only[Env.again,if_true];exact hk
   ·simp only[Env.again,if_true];exact hwr.here
  ·refine(hs.live j u h3).ext hw hx h1 (fun h _=>h) (fun hvj=>hwr.other _ (hs.inj j i u v h3 hi h2 hvj hvt))
 ·rcases get j u hj with⟨rfl,rfl⟩|⟨a1,a2,a3⟩<;>rcases get k u' hk' with⟨rfl,rfl⟩|⟨b1,b2,b3⟩
  ·exact absurd rfl hne
  ·simp only[Env.again,if_true]at h2⊢;rw[if_neg (by omega)]at h2⊢;exact fun e=>hs.inj k i u' v b3 hi b2 h2 hvt e.symm
  ·simp only[Env.again,if_true]at h1⊢;rw[if_neg (by omega)]at h1⊢;exact hs.inj j i u v a3 hi a2 h1 hvt
  ·simp only[Env.again]at h1 h2⊢;rw[if_neg (by omega)]at h1 h2⊢;rw[if_neg (by omega)];exact hs.inj j k u u' a3 b3 hne h1 h2
theorem Ov{w:World}{b o:Nat}{cs:Array Value}{t:TypeId}{vs:List Value}(hb:w.heap[b]?=some (.cells cs t (0,0)))(hl:o+vs.length≤cs.size)(h1:∀v∈vs,v.oneCell'=true):w.setCells b o vs=w.setRow b (Bz cs o vs):=by
 have e1:=run_storeCells_at (P:=default) b o t vs 0 cs w hb (by simpa using hl) h1
 have e2:=run_storeCells_cells (P:=default) b o vs 0 w (fun j hj=>by
  have:w.cell? ⟨b,o+j,none⟩=cs[o+j]?:=by simp[World.cell?,hb]
  simp only[Nat.add_zero,this,Array.getElem?_eq_getElem (show o+j<cs.size by omega),Option.isSome_some]) (fun j hj=>by simp[World.frozen?,hb]) h1
 rw[e1]at e2;simp only[Nat.add_zero]at e2
 injection e2 with _ e2
 exact e2.symm
theorem Kd {sz n m:Nat} {f g:Nat→V} {olds news rest:List Value} (ho:olds.length=n*sz) (hn:news.length=m*sz) (hf:∀k,k<n→A6 (f k)=sz∧R E (f k) (fun q=>olds[q]?) (k*sz))
  (hg:∀k,k<m→A6 (g k)=sz∧R E (g k) (fun q=>news[q]?) (k*sz)):R E (.row sz (n+m) fun k=>if k<n then f k else g (k - n)) (fun q=>(olds++news++rest).toArray[q]?) 0:=by
 simp only[R];intro k hk
 by_cases hkn:k<n
 ·rw[if_pos hkn];have h1:k*sz+sz≤n*sz:=by rw[←Nat.succ_mul];exact Nat.mul_le_mul_right _ hkn
  refine⟨(hf k hkn).1,Bp (f k) _ _ (k*sz) _ (fun q hq=>?_) (hf k hkn).2⟩;rw[(hf k hkn).1]at hq;simp only[List.getElem?_toArray,Nat.zero_add];rw[List.append_assoc,List.getElem?_append_left (by omega)]
 ·rw[if_neg hkn];have hkm:k - n<m:=by omega
  have h1:(k - n)*sz+sz≤m*sz:=by rw[←Nat.succ_mul];exact Nat.mul_le_mul_right _ hkm
  have h2:k*sz=n*sz+(k - n)*sz:=by rw[←Nat.add_mul];congr 1;omega
  refine⟨(hg _ hkm).1,Bp (g (k - n)) _ _ ((k - n)*sz) _ (fun q hq=>?_) (hg _ hkm).2⟩;rw[(hg _ hkm).1]at hq;simp only[List.getElem?_toArray,Nat.zero_add];rw[List.append_assoc,List.getElem?_append_right (by omega),List.getElem?_append_left (by omega)]
  congr 1
  omega
theorem O1(w:World)(need old:Nat)(e:TypeId):need≤grownCap w need old e:=by
 unfold grownCap;simp only[Question.cut];omega
theorem Tx (hw:Wf E) {h:List (Option V)} (hs:B8 E h) {e:Nat} {ei:TI} {z:Value} (hz:z.cells.size=ei.sz) {n m sCap:Nat} {f g:Nat→V} {olds news:List Value} (ho:olds.length=n*ei.sz) (hn:news.length=m*ei.sz)
  (hf:∀k,k<n→A6 (f k)=ei.sz∧R E (f k) (fun q=>olds[q]?) (k*ei.sz)) (hg:∀k,k<m→A6 (g k)=ei.sz∧R E (g k) (fun q=>news[q]?) (k*ei.sz)) {r:Result Value}
  (hr:r= .ok (.slice (some ⟨E.w.heap.size,0,none⟩) (n+m) (grownCap E.w (n+m) sCap e)) (E.w.drew.alloc (.cells ((olds++news).toArray++Builtin.zeroCells z.cells (grownCap E.w (n+m) sCap e - (n+m))) e)))
  {κ:V→List (Option V)→Prop} (hk:κ (.sl (Ar h) [] ei.sz 0 (n+m) (n+m)) (C2 h (.row ei.sz (n+m) fun k=>if k<n then f k else g (k - n)))):Fv E κ r:=by
 have hx:=E.ext_drew;have hwd:=Env.wf_drew hw;have hsd:=fF hw hs
 let cells:=(olds++news).toArray++Builtin.zeroCells z.cells (grownCap E.w (n+m) sCap e - (n+m))
 have hcells:cells=(olds++news++(Builtin.zeroCells z.cells (grownCap E.w (n+m) sCap e - (n+m))).toList).toArray:=by
  simp[cells]
 have hzc:(Builtin.zeroCells z.cells (grownCap E.w (n+m) sCap e - (n+m))).size=(grownCap E.w (n+m) sCap e - (n+m))*ei.sz:=by
  simp[Builtin.zeroCells,hz]
 have hge':=O1 E.w (n+m) sCap e
 have hsize:cells.size=grownCap E.w (n+m) sCap e*ei.sz:=by
  simp only[cells,Array.size_append,List.size_toArray,List.length_append,ho,hn,hzc];rw[←Nat.add_mul,←Nat.add_mul]
  congr 1
  omega
 have hR:R E.drew (.row ei.sz (n+m) fun k=>if k<n then f k else g (k - n)) (fun q=>cells[q]?) 0:=by
  rw[hcells];exact Kd ho hn (fun k hk=>⟨(hf k hk).1,Gu hw hx _ _ _ (hf k hk).2⟩) (fun k hk=>⟨(hg k hk).1,Gu hw hx _ _ _ (hg k hk).2⟩)
 have hvs:A6 (.row ei.sz (n+m) fun k=>if k<n then f k else g (k - n))≤cells.size:=by
  simp only[A6];rw[hsize,Nat.mul_comm];exact Nat.mul_le_mul_right _ hge'
 obtain⟨g1,g2,g3⟩:=Tg (t:=e) hwd hsd hR hvs;refine⟨_,E.drew.alloc (.cells cells e),_,_,hr,hx.trans g1,g2,g3,Hq.2 ⟨?_,some ⟨E.w.heap.size,0,none⟩,grownCap E.w (n+m) sCap e,rfl,Nat.le_refl _,hge', .inr ⟨?_,?_,cells,e,(0,0),?_,?_⟩⟩,hk⟩
 ·rw[Az,hs.len];simp[Env.alloc,Env.drew]
 ·rw[Az,hs.len];simp[Env.alloc,Env.drew]
 ·rw[Az,hs.len];simp[Env.alloc,Env.drew,Bk]
 ·rw[Az,hs.len];simp only[Env.alloc,Env.drew,if_true];exact World.heap_alloc_new _ _
 ·simp only[Bk,Nat.zero_add];rw[hsize];exact Nat.le_refl _
theorem Im(size:Nat)(A:Option Addr)(c:Nat)(w:World):(Builtin.firstCells size 0 (.slice A 0 c)).run P w= .ok (#[]:Array Value) w:=by
 cases A with
 |none=>exact run_firstCells_none w size 0 0 c
 |some a=>exact run_firstCells_some w size 0 a 0 c [] (by simp) (by simp)
theorem AB6 (ht:Bu P tb) (hw:Wf E) {h:List (Option V)} (hs:B8 E h) {t e tx ty:Nat} {ei:TI} (hu:P.underlying t=some (.slice e)) (hge:Bi tb e=some ei) {m:Nat} {g:Nat→V} {news:List Value} {Y B:Value} {base:V} {κ:V→List (Option V)→Prop}
  (hsrc:Src P ei.sz tx Y m news E.w) (hg:∀k,k<m→A6 (g k)=ei.sz∧R E (g k) (fun q=>news[q]?) (k*ei.sz)) (hB:T E base B) (hd:Ur ei base m g h κ):
  Fv E κ ((Builtin.append_ #[t,tx] ty #[B,Y]).run P E.w):=by
 obtain⟨i,z,hi,hsz,hby,hz,_,hzs⟩:=(ht.get hge).info;have hsrc':Src P i.size tx Y m news E.w:=by rw[hsz];exact hsrc
 have hnl:news.length=m*ei.sz:=hsrc.newsLen
 have nothing:∀(A:Option Addr) (h0:List (Option V)),B8 E h0→Ar h0=Ar h→B= .slice A 0 0→m*ei.by_≤140737488355328→m≤140737488355328→∀f:Nat→V,(∀k,k<m→f k=g k)→κ (.sl (Ar h0) [] ei.sz 0 m m) (C2 h0 (.row ei.sz m f))→Fv E κ ((Builtin.append_ #[t,tx] ty #[B,Y]).run P E.w):=fun A h0 hs0 _ hB hb1 hb2 f hfg hk=>by
  subst hB
  rcases Nat.eq_zero_or_pos m with rfl|hm
  ·have hnil:news=[]:=List.eq_nil_of_length_eq_zero (by rw[hnl,Nat.zero_mul]);subst hnil;refine⟨.slice A 0 0,E.valloc,_,_,run_append_nothing E.w t tx ty e i hu hi A 0 0 (Nat.le_refl _) Y hsrc',Env.ext_valloc,Env.wf_valloc hw,by rw[G6];exact U9 hw hs0 ei.sz f,Hq.2 ⟨?_,A,0,rfl,Nat.le_refl _,Nat.le_refl _, .inl rfl⟩,hk⟩;rw[Az,hs0.len];simp[Env.valloc]
  ·have hrun:=run_append_grow_src E.w t tx ty e i z hu hi hz A 0 0 [] (Im i.size A 0 E.w.drew) Y m news hsrc' (by omega) (by omega) (growslice_fits (by omega) (by rw[hby,Nat.zero_add];exact hb1));refine Tx hw hs0 hzs (n:=0) (f:=f) (g:=f) (olds:=[]) (by simp) hnl (fun k hk=>absurd hk (by omega)) (fun k hk=>by rw[hfg k hk];exact hg k hk) hrun ?_;simpa using hk
 unfold Ur at hd
 split at hd
 ·obtain⟨hob,hk⟩:=hd;obtain⟨A,hBA⟩:=Jj.1 hB;exact nothing A h hs rfl hBA hob.out.1 hob.out.2 g (fun _ _=>rfl) hk
 ·rename_i j sz lo len cap
  split at hd
  ·rename_i sz' n f hc
   split at hd
   ·rename_i hb;simp only[Bool.and_eq_true,Nat.beq_eq]at hb;obtain⟨⟨rfl,rfl⟩,rfl⟩:=hb;obtain⟨hlen',hob,hk⟩:=hd;obtain rfl:n=len:=hlen'.out.symm;obtain⟨hb1,hb2⟩:=hob.out;obtain⟨hjN,A,cp,rfl,h2,h3,h4⟩:=Hq.1 hB;have hcj:=(Cf h j _).1 hc;have hlenset:Ar (h.set j none)=Ar h:=by rw[Az,Az];simp
    rcases Nat.eq_zero_or_pos cp with rfl|hcp
    ·have hn0:n=0:=by omega
     subst hn0;refine nothing A (h.set j none) (hs.forget j) hlenset rfl (by simpa using hb1) (by simpa using hb2) (fun k=>if k<0 then f k else g (k - 0)) (fun k hk=>by simp) ?_;rw[hlenset];simpa using hk
    ·rcases h4 with h4|⟨hvt,rfl,cs0,t0,fr,hcs0,hbound⟩
     ·omega
     ·rcases hs.live j _ hcj with⟨h5,_⟩|⟨_,hnk,cs,t',hbk,hle,hr⟩
      ·rw[h5]at hvt;cases hvt
      ·have e1:=hbk.symm.trans hcs0
       injection e1 with e1
       injection e1 with e1 e2 e3
       subst e1;simp only[Bk,Nat.zero_add,Nat.zero_mul,Nat.add_zero]at hbound⊢;simp only[R]at hr;have hca:Am E.w (E.ρ j)=fun q=>cs[q]?:=by funext q;simp[Am,World.cell?,hbk]
       by_cases hroom:n+m≤cp
       ·
        have hfit:n*ei.sz+news.length≤cs.size:=by
         rw[hnl,←Nat.add_mul];exact Nat.le_trans (Nat.mul_le_mul_right _ hroom) hbound
        have hrun:=run_append_room_src E.w t tx ty e i hu hi (E.ρ j) 0 n cp Y m news hsrc' hroom (fun q hq=>by
         have:E.w.cell? ⟨E.ρ j,0+n*i.size+q,none⟩=cs[0+n*i.size+q]?:=by simp[World.cell?,hbk]
         rw[hsz]at this⊢;simp only[this,Array.getElem?_eq_getElem (show 0+n*ei.sz+q<cs.size by omega),Option.isSome_some]) (fun q hq=>by simp[World.frozen?,hbk])
        rw[hsz,Nat.zero_add,Ov hbk hfit hsrc.one]at hrun;have hwr:Ek E.w (E.w.setRow (E.ρ j) (Bz cs (n*ei.sz) news)) (E.ρ j) (Bz cs (n*ei.sz) news) t':=Ek.setRow hbk;have hps:=Id hfit
        have hR:R E (.row ei.sz (n+m) fun k=>if k<n then f k else g (k - n)) (fun q=>(Bz cs (n*ei.sz) news)[q]?) 0:=by
         have hn':(cs.toList.take (n*ei.sz)).length=n*ei.sz:=by simp;omega
         refine Kd (rest:=cs.toList.drop (n*ei.sz+news.length)) hn' hnl (fun k hk=>⟨(hr k hk).1,?_⟩) hg;have h6:k*ei.sz+ei.sz≤n*ei.sz:=by rw[←Nat.succ_mul];exact Nat.mul_le_mul_right _ hk
         refine Bp (f k) _ _ (0+k*ei.sz) _ (fun q hq=>?_) (hr k hk).2;rw[(hr k hk).1]at hq;simp only[Nat.zero_add,List.getElem?_take];rw[if_pos (by omega)];simp
        obtain⟨g1,g2,g3⟩:=jD hw hs hcj hvt hbk hnk hps hwr hR (by simp only[A6];rw[hps,Nat.mul_comm];exact Nat.le_trans (Nat.mul_le_mul_right _ hroom) hbound);refine⟨_,_,_,_,hrun,g1,g2,g3,Hq.2 ⟨?_,some ⟨E.ρ j,0,none⟩,cp,rfl,Nat.le_refl _,hroom, .inr ⟨?_,?_,Bz cs (n*ei.sz) news,t',(0,0),?_,?_⟩⟩,hk⟩
        ·rw[Az,hs.len];simp[Env.again]
        ·rw[Az,hs.len];simp[Env.again]
        ·rw[Az,hs.len];simp[Env.again,Bk]
        ·rw[Az,hs.len];simp only[Env.again,if_true];exact hwr.here
        ·simp only[Bk,Nat.zero_add];rw[hps];exact hbound
       ·
        have hold:n*ei.sz≤cs.size:=Nat.le_trans (Nat.mul_le_mul_right _ (by omega)) hbound;have hf':∀k,k<n→A6 (f k)=ei.sz∧R E (f k) (Am E.w (E.ρ j)) (0+k*ei.sz):=fun k hk=>by rw[hca];exact hr k hk
        have hrun:=run_append_grow_src E.w t tx ty e i z hu hi hz (some ⟨E.ρ j,0,none⟩) n cp (Gx (Am E.w (E.ρ j)) 0 (n*ei.sz)) (by
         refine run_firstCells_some E.w.drew i.size n _ n cp _ (by rw[Ca,hsz]) (fun q v hq=>?_)
         have hlt:q<n*ei.sz:=by
          have:=(List.getElem?_eq_some_iff.1 hq).1
          rwa [Ca]at this
         obtain⟨x,h1,_⟩:=Ot hf' q hlt;rw[J5 hlt h1]at hq
         cases hq
         rw[Addr.add_mid];exact h1) Y m news hsrc' (by omega) (by omega) (growslice_fits (by omega) (by rw[hby];exact hb1))
        refine Tx hw (hs.forget j) hzs (n:=n) (f:=f) (g:=g) (Ca _ _ _) hnl (iD hf') hg hrun ?_;rw[hlenset];exact hk
   ·exact hd.elim
  ·exact hd.elim
 ·exact hd.elim
end
section
variable {P:Program} {tb:List (Option TI)} {E:Env}
theorem B8.replace{h:List (Option V)}(hs:B8 E h){i:Nat}{v v':V}(hi:h[i]?=some (some v))(hl:uW E v' i):B8 E (h.set i (some v')) where
 len:=by simpa using hs.len
 live:=fun j u hj=>by
  rw[List.getElem?_set]at hj
  split at hj
  ·rename_i e
   split at hj
   ·simp at hj;subst hj;subst e;exact hl
   ·cases hj
  ·exact hs.live j u hj
 inj:=fun j k u u' hj hk=>by
  have keep:∀j u,(h.set i (some v'))[j]?=some (some u)→∃u',h[j]?=some (some u'):=fun j u hj=>by
   rw[List.getElem?_set]at hj
   split at hj
   ·rename_i e;subst e;exact⟨v,hi⟩
   ·exact⟨u,hj⟩
  obtain⟨a,ha⟩:=keep j u hj;obtain⟨b,hb⟩:=keep k u' hk;exact hs.inj j k a b ha hb
theorem ACl (ht:Bu P tb) (hw:Wf E) {h:List (Option V)} (hs:B8 E h) {t e tx ty:Nat} {ei:TI} (hu:P.underlying t=some (.slice e)) (hge:Bi tb e=some ei) {m:Nat} {g:Nat→V} {news:List Value} {Y B:Value} {base:V} {κ:V→List (Option V)→Prop}
  (hsrc:Src P ei.sz tx Y m news E.w) (hg:∀k,k<m→A6 (g k)=ei.sz∧R E (g k) (fun q=>news[q]?) (k*ei.sz)) (hB:T E base B) (hd:Yx ei base m g h κ):
  Fv E κ ((Builtin.append_ #[t,tx] ty #[B,Y]).run P E.w):=by
 obtain⟨i,z,hi,hsz,hby,hz,_,hzs⟩:=(ht.get hge).info;have hsrc':Src P i.size tx Y m news E.w:=by rw[hsz];exact hsrc
 have hnl:news.length=m*ei.sz:=hsrc.newsLen;unfold Yx at hd
 split at hd
 ·rename_i j sz lo len cap
  split at hd
  ·rename_i sz' n f hc
   split at hd
   ·rename_i hb;simp only[Bool.and_eq_true,Nat.beq_eq]at hb;obtain⟨rfl,rfl⟩:=hb;obtain⟨hob,hk⟩:=hd;obtain⟨hb1,hb2⟩:=hob.out;obtain⟨hjN,A,cp,rfl,h2,h3,h4⟩:=Hq.1 hB;have hcj:=(Cf h j _).1 hc
    rcases Nat.eq_zero_or_pos cp with rfl|hcp
    ·have hm0:m=0:=by omega
     have hl0:len=0:=by omega
     subst hm0;subst hl0;have hnil:news=[]:=List.eq_nil_of_length_eq_zero (by rw[hnl,Nat.zero_mul]);subst hnil;refine⟨.slice A 0 0,E,_,_,run_append_nothing E.w t tx ty e i hu hi A 0 0 (Nat.le_refl _) Y hsrc',F6.refl E,hw,hs.replace hcj ?_,Hq.2 ⟨hjN,A,0,rfl,by omega,by omega, .inl rfl⟩,hk⟩
     rcases hs.live j _ hcj with⟨h5,sz0,f0,h6⟩|⟨h5,h6,cs,t',h7,h8,h9⟩
     ·cases h6
      exact .inl ⟨h5,_,_,rfl⟩
     ·refine .inr ⟨h5,h6,cs,t',h7,h8,?_⟩;simp only[R]at h9⊢;intro k hk';rw[if_neg (by omega)];exact h9 k hk'
    ·rcases h4 with h4|⟨hvt,rfl,cs0,t0,fr,hcs0,hbound⟩
     ·omega
     ·rcases hs.live j _ hcj with⟨h5,_⟩|⟨_,hnk,cs,t',hbk,hle,hr⟩
      ·rw[h5]at hvt;cases hvt
      ·simp only[A6]at hle;simp only[R]at hr;have hle':(lo+len+m)*ei.sz≤cs.size:=Nat.le_trans (by rw[Nat.mul_comm ei.sz n];exact Nat.mul_le_mul_right _ hb2) hle;have hfit:(lo+len)*ei.sz+news.length≤cs.size:=by rw[hnl,←Nat.add_mul];exact hle'
       have hoff:Bk []+lo*ei.sz+len*i.size=(lo+len)*ei.sz:=by simp only[Bk,hsz,Nat.add_mul,Nat.zero_add]
       have hrun:=run_append_room_src E.w t tx ty e i hu hi (E.ρ j) (Bk []+lo*ei.sz) len cp Y m news hsrc' (by omega) (fun q hq=>by
        have:E.w.cell? ⟨E.ρ j,Bk []+lo*ei.sz+len*i.size+q,none⟩=cs[(lo+len)*ei.sz+q]?:=by rw[hoff];simp[World.cell?,hbk]
        simp only[this,Array.getElem?_eq_getElem (show(lo+len)*ei.sz+q<cs.size by omega),Option.isSome_some]) (fun q hq=>by simp[World.frozen?,hbk])
       rw[hoff,Ov hbk hfit hsrc.one]at hrun;have hwr:Ek E.w (E.w.setRow (E.ρ j) (Bz cs ((lo+len)*ei.sz) news)) (E.ρ j) (Bz cs ((lo+len)*ei.sz) news) t':=Ek.setRow hbk;have hps:=Id hfit
       have hR:R E (.row ei.sz n fun k=>if lo+len≤k∧k<lo+len+m then g (k - (lo+len))else f k) (fun q=>(Bz cs ((lo+len)*ei.sz) news)[q]?) 0:=by
        simp only[R];intro k hk'
        by_cases hin:lo+len≤k∧k<lo+len+m
        ·rw[if_pos hin];have hkm:k - (lo+len)<m:=by omega
         have h1:(k - (lo+len))*ei.sz+ei.sz≤m*ei.sz:=by rw[←Nat.succ_mul];exact Nat.mul_le_mul_right _ hkm
         have h2:k*ei.sz=(lo+len)*ei.sz+(k - (lo+len))*ei.sz:=by rw[←Nat.add_mul];congr 1;omega
         refine⟨(hg _ hkm).1,Bp (g (k - (lo+len))) _ _ ((k - (lo+len))*ei.sz) _ (fun q hq=>?_) (hg _ hkm).2⟩;rw[(hg _ hkm).1]at hq
         show(Bz cs ((lo+len)*ei.sz) news)[0+k*ei.sz+q]?=_
         rw[Nat.zero_add,h2,Nat.add_assoc,Pu hfit (by omega)]
        ·rw[if_neg hin];refine⟨(hr k hk').1,J2 (fun q h1 h2=>?_) (hr k hk').2⟩;rw[(hr k hk').1]at h2;refine K1 hfit ?_;rw[hnl,←Nat.add_mul]
         rcases Nat.lt_or_ge k (lo+len)with hlt|hge'
         ·have:k*ei.sz+ei.sz≤(lo+len)*ei.sz:=by rw[←Nat.succ_mul];exact Nat.mul_le_mul_right _ hlt
          omega
         ·have:(lo+len+m)*ei.sz≤k*ei.sz:=Nat.mul_le_mul_right _ (by omega)
          omega
       have hz':A6 (.row ei.sz n fun k=>if lo+len≤k∧k<lo+len+m then g (k - (lo+len))else f k)≤(Bz cs ((lo+len)*ei.sz) news).size:=by
        simp only[A6];rw[hps];exact hle
       have hx:=Ek.ext hbk hnk hps hwr;have e1:=hbk.symm.trans hcs0
       injection e1 with e1
       injection e1 with e1 e2 e3
       subst e1;refine⟨_,{E with w:=E.w.setRow (E.ρ j) (Bz cs ((lo+len)*ei.sz) news)},_,_,hrun,hx,Ek.wf hw hwr,Zz hw hs hcj hvt hbk hnk hps hwr hR hz',Hq.2 ⟨hjN,_,cp,rfl,hb1,h3, .inr ⟨hvt,rfl,_,t',(0,0),hwr.here,?_⟩⟩,hk⟩;rw[hps];exact hbound
   ·exact hd.elim
  ·exact hd.elim
 ·exact hd.elim
theorem nU(ht:Bu P tb)(hw:Wf E){h:List (Option V)}(hs:B8 E h){t tx ty:Nat}{Y B:Value}{base y:V}{κ:V→List (Option V)→Prop}(hB:T E base B)(hY:T E y Y)(hd:Kh tb t tx base y h κ):
  Fv E κ ((Builtin.append_ #[t,tx] ty #[B,Y]).run P E.w):=by
 unfold Kh at hd
 split at hd
 ·rename_i e sz by_ z ti hg hgx
  split at hd
  ·rename_i ei hk hge;have hT:=(ht.get hg).td;simp only[Hb]at hT
   split at hT
   ·rename_i e' hu;simp only[beq_iff_eq]at hT;subst hT;obtain⟨m,g,news,hd,hsrc,hR⟩:=Sj ht hw hs hgx hk hd hY
    rcases hd with hd|hd
    ·exact AB6 ht hw hs hu hge hsrc hR hB hd
    ·exact ACl ht hw hs hu hge hsrc hR hB hd
   ·cases hT
  ·exact hd.elim
 ·exact hd.elim
end
def aQ(tb:List (Option TI))(t:Nat)(x:V)(κ:V→Prop):Prop:=
 match Bi tb t with
 |some ⟨.slice _,_,_,_⟩=>
  match x with
  | .sl _ _ _ _ n _=>κ (.int .i64 n)
  | .imm _ _ n _=>κ (.int .i64 n)
  | .emp=>κ (.int .i64 0)
  |_=>False
 |some ⟨.str,_,_,_⟩=>match x with| .str s=>κ (.int .i64 s.length)|_=>False
 |some ⟨.arr n _,_,_,_⟩=>κ (.int .i64 n)
 |some ⟨.ptr a,_,_,_⟩=>match Bi tb a with|some ⟨.arr n _,_,_,_⟩=>κ (.int .i64 n)|_=>False
 |_=>False
def vF(tb:List (Option TI))(t:Nat)(x:V)(κ:V→Prop):Prop:=
 match Bi tb t with
 |some ⟨.slice _,_,_,_⟩=>
  match x with
  | .sl _ _ _ _ _ cap=>∀c:Nat,cap≤c→κ (.int .i64 c)
  | .slx _ _ _ _ cap=>κ (.int .i64 cap)
  | .imm _ _ n _=>∀c:Nat,n≤c→κ (.int .i64 c)
  | .emp=>κ (.int .i64 0)
  |_=>False
 |_=>False
def Mh(mx:Bool)(l:List V)(κ:V→Prop):Prop:=
 match l with
 |[.int k a, .int _ b]=>(match mx with|true=>κ (.int k (max a b))|false=>κ (.int k (min a b)))
 |_=>False
def Jr(x:V)(k:Nat)(κ:V→Prop):Prop:=
 match x with
 | .tup l=>match Nat.blt k l.len with|true=>κ (l.get k)|false=>False
 |_=>False
def Je(x:V)(κ:V→Prop):Prop:=
 match x with
 | .ref .. | .rref .. | .pim .. | .fn .. | .iface .. =>κ x
 |_=>False
def mA(c a b:V)(κ:V→Prop):Prop:=
 match c with
 | .tt=>κ a
 | .ff=>κ b
 | .bool c=>(c=true→κ a)∧(c=false→κ b)
 |_=>False
def J6(tb:List (Option TI))(s d:Nat)(x:V)(κ:V→Prop):Prop:=
 match Bi tb s,Bi tb d with
 |some _,some ⟨.int k,_,_,_⟩=>match x with| .int _ n=>κ (.int k (k.wrap n))|_=>False
 |some _,some ⟨.str,_,_,_⟩=>match x with| .str s=>κ (.str s)|_=>False
 |_,_=>False
def Qj(tb:List (Option TI))(s:Nat)(x:V)(k:Nat)(κ:V→Prop):Prop:=
 match Bi tb s with
 |some ⟨.st fs,_,_,_⟩=>
  match fs[k]? with
  |some (off,ft)=>
   match Bi tb ft with
   |some fi=>
    match x with
    | .st vs=>match Nat.blt k vs.len&&Nat.beq (F2 vs k) off&&Hd fi (vs.get k)with|true=>κ (vs.get k)|false=>False
    |_=>False
   |none=>False
  |none=>False
 |_=>False
def O3(tb:List (Option TI))(t:Nat)(x ix:V)(κ:V→Prop):Prop:=
 match ix with
 | .int _ n=>
  match Bi tb t with
  |some ⟨.arr m e,_,_,_⟩=>
   match Bi tb e with
   |some ei=>
    match x with
    | .row sz m' f=>match Nat.beq ei.sz sz&&Nat.beq m' m with|true=>Ob (0≤n∧n<m)∧(match Hd ei (f n.toNat)with|true=>κ (f n.toNat)|false=>False)|false=>False
    |_=>False
   |none=>False
  |some ⟨.str,_,_,_⟩=>match x with| .str s=>Ob (0≤n∧n<s.length)∧κ (.int .u8 ((s.getD n.toNat 0).toNat))|_=>False
  |_=>False
 |_=>False
def I4(tb:List (Option TI))(t:Nat)(x:V)(κ:V→Prop):Prop:=
 match Bi tb t with
 |some ⟨.arr m e,_,_,_⟩=>
  match Bi tb e with
  |some ei=>
   match x with
   | .sl j p sz lo len _=>match Nat.beq ei.sz sz&& !Nat.beq m 0 with|true=>Ob (m≤len)∧κ (.rref j p sz lo m)|false=>False
   | .imm b sz n f=>match Nat.beq ei.sz sz&& !Nat.beq m 0 with|true=>Ob (m≤n)∧κ (.pim b (.row sz m f))|false=>False
   |_=>False
  |none=>False
 |_=>False
def Dc(tb:List (Option TI))(t:Nat)(x:V)(κ:V→Prop):Prop:=
 match Bi tb t with
 |some ⟨.iface,_,_,_⟩=>False
 |some ⟨.other,_,_,_⟩=>False
 |some i=>match Hd i x with|true=>κ (.iface t x)|false=>False
 |none=>False
def eE:List V→Bool|[]=>true|v::l=>v.one&&eE l
def Hv(f:Fn)(first caps:List V)(κ:V→Prop):Prop:=
 match f,first with
 | .func n,[]=>(match eE caps with|true=>κ (.fn n (Vs.of caps))|false=>False)
 |_,_=>False
section
variable {P:Program} {t:Nat}
theorem F8.int{k:IntKind}{a b:Nat}{z:V}(h:F8 P t ⟨.int k,a,b,z⟩):P.underlying t=some (.int k):=by
 have:=h.td
 simp only[Hb]at this
 split at this
 ·rename_i k' hu;rw[hu,eq_of_beq this]
 ·cases this
theorem F8.str{a b:Nat}{z:V}(h:F8 P t ⟨.str,a,b,z⟩):P.underlying t=some .string:=by
 have:=h.td
 simp only[Hb]at this
 split at this
 ·assumption
 ·cases this
theorem F8.ptr{e a b:Nat}{z:V}(h:F8 P t ⟨.ptr e,a,b,z⟩):P.underlying t=some (.pointer e):=by
 have:=h.td
 simp only[Hb]at this
 split at this
 ·rename_i k' hu;rw[hu,eq_of_beq this]
 ·cases this
theorem F8.slice{e a b:Nat}{z:V}(h:F8 P t ⟨.slice e,a,b,z⟩):P.underlying t=some (.slice e):=by
 have:=h.td
 simp only[Hb]at this
 split at this
 ·rename_i k' hu;rw[hu,eq_of_beq this]
 ·cases this
theorem F8.arr{n e a b:Nat}{z:V}(h:F8 P t ⟨.arr n e,a,b,z⟩):P.underlying t=some (.array n e):=by
 have:=h.td
 simp only[Hb]at this
 split at this
 ·rename_i n' e' hu;simp only[Bool.and_eq_true,beq_iff_eq]at this;rw[hu,this.1,this.2]
 ·cases this
theorem F8.st{fs:List (Nat×Nat)}{a b:Nat}{z:V}(h:F8 P t ⟨.st fs,a,b,z⟩):∃gs,P.underlying t=some (.struct gs)∧gs.toList.map (fun f=>(f.offset,f.type))=fs∧∀f∈gs.toList,(P.info? f.type).isSome=true:=by
 have:=h.td
 simp only[Hb]at this
 split at this
 ·rename_i gs hu;simp only[Bool.and_eq_true,beq_iff_eq,List.all_eq_true]at this;exact⟨gs,hu,this.1,this.2⟩
 ·cases this
end
section
variable {P:Program} {tb:List (Option TI)} {E:Env}
theorem AHm(ht:Bu P tb){t ty:Nat}{x:V}{X:Value}{κ:V→Prop}(hl:aQ tb t x κ)(hx:T E x X):Di E κ ((Builtin.len_ #[t] ty #[X]).run P E.w):=by
 unfold aQ at hl
 split at hl
 ·rename_i e _ _ _ hg;have hu:=(ht.get hg).slice;have key:∀A n c,(Builtin.len_ #[t] ty #[.slice A n c]).run P E.w= .ok (.int .i64 n) E.w:=fun A n c=>by simp[Builtin.len_,run_underlying hu,goInt]
  split at hl
  ·obtain⟨_,a,cp,rfl,_⟩:=Hq.1 hx;exact .mk _ _ (key _ _ _) (Bb.2 rfl) hl
  ·obtain⟨a,cp,rfl,_⟩:=Ej.1 hx;exact .mk _ _ (key _ _ _) (Bb.2 rfl) hl
  ·obtain⟨a,rfl⟩:=Jj.1 hx;exact .mk _ _ (key _ _ _) (Bb.2 rfl) hl
  ·exact hl.elim
 ·rename_i _ _ _ hg;have hu:=(ht.get hg).str
  split at hl
  ·rename_i s;rw[I2]at hx;subst hx;refine .mk _ _ ?_ (Bb.2 rfl) hl;have hsz:(⟨s.toArray⟩:ByteArray).size=s.length:=rfl
   generalize(⟨s.toArray⟩:ByteArray)=b at hsz
   simp[Builtin.len_,run_underlying hu,goInt,hsz]
  ·exact hl.elim
 ·rename_i n e _ _ _ hg;have hu:=(ht.get hg).arr;refine .mk _ _ ?_ (Bb.2 rfl) hl;simp[Builtin.len_,run_underlying hu,goInt]
 ·rename_i a _ _ _ hg;have hu:=(ht.get hg).ptr
  split at hl
  ·rename_i n e _ _ _ hg';have hu':=(ht.get hg').arr;refine .mk _ _ ?_ (Bb.2 rfl) hl;simp[Builtin.len_,run_underlying hu,run_underlying hu',goInt]
  ·exact hl.elim
 ·exact hl.elim
theorem AEp(ht:Bu P tb){t ty:Nat}{x:V}{X:Value}{κ:V→Prop}(hl:vF tb t x κ)(hx:T E x X):Di E κ ((Builtin.cap_ #[t] ty #[X]).run P E.w):=by
 unfold vF at hl
 split at hl
 ·rename_i e _ _ _ hg;have hu:=(ht.get hg).slice;have key:∀A n c,(Builtin.cap_ #[t] ty #[.slice A n c]).run P E.w= .ok (.int .i64 c) E.w:=fun A n c=>by simp[Builtin.cap_,run_underlying hu,goInt]
  split at hl
  ·obtain⟨_,a,cp,rfl,_,h,_⟩:=Hq.1 hx;exact .mk _ _ (key _ _ _) (Bb.2 rfl) (hl _ h)
  ·obtain⟨_,a,rfl,_⟩:=R1.1 hx;exact .mk _ _ (key _ _ _) (Bb.2 rfl) hl
  ·obtain⟨a,cp,rfl,h,_⟩:=Ej.1 hx;exact .mk _ _ (key _ _ _) (Bb.2 rfl) (hl _ h)
  ·obtain⟨a,rfl⟩:=Jj.1 hx;exact .mk _ _ (key _ _ _) (Bb.2 rfl) hl
  ·exact hl.elim
 ·exact hl.elim
theorem Yf{mx:Bool}{ts:Array TypeId}{ty:Nat}{x y:V}{X Y:Value}{κ:V→Prop}(hl:Mh mx [x,y] κ)(hx:T E x X)(hy:T E y Y):
  Di E κ (match mx with|true=>(Builtin.max_ ts ty #[X,Y]).run P E.w|false=>(Builtin.min_ ts ty #[X,Y]).run P E.w):=by
 unfold Mh at hl
 split at hl
 ·rename_i k a k' b he;simp only[List.cons.injEq,and_true]at he;obtain⟨rfl,rfl⟩:=he;rw[Bb]at hx hy;subst hx;subst hy
  cases mx
  ·exact .mk _ _ (Lib.run_min_ints _ _ _ _ _ _ _) (Bb.2 rfl) hl
  ·exact .mk _ _ (Lib.run_max_ints _ _ _ _ _ _ _) (Bb.2 rfl) hl
 ·exact hl.elim
theorem kA{x:V}{X:Value}{k:Nat}{κ:V→Prop}(hl:Jr x k κ)(hx:T E x X):Di E κ ((Instr.extract X k).run P E.w):=by
 unfold Jr at hl
 split at hl
 ·rename_i l
  split at hl
  ·rename_i hlt;obtain⟨xs,rfl,hs,h⟩:=hx;simp only[Nat.blt_eq]at hlt;obtain⟨y,hy⟩:∃y,xs[k]?=some y:=⟨_,Array.getElem?_eq_getElem (by omega)⟩;refine .mk y (l.get k) (by simp[Instr.extract,hy]) ?_ hl
   have:=h k y hy
   generalize l.get k=u at this⊢
   cases u<;>first|trivial|exact this.2|simp[V.isTup]at this
  ·exact hl.elim
 ·exact hl.elim
theorem gQ{o:Oper}{a:Act}{xo:Operand}(ho:o.op= .nilCheck xo){x:V}{κ:V→Prop}(hl:Je x κ)(hx:T E x (a.eval xo)):
  (execOp a.eval o).run P E.w= .ok (.value (a.eval xo)) E.w∧κ x:=by
 have key:∀X,X=a.eval xo→(match X with| .pointer none| .nilIface| .nilFunc=>False| .func (.method _) _ _=>False|_=>True)→(execOp a.eval o).run P E.w= .ok (.value (a.eval xo)) E.w:=by
  intro X hX hm;unfold execOp;rw[ho];simp only[←hX]
  cases X with
  |pointer A=>cases A<;>first|exact hm.elim|rfl
  |func f x y=>cases f<;>first|exact hm.elim|rfl
  |_=>first|exact hm.elim|rfl
 unfold Je at hl
 split at hl
 ·exact⟨key _ (I1.1 hx).2.symm trivial,hl⟩
 ·exact⟨key _ (X4.1 hx).2.symm trivial,hl⟩
 ·obtain⟨b,off,h,_⟩:=Kf.1 hx;exact⟨key _ h.symm trivial,hl⟩
 ·obtain⟨xs,h,_⟩:=vA.1 hx;exact⟨key _ h.symm trivial,hl⟩
 ·obtain⟨y,h,_⟩:=dY.1 hx;exact⟨key _ h.symm trivial,hl⟩
 ·exact hl.elim
theorem Xk(ht:Bu P tb){s d:Nat}{x:V}{X:Value}{κ:V→Prop}(hl:J6 tb s d x κ)(hx:T E x X):Di E κ ((convert s d X).run P E.w):=by
 unfold J6 at hl
 split at hl
 ·rename_i i k _ _ _ hg hg';obtain⟨e,hu,_⟩:=(ht.get hg).isAgg;have hu':=(ht.get hg').int
  split at hl
  ·rw[Bb]at hx;subst hx;refine .mk _ _ ?_ (Bb.2 rfl) hl;simp[convert,run_underlying hu,run_underlying hu',Conv.intToInt]
  ·exact hl.elim
 ·rename_i i _ _ _ hg hg';obtain⟨e,hu,_⟩:=(ht.get hg).isAgg;have hu':=(ht.get hg').str
  split at hl
  ·rw[I2]at hx;subst hx;refine .mk _ _ ?_ (I2.2 rfl) hl
   cases e<;>simp[convert,run_underlying hu,run_underlying hu']
  ·exact hl.elim
 ·exact hl.elim
theorem tM(ht:Bu P tb){t:Nat}{i:TI}(hg:Bi tb t=some i){v:V}(hf:Hd i v=true){cs:Array Value}{o:Nat}(hr:R E v (fun q=>cs[q]?) o):
  ∃x,(part t cs o).run P E.w= .ok x E.w∧T E v x:=by
 have hty:=ht.get hg;obtain⟨d,hu,hd⟩:=hty.isAgg;obtain⟨f,z,hi,hsz,_⟩:=hty.info
 by_cases hagg:v.isAgg=true
 ·have hs:i.d.isAgg=true∧i.sz=A6 v:=by
   cases v<;>simp_all[Hd,V.isAgg]
  refine⟨.agg (cs.extract o (o+A6 v)),?_,?_⟩
  ·simp[part,Mn hu,hd,hs.1,sizeOf,typeInfo,hi,hsz,hs.2]
  ·have hle:∀q,q<A6 v→(cs.extract o (o+A6 v))[q]?=cs[o+q]?:=fun q hq=>by
    rw[Array.getElem?_extract];obtain⟨x,h1,_⟩:=Nl v _ o q hr hq;have h2:=(Array.getElem?_eq_some_iff.1 h1).1;rw[if_pos (by omega)]
   refine J3 hagg ?_ (Bp v _ _ o 0 (fun q hq=>?_) hr)
   ·rw[Array.size_extract]
    by_cases h0:A6 v=0
    ·omega
    ·obtain⟨x,h1,_⟩:=Nl v _ o (A6 v - 1) hr (by omega);have h2:=(Array.getElem?_eq_some_iff.1 h1).1;omega
   ·simpa using hle q hq
 ·have hone:v.one=true∧i.d.isAgg=false:=by
   cases v<;>simp_all[Hd,V.isAgg,V.one]
  have hz:A6 v=1:=by cases v<;>simp_all[V.one,A6]
  obtain⟨x,h1,h2⟩:=Nl v _ o 0 hr (by omega);refine⟨x,?_,Ik hone.1 h2 (Bp v _ _ o 0 (fun q hq=>by(obtain rfl:q=0:=by omega);exact h1.symm) hr)⟩
  have hc:cs[o]?=some x:=h1;simp[part,Mn hu,hd,hone.2,hc]
theorem vO(ht:Bu P tb){s:Nat}{x:V}{X:Value}{k:Nat}{κ:V→Prop}(hl:Qj tb s x k κ)(hx:T E x X):Di E κ ((Instr.field s X k).run P E.w):=by
 unfold Qj at hl
 split at hl
 ·rename_i fs _ _ _ hg
  split at hl
  ·rename_i off ft hk
   split at hl
   ·rename_i fi hgf
    split at hl
    ·rename_i vs
     split at hl
     ·rename_i hc;simp only[Bool.and_eq_true,Nat.blt_eq,Nat.beq_eq]at hc;obtain⟨⟨h1,h2⟩,h3⟩:=hc;obtain⟨cs,rfl,_,hr⟩:=Nm rfl hx;simp only[R]at hr;have hr':=Sv vs k _ 0 h1 hr;rw[h2,Nat.zero_add]at hr';obtain⟨gs,hu,hgs,_⟩:=(ht.get hg).st;obtain⟨y,h4,h5⟩:=tM ht hgf h3 hr';refine .mk y _ ?_ h5 hl
      have hf:∃f,gs[k]?=some f∧f.offset=off∧f.type=ft:=by
       have:=hk
       rw[←hgs]at this;simp only[List.getElem?_map,Option.map_eq_some_iff,Prod.mk.injEq]at this;obtain⟨f,h6,h7,h8⟩:=this;exact⟨f,by simpa using h6,h7,h8⟩
      obtain⟨f,h6,h7,h8⟩:=hf;simp only[Instr.field,Sem.run_bind,run_underlying hu,Result.andThen_ok,h6,h7,h8,asAgg,Sem.run_pure];exact h4
     ·exact hl.elim
    ·exact hl.elim
   ·exact hl.elim
  ·exact hl.elim
 ·exact hl.elim
theorem vX(ht:Bu P tb){t:Nat}{x ix:V}{X I:Value}{κ:V→Prop}(hl:O3 tb t x ix κ)(hx:T E x X)(hi:T E ix I):Di E κ ((Instr.index t X I).run P E.w):=by
 unfold O3 at hl
 split at hl
 ·rename_i k n;rw[Bb]at hi;subst hi
  split at hl
  ·rename_i m e _ _ _ hg;have hu:=(ht.get hg).arr
   split at hl
   ·rename_i ei hge
    split at hl
    ·rename_i sz m' f
     split at hl
     ·rename_i hc;simp only[Bool.and_eq_true,Nat.beq_eq]at hc;obtain⟨hsz,rfl⟩:=hc;obtain⟨⟨⟨h0,h1⟩⟩,hl⟩:=hl
      split at hl
      ·rename_i hfit;obtain⟨cs,rfl,_,hr⟩:=Nm rfl hx;simp only[R]at hr;have hr':=(hr n.toNat (by omega)).2;rw[Nat.zero_add]at hr';obtain⟨y,h4,h5⟩:=tM ht hge hfit hr';refine .mk y _ ?_ h5 hl;obtain⟨fi,z,hi,hfsz,_⟩:=(ht.get hge).info;have hso:(sizeOf e).run P E.w= .ok sz E.w:=by simp[sizeOf,typeInfo,hi,hfsz,hsz]
       simp only[Instr.index,asIntOf,Sem.run_bind,Sem.run_pure,run_underlying hu,Result.andThen_ok,h0,h1,and_self,if_true,hso];exact h4
      ·exact hl.elim
     ·exact hl.elim
    ·exact hl.elim
   ·exact hl.elim
  ·rename_i _ _ _ hg;have hu:=(ht.get hg).str
   split at hl
   ·rename_i s;obtain⟨⟨⟨h0,h1⟩⟩,hl⟩:=hl;rw[I2]at hx;subst hx;refine .mk _ _ ?_ (Bb.2 rfl) hl;have hlt:n.toNat<s.length:=by omega
    have Dx:(⟨s.toArray⟩:ByteArray)[n.toNat]?=some (s.getD n.toNat 0):=by
     have hlt':n.toNat<(⟨s.toArray⟩:ByteArray).size:=hlt;rw[getElem?_pos (⟨s.toArray⟩:ByteArray) n.toNat hlt',List.getD_eq_getElem?_getD,List.getElem?_eq_getElem hlt];rfl
    simp only[Instr.index,asIntOf,Sem.run_bind,Sem.run_pure,run_underlying hu,Result.andThen_ok,h0,if_true,Dx]
   ·exact hl.elim
  ·exact hl.elim
 ·exact hl.elim
theorem AAu{i:TI}{v:V}(h:Hd i v=true):v.isAgg=i.d.isAgg∧v.isTup=false∧(∀E x,T E v x→Cu v x∧R E v (fun q=>x.cells[q]?) 0):=by
 cases v<;>simp_all[Hd,V.isAgg,V.isTup]<;>exact fun E x h=>h
theorem S0(ht:Bu P tb){t:Nat}{x:V}{X:Value}{κ:V→Prop}(hl:Dc tb t x κ)(hx:T E x X):Di E κ ((Instr.makeInterface t X).run P E.w):=by
 unfold Dc at hl
 split at hl
 ·exact hl.elim
 ·exact hl.elim
 ·rename_i i hn hn' hg
  split at hl
  ·rename_i hfit;have hT:=(ht.get hg).td
   have hu:∃d,P.underlying t=some d∧∀ms,d≠ .interface ms:=by
    cases i with
    |mk d a b z=>
     cases d<;>simp only[Hb]at hT<;>first
      |(exact absurd rfl (hn _ _ _))|(exact absurd rfl (hn' _ _ _))
      |(split at hT<;>first|exact⟨_,‹_›,by simp⟩|cases hT)
      |cases hT
   obtain⟨d,hu,hd⟩:=hu;refine .mk _ _ ?_ (dY.2 ⟨X,rfl,(AAu hfit).2.2 E X hx⟩) hl
   cases d<;>first|(exact absurd rfl (hd _))|simp[Instr.makeInterface,run_underlying hu]
  ·exact hl.elim
 ·exact hl.elim
theorem jG(ht:Bu P tb){t:Nat}{x:V}{X:Value}{κ:V→Prop}(hl:I4 tb t x κ)(hx:T E x X):Di E κ ((Instr.arrayAt t X).run P E.w):=by
 unfold I4 at hl
 split at hl
 ·rename_i m e _ _ _ hg;have hu:=(ht.get hg).arr
  split at hl
  ·rename_i ei hge
   split at hl
   ·rename_i j p sz lo len cap
    split at hl
    ·rename_i hc;simp only[Bool.and_eq_true,Nat.beq_eq,Bool.not_eq_true']at hc;obtain⟨⟨hle⟩,hl⟩:=hl;obtain⟨hj,A,cp,rfl,h1,h2,h3⟩:=Hq.1 hx;have hm:m≠0:=fun e=>by simp[e]at hc
     rcases h3 with h3|⟨_,rfl,_⟩
     ·omega
     ·exact .mk _ _ (run_arrayAt E.w t e m _ len cp hu hle) (X4.2 ⟨hj,rfl⟩) hl
    ·exact hl.elim
   ·rename_i b sz n f
    split at hl
    ·rename_i hc;simp only[Bool.and_eq_true,Nat.beq_eq,Bool.not_eq_true']at hc;obtain⟨⟨hle⟩,hl⟩:=hl;have hm:m≠0:=fun e=>by simp[e]at hc
     obtain⟨A,cp,rfl,h1,h2⟩:=Ej.1 hx
     rcases h2 with h2|⟨bb,off,rfl,h4,h5⟩
     ·omega
     ·exact .mk _ _ (run_arrayAt E.w t e m _ n cp hu hle) (Kf.2 ⟨bb,off,rfl,h4,by simp only[R];exact fun k hk=>h5 k (by omega)⟩) hl
    ·exact hl.elim
   ·exact hl.elim
  ·exact hl.elim
 ·exact hl.elim
end
def Gd(tb:List (Option TI))(t:Nat)(l c:V)(h:List (Option V))(κ:V→List (Option V)→Prop):Prop:=
 match Bi tb t with
 |some ⟨.slice e,_,_,_⟩=>
  match Bi tb e with
  |some ei=>
   match l,c with
   | .int _ a, .int _ b=>Ob (0≤a∧a≤b∧ei.by_*b≤281474976710656∧b≤9223372036854775807)∧κ (.sl (Ar h) [] ei.sz 0 a.toNat b.toNat) (C2 h (.row ei.sz b.toNat fun _=>ei.z))
   |_,_=>False
  |none=>False
 |_=>False
section
variable {P:Program} {tb:List (Option TI)} {E:Env}
theorem Ss{z:V}{zc:Array Value}{sz n:Nat}(h1:zc.size=sz)(h2:A6 z=sz)(hr:R E z (fun q=>zc[q]?) 0):R E (.row sz n fun _=>z) (fun q=>((Array.range (n*sz)).map (zc[·%zc.size]!))[q]?) 0:=by
 simp only[R];intro k hk;refine⟨h2,Bp z _ _ 0 (0+k*sz) (fun q hq=>?_) hr⟩;have hq':q<sz:=by omega
 have hle:k*sz+sz≤n*sz:=by rw[←Nat.succ_mul];exact Nat.mul_le_mul_right _ hk
 have hlt:k*sz+q<n*sz:=by omega
 have hmod:(k*sz+q)%zc.size=q:=by rw[h1,Nat.mul_comm,Nat.mul_add_mod,Nat.mod_eq_of_lt hq']
 have hzq:zc[q]?=some zc[q]:=Array.getElem?_eq_getElem (by omega);simp only[Nat.zero_add];rw[hzq,Array.getElem?_map,Array.getElem?_range];simp only[hlt,if_true,Option.map_some,hmod];rw[getElem!_pos zc q (by omega)]
theorem O9 (hw:Wf E) {h:List (Option V)} (hs:B8 E h) {e sz len cap:Nat} {f:Nat→V} {cells:Array Value} {r:Result Value} (hr:r= .ok (.slice (some ⟨E.w.heap.size,0,none⟩) len cap) (E.w.alloc (.cells cells e))) (hle:len≤cap)
  (hc:cells.size=cap*sz) (hR:R E (.row sz cap f) (fun q=>cells[q]?) 0) {κ:V→List (Option V)→Prop} (hk:κ (.sl (Ar h) [] sz 0 len cap) (C2 h (.row sz cap f))):Fv E κ r:=by
 obtain⟨g1,g2,g3⟩:=Tg (t:=e) hw hs hR (by simp only[A6];rw[hc,Nat.mul_comm];exact Nat.le_refl _);refine⟨_,E.alloc (.cells cells e),_,_,hr,g1,g2,g3,Hq.2 ⟨?_,some ⟨E.w.heap.size,0,none⟩,cap,rfl,hle,Nat.le_refl _, .inr ⟨?_,?_,cells,e,(0,0),?_,?_⟩⟩,hk⟩
 ·rw[Az,hs.len];simp[Env.alloc]
 ·rw[Az,hs.len];simp[Env.alloc]
 ·rw[Az,hs.len];simp[Env.alloc,Bk]
 ·rw[Az,hs.len];simp only[Env.alloc,if_true];exact World.heap_alloc_new _ _
 ·simp[Bk,hc]
theorem F8.zcells{t:Nat}{i:TI}(hty:F8 P t i):∃f z,P.info? t=some f∧f.size=i.sz∧f.bytes=i.by_∧f.zero=some z∧z.cells.size=i.sz∧R E i.z (fun q=>z.cells[q]?) 0:=by
 obtain⟨f,z,hi,h1,h2,hz,hT,hzs⟩:=hty.info;have hc:=dX (E:=E) (v:=i.z) (x:=z) (by rw[hty.agg,hty.one];cases i.d.isAgg<;>rfl) (hT E);exact⟨f,z,hi,h1,h2,hz,hzs,hc.2⟩
theorem aU(ht:Bu P tb)(hw:Wf E){h:List (Option V)}(hs:B8 E h){t:Nat}{l c:V}{L C:Value}{κ:V→List (Option V)→Prop}(hl:Gd tb t l c h κ)(hL:T E l L)(hC:T E c C):Fv E κ ((Instr.makeSlice t L C).run P E.w):=by
 unfold Gd at hl
 split at hl
 ·rename_i e _ _ _ hg
  split at hl
  ·rename_i ei hge
   split at hl
   ·rename_i ka a kb b;rw[Bb]at hL hC;subst hL;subst hC;obtain⟨⟨h0,h1,h2,h3⟩,hk⟩:=hl;obtain⟨f,z,hi,hsz,hby,hz,hzs,hr⟩:=(ht.get hge).zcells (E:=E);refine O9 hw hs (run_make (P:=P) E.w t e f z (ht.get hg).slice hi hz ka kb a b h0 h1 (by rw[hby];exact h2) h3) (by omega) ?_ ?_ hk
    ·rw[size_madeCells,hsz]
    ·rw[hsz];exact Ss hzs (ht.get hge).size hr
   ·exact hl.elim
  ·exact hl.elim
 ·exact hl.elim
theorem Xb(ht:Bu P tb)(hw:Wf E){h:List (Option V)}(hs:B8 E h){t n:Nat}{parts:List (Nat×V)}{ps:Array (Nat×Value)}{κ:V→List (Option V)→Prop}(hp:Ii E parts ps.toList)(hl:El tb t n parts h κ):
  Fv E κ ((Instr.buildSlice t n ps).run P E.w):=by
 unfold El at hl
 split at hl
 ·rename_i e _ _ _ hg
  split at hl
  ·rename_i ei hge
   split at hl
   ·rename_i hc;simp only[Bool.and_eq_true,Nat.ble_eq]at hc;obtain⟨hfr,hsmall⟩:=hc;obtain⟨f,z,hi,hsz,hby,hz,hzs,hr⟩:=(ht.get hge).zcells (E:=E);have hu:=(ht.get hg).slice
    by_cases h0:n*ei.sz=0
    ·have hfill:∃cells,Instr.fill (fun i=>some (i*ei.sz,ei.sz)) ((Array.range (n*ei.sz)).map ((#[]:Array Value)[·%(#[]:Array Value).size]!)) ps.toList=some cells∧cells.size=n*ei.sz∧R E (.row ei.sz n fun k=>Fs parts.reverse k ei.z) (fun q=>cells[q]?) 0:=by
      have hR0:R E (.row ei.sz n fun _=>ei.z) (fun q=>((Array.range (n*ei.sz)).map ((#[]:Array Value)[·%(#[]:Array Value).size]!))[q]?) 0:=by
       simp only[R];intro k hk;refine⟨(ht.get hge).size,Bp ei.z _ _ 0 _ (fun q hq=>?_) hr⟩;rw[(ht.get hge).size]at hq
       rcases Nat.mul_eq_zero.1 h0 with h|h
       ·omega
       ·omega
      obtain⟨cells,e1,e2,e3⟩:=Rm ht hge parts ps.toList (fun _=>ei.z) _ hp hfr (by simp[Nat.mul_comm]) hR0;exact⟨cells,e1,by rw[e2];simp,e3⟩
     obtain⟨cells,e1,e2,e3⟩:=hfill;refine O9 hw hs (e:=e) (cells:=cells) ?_ (Nat.le_refl _) e2 e3 hl;have hbig:¬16777216<n*ei.sz:=by omega
     have e1':Instr.fill (fun i=>some (i*ei.sz,ei.sz)) #[] ps.toList=some cells:=by rw[←e1,h0,Array.range_zero'];simp
     simp[Instr.buildSlice,run_underlying hu,sizeOf,typeInfo,hi,hsz,h0,newRow,Array.range_zero',e1']
    ·have hR0:=Ss (E:=E) (n:=n) hzs (ht.get hge).size hr;obtain⟨cells,e1,e2,e3⟩:=Rm ht hge parts ps.toList (fun _=>ei.z) _ hp hfr (by simp[Nat.mul_comm]) hR0;refine O9 hw hs (e:=e) (cells:=cells) (run_buildSlice (P:=P) E.w t e n ps cells f z hu hi hz (by rw[hsz];omega) (by rw[hsz];exact h0) ?_) (Nat.le_refl _) (by rw[e2];simp) e3 hl;rw[hsz];exact e1
   ·exact hl.elim
  ·exact hl.elim
 ·exact hl.elim
end
def Mr(y:V)(n:Nat):V:=
 match y with
 | .imm l sz m g=> .imm l sz (min m n) g
 | .sl j p sz lo m cap=> .sl j p sz lo (min m n) cap
 | .str s=> .str (s.take n)
 | .emp=> .emp
 |_=> .any
def Um(tb:List (Option TI))(t tx:Nat)(x y:V)(h:List (Option V))(κ:V→List (Option V)→Prop):Prop:=
 match Bi tb t,Bi tb tx with
 |some ⟨.slice e,_,_,_⟩,some ti=>
  match ti.d.srcOk,Bi tb e with
  |true,some ei=>
   match x with
   | .sl i p sz lo len _=>Lb ei.sz (Mr y len) h fun m g=>
    match Dx h i with
    |some c=>Wg c p (match sub c p with
     | .row sz' n f=>match Nat.beq sz ei.sz&&Nat.beq sz' ei.sz with
      |true=>Ob (lo+len≤n)∧κ (.int .i64 (m:Nat)) (h.set i (some (qI c p (.row sz n fun k=>if lo≤k∧k<lo+m then g (k - lo)else f k))))
      |false=>False
     |_=>False)
    |none=>False
   | .emp=>Lb ei.sz (Mr y 0) h fun m g=>κ (.int .i64 0) h
   |_=>False
  |_,_=>False
 |_,_=>False
section
variable {P:Program} {tb:List (Option TI)} {E:Env}
theorem gS{sz:Nat}{f:Nat→V}{p:List E8}(h:iU (.row sz 0 f) p):p=[]:=by
 cases p with
 |nil=>rfl
 |cons s p=>
  rcases Gl h with⟨l,k,off,he,_⟩|⟨sz',n,f',k,he,_,hkn,_⟩
  ·cases he
  ·cases he;omega
theorem mW{y:V}{Y:Value}{n sz:Nat}(hy:T E y Y)(hn:Mr y n≠ .any):∃Y' m0,T E (Mr y n) Y'∧(∀w,(Builtin.lenOf Y).run P w= .ok m0 w)∧(∀w,(Builtin.lenOf Y').run P w= .ok (min m0 n) w)∧
  (sz=1∨(∀s,y≠ .str s)→∀w,(Builtin.firstCells sz (min m0 n) Y).run P w=(Builtin.firstCells sz (min m0 n) Y').run P w):=by
 unfold Mr at hn⊢
 split at hn<;>first|exact absurd rfl hn|skip
 ·rename_i l sz' m g;obtain⟨A,cp,rfl,h1,h2⟩:=Ej.1 hy;refine⟨_,_,Ej.2 ⟨A,cp,rfl,by omega,?_⟩,fun w=>rfl,fun w=>rfl,fun _ w=>by cases A<;>rfl⟩
  by_cases h0:min m n=0
  ·exact .inl h0
  ·rcases h2 with h2|⟨b,off,h3,h4,h5⟩
   ·omega
   ·exact .inr ⟨b,off,h3,h4,fun k hk=>h5 k (by omega)⟩
 ·obtain⟨h0,A,cp,rfl,h1,h2,h3⟩:=Hq.1 hy;exact⟨_,_,Hq.2 ⟨h0,A,cp,rfl,by omega,h2,h3⟩,fun w=>rfl,fun w=>rfl,fun _ w=>by cases A<;>rfl⟩
 ·rename_i s;obtain rfl:=I2.1 hy;refine⟨_,s.length,I2.2 rfl,fun w=>by simp[Builtin.lenOf,ByteArray.size],fun w=>by simp[Builtin.lenOf,ByteArray.size,Nat.min_comm],fun _ w=>?_⟩;simp only[Builtin.firstCells,Sem.run_pure]
  congr 2
  simp only[ByteArray.data_extract]
  apply Array.ext'
  simp[List.take_take,Nat.min_comm]
 ·obtain⟨A,rfl⟩:=Jj.1 hy;exact⟨_,0,Jj.2 ⟨A,rfl⟩,fun w=>rfl,fun w=>by simp[Builtin.lenOf],fun _ w=>rfl⟩
theorem zF(ht:Bu P tb)(hw:Wf E){h:List (Option V)}(hs:B8 E h){t tx ty:Nat}{x y:V}{X Y:Value}{κ:V→List (Option V)→Prop}(hd:Um tb t tx x y h κ)(hx:T E x X)(hy:T E y Y):
  Fv E κ ((Builtin.copy_ #[t,tx] ty #[X,Y]).run P E.w):=by
 unfold Um at hd
 split at hd
 ·rename_i e sz by_ z ti hg hgx
  split at hd
  ·rename_i ei hk hge;have hu:=(ht.get hg).slice;obtain⟨fi,zv,hi,hsz,_⟩:=(ht.get hge).info;have hso:∀w,(sizeOf e).run P w= .ok ei.sz w:=fun w=>by simp[sizeOf,typeInfo,hi,hsz]
   split at hd
   ·rename_i i p sz' lo len cap;have hnany:Mr y len≠ .any:=fun e=>by rw[e]at hd;simp[Lb]at hd
    obtain⟨Y',m0,hT',hl0,hl1,hf⟩:=mW (P:=P) (sz:=ei.sz) (n:=len) hy hnany
    have hs1:ei.sz=1∨(∀s,y≠ .str s):=by
     by_cases hstr:∃s,y= .str s
     ·obtain⟨s,rfl⟩:=hstr;simp only[Mr,Lb]at hd
      split at hd
      ·rename_i hb;simp only[Nat.beq_eq]at hb;exact .inl hb
      ·exact hd.elim
     ·exact .inr fun s hs=>hstr ⟨s,hs⟩
    obtain⟨m,g,news,hd,hsrc,hR⟩:=Sj ht hw hs hgx hk hd hT'
    have hm:m=min m0 len:=by
     have h1:=hsrc.len E.w;rw[hl1]at h1
     injection h1 with h1
     exact h1.symm
    subst hm
    split at hd
    ·rename_i c hc;obtain⟨hp,hk⟩:=F1 p c _ hd
     split at hk
     ·rename_i sz'' n f hsub
      split at hk
      ·rename_i hb;simp only[Bool.and_eq_true,Nat.beq_eq]at hb;obtain⟨rfl,rfl⟩:=hb;obtain⟨⟨hob⟩,hk⟩:=hk;obtain⟨hiN,A,cp,rfl,h2,h3,h4⟩:=Hq.1 hx;have hci:=(Cf h i c).1 hc;have hcells:(Builtin.firstCells ei.sz (min m0 len) Y).run P E.w= .ok news.toArray E.w:=(hf hs1 E.w).trans hsrc.cells
       have hrun:∀(st:Nat) (w':World),(match A with|some a=>(storeCells a news).run P E.w= .ok () w'|none=>w'=E.w)→(Builtin.copy_ #[t,tx] ty #[.slice A len cp,Y]).run P E.w= .ok (.int .i64 (min m0 len:Nat)) w':=fun _ w' hst=>by
        cases A with
        |none=>
         simp only at hst;subst hst;simp[Builtin.copy_,run_underlying hu,hl0,hso,hcells,goInt]
        |some a=>
         simp only at hst;simp[Builtin.copy_,run_underlying hu,hl0,hso,hcells,hst,goInt]
       rcases hs.live i c hci with⟨hvt,sz0,f0,rfl⟩|⟨hvt,hnk,cs,t',hbk,hle,hr⟩
       ·have hpn:=gS hp;subst hpn;simp only[sub,V.row.injEq]at hsub;obtain⟨rfl,rfl,rfl⟩:=hsub
        have hcp:cp=0:=by
         rcases h4 with h4|⟨h4,_⟩
         ·exact h4
         ·rw[hvt]at h4;cases h4
        have hl:len=0:=by omega
        subst hl;have hnil:news=[]:=List.eq_nil_of_length_eq_zero (by rw[hsrc.newsLen];simp);subst hnil;refine⟨_,E,_,_,hrun 0 E.w (by cases A<;>simp[storeCells]),F6.refl E,hw,hs.replace hci (.inl ⟨hvt,_,_,rfl⟩),Bb.2 rfl,hk⟩
       ·have hfits:=K5 p c hp E _ 0 hr;rw[hsub]at hfits;simp only[A6]at hfits;have hrow:=Lf p c _ 0 hp hr;rw[hsub,Nat.zero_add]at hrow;have hnl:news.length=min m0 len*ei.sz:=hsrc.newsLen;have hmn:(lo+min m0 len)*ei.sz≤ei.sz*n:=by rw[Nat.mul_comm ei.sz n];exact Nat.mul_le_mul_right _ (by omega)
        have hfit:Bk p+lo*ei.sz+news.length≤cs.size:=by
         rw[hnl,Nat.add_assoc,←Nat.add_mul];omega
        let cs':=Bz cs (Bk p+lo*ei.sz) news
        have hps:cs'.size=cs.size:=Id hfit
        have hnewrow:R E (.row ei.sz n fun k=>if lo≤k∧k<lo+min m0 len then g (k - lo)else f k) (fun q=>cs'[q]?) (0+Bk p):=by
         simp only[R]at hrow⊢;intro k hk';rw[Nat.zero_add]
         by_cases hin:lo≤k∧k<lo+min m0 len
         ·rw[if_pos hin];have hkm:k - lo<min m0 len:=by omega
          have h1:(k - lo)*ei.sz+ei.sz≤min m0 len*ei.sz:=by rw[←Nat.succ_mul];exact Nat.mul_le_mul_right _ hkm
          have h2:k*ei.sz=lo*ei.sz+(k - lo)*ei.sz:=by rw[←Nat.add_mul];congr 1;omega
          refine⟨(hR _ hkm).1,Bp (g (k - lo)) _ _ ((k - lo)*ei.sz) _ (fun q hq=>?_) (hR _ hkm).2⟩;rw[(hR _ hkm).1]at hq
          show(Bz cs (Bk p+lo*ei.sz) news)[Bk p+k*ei.sz+q]?=_
          rw[h2,show Bk p+(lo*ei.sz+(k - lo)*ei.sz)+q=Bk p+lo*ei.sz+((k - lo)*ei.sz+q) by omega,Pu hfit (by omega)]
         ·rw[if_neg hin];refine⟨(hrow k hk').1,J2 (fun q h1 h2=>?_) (hrow k hk').2⟩;rw[(hrow k hk').1]at h2;refine K1 hfit ?_;rw[hnl]
          rcases Nat.lt_or_ge k lo with hlt|hge'
          ·have:k*ei.sz+ei.sz≤lo*ei.sz:=by rw[←Nat.succ_mul];exact Nat.mul_le_mul_right _ hlt
           omega
          ·have h5:(lo+min m0 len)*ei.sz≤k*ei.sz:=Nat.mul_le_mul_right _ (by omega);rw[Nat.add_mul]at h5;omega
        have hupd:=iJ p c (.row ei.sz n fun k=>if lo≤k∧k<lo+min m0 len then g (k - lo)else f k) (fun q=>cs[q]?) (fun q=>cs'[q]?) 0 hp (by rw[hsub];rfl) hr
         (fun q _ _ h5=>K1 hfit (by
           simp only[A6,Nat.zero_add]at h5;rw[hnl]
           rcases h5 with h5|h5
           ·exact .inl (by omega)
           ·right
            rw[Nat.add_assoc,←Nat.add_mul];omega)) hnewrow
        rcases h4 with h4|⟨_,rfl,_⟩
        ·have hl:len=0:=by omega
         subst hl;have hnil:news=[]:=List.eq_nil_of_length_eq_zero (by rw[hnl];simp)
         have hcs:cs'=cs:=by
          apply Array.ext'
          simp[cs',Bz,hnil]
         refine⟨_,E,_,_,hrun 0 E.w (by subst hnil;cases A<;>simp[storeCells]),F6.refl E,hw,hs.replace hci (.inr ⟨hvt,hnk,cs,t',hbk,by rw[hupd.2];exact hle,by have h6:=hupd.1;rw[hcs]at h6;exact h6⟩),Bb.2 rfl,hk⟩
        ·have hst:=run_storeCells_at (P:=P) (E.ρ i) (Bk p+lo*ei.sz) t' news 0 cs E.w hbk (by simpa using hfit) hsrc.one;simp only[Nat.add_zero]at hst;have hwr:Ek E.w (E.w.setRow (E.ρ i) cs') (E.ρ i) cs' t':=Ek.setRow hbk;exact⟨_,{E with w:=E.w.setRow (E.ρ i) cs'},_,_,hrun 0 _ hst,Ek.ext hbk hnk hps hwr,Ek.wf hw hwr,Zz hw hs hci hvt hbk hnk hps hwr hupd.1 (by rw[hupd.2,hps];exact hle),Bb.2 rfl,hk⟩
      ·exact hk.elim
     ·exact hk.elim
    ·exact hd.elim
   ·obtain⟨A,rfl⟩:=Jj.1 hx;have hnany:Mr y 0≠ .any:=fun e=>by rw[e]at hd;simp[Lb]at hd
    obtain⟨Y',m0,hT',hl0,hl1,hf⟩:=mW (P:=P) (sz:=ei.sz) (n:=0) hy hnany
    have hs1:ei.sz=1∨(∀s,y≠ .str s):=by
     by_cases hstr:∃s,y= .str s
     ·obtain⟨s,rfl⟩:=hstr;simp only[Mr,Lb]at hd
      split at hd
      ·rename_i hb;simp only[Nat.beq_eq]at hb;exact .inl hb
      ·exact hd.elim
     ·exact .inr fun s hs=>hstr ⟨s,hs⟩
    obtain⟨m,g,news,hd,hsrc,hR⟩:=Sj ht hw hs hgx hk hd hT'
    have hm:m=min m0 0:=by
     have h1:=hsrc.len E.w;rw[hl1]at h1
     injection h1 with h1
     exact h1.symm
    subst hm;have hnil:news=[]:=List.eq_nil_of_length_eq_zero (by rw[hsrc.newsLen];simp);subst hnil;have hcells:(Builtin.firstCells ei.sz (min m0 0) Y).run P E.w= .ok #[] E.w:=(hf hs1 E.w).trans hsrc.cells;have hcells0:(Builtin.firstCells ei.sz 0 Y).run P E.w= .ok #[] E.w:=by simpa using hcells
    refine⟨.int .i64 0,E,_,_,?_,F6.refl E,hw,hs,Bb.2 rfl,hd⟩
    cases A<;>simp[Builtin.copy_,run_underlying hu,hl0,hso,hcells0,goInt,storeCells]
   ·exact hd.elim
  ·exact hd.elim
 ·exact hd.elim
end
def AD6(v:V):UInt8:=UInt8.ofNat (Fy v).toNat
def bytesOf(n:Nat)(f:Nat→V):List UInt8:=(List.range n).map fun k=>AD6 (f k)
def Y9:V→Prop| .int .u8 n=>0≤n∧n<256|_=>False
def Qh(tb:List (Option TI))(s d:Nat)(x:V)(κ:V→Prop):Prop:=
 match Bi tb s,Bi tb d with
 |some ⟨.str,_,_,_⟩,some ⟨.slice e,_,_,_⟩=>
  match Bi tb e with
  |some ⟨.int .u8,_,_,_⟩=>match x with| .str l=>κ (.imm false 1 l.length fun k=> .int .u8 (l.getD k 0).toNat)|_=>False
  |_=>False
 |_,_=>False
def Nt(tb:List (Option TI))(s d:Nat)(x:V)(h:List (Option V))(κ:V→Prop):Prop:=
 match Bi tb s,Bi tb d with
 |some ⟨.slice e,a,b,c⟩,some ⟨.str,_,_,_⟩=>
  match Bi tb e with
  |some ⟨.int .u8,_,_,_⟩=>match x with
   | .str _=>False
   |x=>Lb 1 x h fun n f=>Ob (∀k,k<n→Y9 (f k))∧κ (.str (bytesOf n f))
  |_=>False
 |_,_=>False
def G4(tb:List (Option TI))(t:Nat)(x:V)(h:List (Option V))(κ:V→List (Option V)→Prop):Prop:=
 match Bi tb t with
 |some ⟨.slice e,_,_,_⟩=>
  match Bi tb e with
  |some ⟨.int .u8,_,_,_⟩=>
   match x with
   | .sl i [] sz lo len _=>
    match Dx h i with
    |some (.row sz' n f)=>match Nat.beq sz sz'&& !Nat.beq n 0 with
     |true=>Ob (lo+len≤n∧len≠0)∧Ob (∀k,k<len→noref' (f (lo+k)))∧κ (.imm false sz len fun k=>f (lo+k)) (h.set i none)
     |false=>False
    |_=>False
   |_=>False
  |_=>False
 |_=>J6 tb t t x fun v=>κ v h
where noref':V→Prop| .int .. | .tt| .ff| .bool _| .str _=>True|_=>False
section
variable {P:Program} {tb:List (Option TI)} {E:Env}
def Env.keep(E:Env)(w':World):Env:={E with w:=w',S:=fun b=>E.S b∨b=E.w.heap.size,K:=fun b=>E.K b∨b=E.w.heap.size}
theorem AHg(hw:Wf E){h:List (Option V)}(hs:B8 E h){w':World}(ho:w'.os=E.w.os)(htp:w'.tape=E.w.tape)(hout:w'.output=E.w.output)(hsz:w'.heap.size=E.w.heap.size+1)(hold:∀b,b<E.w.heap.size→w'.heap[b]?=E.w.heap[b]?):
  F6 E (E.keep w')∧Wf (E.keep w')∧B8 (E.keep w') h:=by
 have hx:F6 E (E.keep w'):={
  os:=ho,tape:=htp,output:=hout,size:=by simp[Env.keep,hsz],N:=Nat.le_refl _,ρ:=fun _ _=>rfl,vt:=fun _ _=>rfl
  S:=fun b hb=> .inl hb
  S':=fun b hb=>hb.imp id fun e hk=>by have:=hw.K b hk;omega
  L:=fun _=>Iff.rfl
  K:=fun b hb=> .inl hb
  kept:=fun b hb=>hold b (hw.K b hb)
  cells:=fun b cs t fr hb=>⟨cs,fr,(hold b (Array.getElem?_eq_some_iff.1 hb).1).trans hb,rfl⟩}
 refine⟨hx,⟨fun b hb=>hb.imp (hw.S b) id,fun b hb=> .inl (hw.L b hb),fun b hb=>?_⟩,⟨hs.len,fun i u hi=>?_,hs.inj⟩⟩
 ·simp only[Env.keep,hsz]
  rcases hb with hb|hb
  ·have:=hw.K b hb;omega
  ·omega
 ·have hlt:E.vt i=false→E.ρ i<E.w.heap.size:=fun hv=>by
   rcases hs.live i u hi with⟨h1,_⟩|⟨_,_,cs',t',h3,_⟩
   ·rw[h1]at hv;cases hv
   ·exact(Array.getElem?_eq_some_iff.1 h3).1
  refine(hs.live i u hi).ext hw hx (hs.lt hi) (fun hk hv hk'=>?_) (fun hv=>hold _ (hlt hv))
  rcases hk' with hk'|hk'
  ·exact hk hk'
  ·have:=hlt hv;omega
theorem vI(ht:Bu P tb)(hw:Wf E){h:List (Option V)}(hs:B8 E h){s d:Nat}{x:V}{X:Value}{κ:V→List (Option V)→Prop}(hl:Qh tb s d x (fun v=>κ v h))(hx:T E x X):Fv E κ ((convert s d X).run P E.w):=by
 unfold Qh at hl
 split at hl
 ·rename_i e _ _ _ hg hg'
  split at hl
  ·rename_i _ _ _ hge
   split at hl
   ·rename_i l;obtain rfl:=I2.1 hx;have hrun:=Lib.run_convert_string_bytes (P:=P) E.w s d e ⟨l.toArray⟩ (ht.get hg).str (ht.get hg').slice (ht.get hge).int;obtain⟨k1,k2,k3⟩:=AHg (w':=Lib.bytesWorld E.w e ⟨l.toArray⟩) hw hs rfl rfl rfl (Lib.bytesWorld_size _ _ _) (fun b hb=>Lib.bytesWorld_at_old _ _ _ b hb);have Ar:(ByteArray.mk l.toArray).size=l.length:=rfl;rw[Ar]at hrun;refine⟨_,E.keep (Lib.bytesWorld E.w e ⟨l.toArray⟩), .imm false 1 l.length fun k=> .int .u8 (l.getD k 0).toNat,h,hrun,k1,k2,k3,Ej.2 ⟨_,_,rfl,?_, .inr ⟨E.w.heap.size,0,rfl,Or.inr rfl,fun k hk=>⟨rfl,?_⟩⟩⟩,hl⟩
    ·exact O1 _ _ _ _
    ·simp only[R,Am,Nat.mul_one,Nat.zero_add];exact Lib.bytesWorld_cell E.w e ⟨l.toArray⟩ k hk
   ·exact hl.elim
  ·exact hl.elim
 ·exact hl.elim
theorem Xz:∀(ns:List UInt8) (s:ByteArray),ns.foldl (fun r n=>r.push n) s=⟨s.data++ns.toArray⟩
 |[],s=>by simp
 |n::ns,s=>by
  rw[List.foldl_cons,Xz ns];simp[ByteArray.push]
theorem vG(ht:Bu P tb)(hw:Wf E){h:List (Option V)}(hs:B8 E h){s d:Nat}{x:V}{X:Value}{κ:V→Prop}(hl:Nt tb s d x h κ)(hx:T E x X):Di E κ ((convert s d X).run P E.w):=by
 unfold Nt at hl
 split at hl
 ·rename_i e a b c _ _ _ hg hg'
  split at hl
  ·rename_i _ _ _ hge
   split at hl
   ·exact hl.elim
   rename_i hns;obtain⟨n,f,news,⟨⟨hu8⟩,hk⟩,hsrc,hR⟩:=Sj ht hw hs hg rfl hl hx;have hsl:=(ht.get hg).slice;refine .mk _ _ ?_ (I2.2 rfl) hk
   have hX:∃A n' cp,X= .slice A n' cp:=by
    unfold Lb at hl
    split at hl
    ·obtain⟨A,cp,h2,_⟩:=Ej.1 hx;exact⟨_,_,_,h2⟩
    ·obtain⟨A,h2⟩:=Jj.1 hx;exact⟨_,_,_,h2⟩
    ·exact absurd rfl (hns _)
    ·obtain⟨_,A,cp,h2,_⟩:=Hq.1 hx;exact⟨_,_,_,h2⟩
    ·exact hl.elim
   obtain⟨A,n',cp,rfl⟩:=hX
   obtain rfl:n'=n:=by
    have h1:=hsrc.len E.w;simp[Builtin.lenOf]at h1
    exact h1
   have hnews:news=((List.range n').map fun k=>Fy (f k)).map (Value.int .u8):=by
    apply List.ext_getElem?
    intro k
    by_cases hk':k<n'
    ·have h1:=(hR k hk').2;have h2:=hu8 k hk'
     cases hf:f k with
     |int q m=>
      rw[hf]at h1 h2
      cases q<;>simp only[Y9]at h2
      simp only[R,Nat.mul_one]at h1;rw[h1];simp[hk',hf,Fy]
     |_=>rw[hf]at h2;simp only[Y9]at h2
    ·rw[List.getElem?_eq_none (by rw[hsrc.newsLen];omega),List.getElem?_eq_none (by simp;omega)]
   rw[run_convert_bytes_string E.w s d e A n' cp hsl (ht.get hge).int (ht.get hg').str]
   have hfold:(((List.range n').map fun k=>Fy (f k)).foldl (fun r n=>r.push (UInt8.ofNat n.toNat)) ByteArray.empty)=⟨(bytesOf n' f).toArray⟩:=by
    have:=Xz (bytesOf n' f) ByteArray.empty
    rw[show(ByteArray.empty.data++(bytesOf n' f).toArray)=(bytesOf n' f).toArray by rw[show ByteArray.empty.data=#[]from rfl,Array.empty_append]]at this;rw[←this];simp only[bytesOf,List.foldl_map,AD6]
   cases A with
   |none=>
    have h1:=hsrc.cells;simp[Builtin.firstCells]at h1
    have h2:n'=0:=by
     have:=hsrc.newsLen
     rw[h1]at this;simpa using this.symm
    subst h2;rfl
   |some a=>
    have h1:=hsrc.cells;simp only[Builtin.firstCells,Nat.mul_one]at h1;rw[run_bytesToString E.w a n' cp ((List.range n').map fun k=>Fy (f k)) (by rw[h1,hnews]),hfold]
  ·exact hl.elim
 ·exact hl.elim
def Env.stay(E:Env)(w':World)(i:Nat):Env:={E with w:=w',S:=fun b=>E.S b∨b=E.ρ i,K:=fun b=>E.K b∨b=E.ρ i}
theorem AJg (hw:Wf E) {h:List (Option V)} (hs:B8 E h) {w':World} {i:Nat} {v:V} {cs:Array Value} {t:TypeId} {fr:Nat×Nat} (hi:h[i]?=some (some v)) (hvt:E.vt i=false) (hnk:¬E.K (E.ρ i)) (hb:E.w.heap[E.ρ i]?=some (.cells cs t (0,0)))
  (ho:w'.os=E.w.os) (htp:w'.tape=E.w.tape) (hout:w'.output=E.w.output) (hsz:w'.heap.size=E.w.heap.size) (hnew:w'.heap[E.ρ i]?=some (.cells cs t fr)) (hold:∀b,b≠E.ρ i→w'.heap[b]?=E.w.heap[b]?):
  F6 E (E.stay w' i)∧Wf (E.stay w' i)∧B8 (E.stay w' i) (h.set i none):=by
 have hx:F6 E (E.stay w' i):={
  os:=ho,tape:=htp,output:=hout,size:=by simp[Env.stay,hsz],N:=Nat.le_refl _,ρ:=fun _ _=>rfl,vt:=fun _ _=>rfl
  S:=fun b hb=> .inl hb
  S':=fun b hb=>hb.imp id fun(e:b=E.ρ i)=>by rw[e];exact hnk
  L:=fun _=>Iff.rfl
  K:=fun b hb=> .inl hb
  kept:=fun b hbk=>hold b (fun e=>hnk (e▸hbk))
  cells:=fun b cs' t' fr' hbb=>by
   by_cases e:b=E.ρ i
   ·subst e;rw[hb]at hbb
    cases hbb
    exact⟨cs,fr,hnew,rfl⟩
   ·exact⟨cs',fr',(hold b e).trans hbb,rfl⟩}
 have hf:=hs.forget i;refine⟨hx,⟨fun b hb=>hb.imp (hw.S b) id,fun b hb=> .inl (hw.L b hb),fun b hbk=>?_⟩,⟨hf.len,fun j u hj=>?_,hf.inj⟩⟩
 ·simp only[Env.stay,hsz]
  rcases hbk with hbk|hbk
  ·exact hw.K b hbk
  ·subst hbk;exact(Array.getElem?_eq_some_iff.1 hb).1
 ·have hji:j≠i:=fun e=>by
   subst e;rw[List.getElem?_set]at hj;simp at hj
  have hj':h[j]?=some (some u):=by
   rw[List.getElem?_set]at hj
   rwa [if_neg (fun e=>hji e.symm)]at hj
  have hne:E.vt j=false→E.ρ j≠E.ρ i:=fun hv=>hs.inj j i u v hj' hi hji hv hvt;refine(hs.live j u hj').ext hw hx (hs.lt hj') (fun hk hv hk'=>?_) (fun hv=>hold _ (hne hv))
  rcases hk' with hk'|hk'
  ·exact hk hk'
  ·exact hne hv hk'
theorem vQ(w:World)(b k:Nat)(cs:Array Value)(t:TypeId)(hb:w.heap[b]?=some (.cells cs t (0,0))):
  (w.freeze ⟨b,k,none⟩ 1).heap[b]?=some (.cells cs t (k,k+1))∧(w.freeze ⟨b,k,none⟩ 1).heap.size=w.heap.size∧∀c,c≠b→(w.freeze ⟨b,k,none⟩ 1).heap[c]?=w.heap[c]?:=by
 unfold World.freeze;rw[if_neg (by decide)];refine⟨?_,by simp,fun c hc=>?_⟩
 ·simp only[Array.getElem?_modify,if_true,hb,Option.map_some];rfl
 ·simp only[Array.getElem?_modify];rw[if_neg (fun e=>hc e.symm)]
theorem ABx{E':Env}{v:V}{c:Nat→Option Value}{o:Nat}(h:G4.noref' v)(hr:R E v c o):R E' v c o:=by
 cases v<;>simp only[G4.noref']at h<;>simpa only[R]using hr
theorem jT(ht:Bu P tb)(hw:Wf E){h:List (Option V)}(hs:B8 E h){t:Nat}{x:V}{X:Value}{κ:V→List (Option V)→Prop}(hl:G4 tb t x h κ)(hx:T E x X):Fv E κ ((convert t t X).run P E.w):=by
 unfold G4 at hl
 split at hl
 ·rename_i e _ _ _ hg
  split at hl
  ·rename_i _ _ _ hge
   split at hl
   ·rename_i i sz lo len cap
    split at hl
    ·rename_i sz' n f hc
     split at hl
     ·rename_i hb;simp only[Bool.and_eq_true,Nat.beq_eq,Bool.not_eq_true']at hb;obtain⟨rfl,hn0⟩:=hb;have hn0:n≠0:=fun e=>by simp[e]at hn0
      obtain⟨⟨hle,hlne⟩,⟨hnr⟩,hk⟩:=hl;obtain⟨hiN,A,cp,rfl,h2,h3,h4⟩:=Hq.1 hx;have hci:=(Cf h i _).1 hc
      rcases hs.live i _ hci with⟨_,sz0,f0,h5⟩|⟨hvt,hnk,cs,t',hbk,hvs,hr⟩
      ·simp only[V.row.injEq]at h5;exact absurd h5.2.1 hn0
      ·rcases h4 with h4|⟨_,rfl,_⟩
       ·omega
       ·obtain⟨f1,f2,f3⟩:=vQ E.w (E.ρ i) cs.size cs t' hbk;obtain⟨k1,k2,k3⟩:=AJg (w':=E.w.freeze ⟨E.ρ i,cs.size,none⟩ 1) hw hs hci hvt hnk hbk (by unfold World.freeze;rfl) (by unfold World.freeze;rfl) (by unfold World.freeze;rfl) f2 f1 f3;have hsh:E.w.shape? (E.ρ i)=some (t',cs.size):=by unfold World.shape?;rw[hbk]
        refine⟨_,E.stay (E.w.freeze ⟨E.ρ i,cs.size,none⟩ 1) i, .imm false sz len fun k=>f (lo+k),_,?_,k1,k2,k3,Ej.2 ⟨_,cp,rfl,by omega, .inr ⟨E.ρ i,Bk []+lo*sz,rfl,Or.inr rfl,fun k hk'=>?_⟩⟩,hk⟩
        ·simp[convert,run_underlying (ht.get hg).slice,run_underlying (ht.get hge).int,markStringish,hsh]
         rfl
        ·simp only[R]at hr;have h6:=hr (lo+k) (by omega);refine⟨h6.1,ABx (E:=E) (hnr k hk') (c:=Am (E.w.freeze ⟨E.ρ i,cs.size,none⟩ 1) (E.ρ i)) ?_⟩
         have h7:Am (E.w.freeze ⟨E.ρ i,cs.size,none⟩ 1) (E.ρ i)=fun q=>cs[q]?:=by
          funext q
          simp only[Am,World.cell?,f1];simp
         rw[h7];have h8:=h6.2;simp only[Bk,Nat.zero_add]at h8⊢;rw[Nat.add_mul]at h8;exact h8
     ·exact hl.elim
    ·exact hl.elim
   ·exact hl.elim
  ·exact hl.elim
 ·exact(Xk ht hl hx).heap hw hs fun _ h=>h
end
def I3(tb:List (Option TI))(t:Nat)(base y:V)(h:List (Option V))(κ:V→List (Option V)→Prop):Prop:=
 match Bi tb t with
 |some ⟨.slice e,_,_,_⟩=>
  match Bi tb e with
  |some ei=>match base,y,Nat.blt 0 ei.sz with
   | .emp, .int .i64 n,true=>Ob (0≤n∧n*ei.by_≤140737488355328∧n≤140737488355328)∧κ (.sl (Ar h) [] ei.sz 0 n.toNat n.toNat) (C2 h (.row ei.sz n.toNat fun _=>ei.z))
   |_,_,_=>False
  |none=>False
 |_=>False
def Gw(tb:List (Option TI))(t tx:Nat)(base y:V)(h:List (Option V))(κ:V→List (Option V)→Prop):Prop:=
 match Bi tb tx with
 |some ⟨.int .i64,_,_,_⟩=>I3 tb t base y h κ
 |_=>Kh tb t tx base y h κ
section
variable {P:Program} {tb:List (Option TI)} {E:Env}
theorem Vg (w:World) (t tx ty e:TypeId) (i:TypeInfo) (z:Value) (ht:P.underlying t=some (.slice e)) (hx:P.underlying tx=some (.int .i64)) (hi:P.info? e=some i) (hz:i.zero=some z) (A:Option Addr) (n:Int)
  (h0:0<n) (h1:n≤140737488355328) (h2:n*i.bytes≤140737488355328) (hsz:0<i.size):
  (Builtin.append_ #[t,tx] ty #[.slice A 0 0, .int .i64 n]).run P w=
    .ok (.slice (some ⟨w.heap.size,0,none⟩) (0+n.toNat) (grownCap w (0+n.toNat) 0 e))
     (w.drew.alloc (.cells (([]++(Builtin.zeroCells z.cells n.toNat).toList).toArray++Builtin.zeroCells z.cells (grownCap w (0+n.toNat) 0 e - (0+n.toNat))) e)):=by
 have hw:IntKind.i64.wrap n=n:=by rw[IntKind.wrap_i64];omega
 have hn0:¬(n<0):=by omega
 have hn1:n.toNat≠0:=by omega
 have h3:¬(281474976710656<n*(i.bytes:Int)):=by omega
 have h4:¬(9223372036854775807<((n.toNat:Nat):Int)):=by omega
 have h5:Builtin.nextslicecap n.toNat 0=n.toNat:=by simp[Builtin.nextslicecap];omega
 have h6:¬(281474976710656<n.toNat*i.bytes):=by
  have:((n.toNat*i.bytes:Nat):Int)=n*i.bytes:=by rw[Int.natCast_mul];congr 1;omega
  omega
 have h7:¬(n=0):=by omega
 have h8:¬(i.size=0):=by omega
 have h9:¬(n≤0):=by omega
 have h10:¬(n.toNat≤0):=by omega
 have h12:¬(9223372036854775807<max n 0):=by omega
 have h13:¬(n.toNat*i.size=0):=fun h=>(Nat.mul_eq_zero.1 h).elim hn1 h8;have h11:(Builtin.firstCells i.size 0 (.slice A 0 0)).run P w.drew= .ok #[] w.drew:=Im i.size A 0 w.drew;simp[Builtin.append_,run_underlying ht,run_underlying hx,sizeOf,typeInfo,zeroValue,hi,hz,Question.forced,newRow,grownCap,asInt,asIntOf,hw,hn0,h3,h4,h5,h6,h7,h8,h9,h10,h11,h12,h13,hn1]
theorem X6(ht:Bu P tb)(hw:Wf E){h:List (Option V)}(hs:B8 E h){t tx ty:Nat}{Y B:Value}{base y:V}{κ:V→List (Option V)→Prop}(hx:P.underlying tx=some (.int .i64))(hB:T E base B)(hY:T E y Y)(hd:I3 tb t base y h κ):
  Fv E κ ((Builtin.append_ #[t,tx] ty #[B,Y]).run P E.w):=by
 unfold I3 at hd
 split at hd
 ·rename_i e _ _ _ hg
  split at hd
  ·rename_i ei hge
   split at hd
   ·rename_i n hb;obtain⟨⟨h0,h1,h2⟩,hk⟩:=hd;rw[Bb]at hY;obtain⟨A,rfl⟩:=Jj.1 hB;subst hY;obtain⟨f,z,hi,hsz,hby,hz,hzs,hr⟩:=(ht.get hge).zcells (E:=E);have hsz0:0<ei.sz:=by simpa using hb
    rcases Int.lt_or_eq_of_le h0 with hn|rfl
    ·have hrun:=Vg (P:=P) E.w t tx ty e f z (ht.get hg).slice hx hi hz A n hn h2 (by rw[hby];exact h1) (by omega);have hzr:=Ss (n:=n.toNat) hzs (ht.get hge).size hr;simp only[R]at hzr;refine Tx hw hs hzs (n:=0) (m:=n.toNat) (f:=fun _=>ei.z) (g:=fun _=>ei.z) (olds:=[]) (by simp) ?_ (fun k hk=>absurd hk (by omega)) (fun k hk=>?_) hrun ?_
     ·simp[Builtin.zeroCells,hzs]
     ·refine⟨(ht.get hge).size,?_⟩
      have:=(hzr k hk).2
      rw[Nat.zero_add]at this;refine J2 (fun q _ _=>?_) this
      by_cases hq:q<n.toNat*ei.sz<;>simp[Builtin.zeroCells,hzs,hq]
     ·simpa using hk
    ·have hlit:IntKind.i64.wrap 0=0:=rfl;refine⟨.slice A 0 0,E.valloc,_,_,?_,Env.ext_valloc,Env.wf_valloc hw,by rw[G6];exact U9 hw hs ei.sz _,Hq.2 ⟨?_,A,0,rfl,Nat.le_refl _,Nat.le_refl _, .inl rfl⟩,hk⟩
     ·have hs:=(ht.get hg).slice
      cases A<;>simp[Builtin.append_,run_underlying hs,run_underlying hx,sizeOf,typeInfo,zeroValue,hi,hz,asInt,asIntOf,hlit,storeCells]
      all_goals rfl
     ·rw[Az,hs.len];simp[Env.valloc]
   ·exact hd.elim
  ·exact hd.elim
 ·exact hd.elim
theorem X7(ht:Bu P tb)(hw:Wf E){h:List (Option V)}(hs:B8 E h){t tx ty:Nat}{Y B:Value}{base y:V}{κ:V→List (Option V)→Prop}(hB:T E base B)(hY:T E y Y)(hd:Gw tb t tx base y h κ):
  Fv E κ ((Builtin.append_ #[t,tx] ty #[B,Y]).run P E.w):=by
 unfold Gw at hd
 split at hd
 ·rename_i hg;refine X6 ht hw hs ?_ hB hY hd;have hT:=(ht.get hg).td;simp only[Hb]at hT
  split at hT
  ·rename_i k hu;rw[hu];simp only[beq_iff_eq]at hT;rw[←hT]
  ·cases hT
 ·exact nU ht hw hs hB hY hd
theorem Ou (w:World) (t tx ty e:TypeId) (i:TypeInfo) (z:Value) (ht:P.underlying t=some (.slice e)) (hx:P.underlying tx=some (.int .i64)) (hi:P.info? e=some i) (hz:i.zero=some z) (A:Option Addr) (len cap:Nat) (n:Int) (olds:List Value)
  (hold:(Builtin.firstCells i.size len (.slice A len cap)).run P w.drew= .ok olds.toArray w.drew)
  (h0:0<n) (hg:cap<len+n.toNat) (h1:((len+n.toNat:Nat):Int)≤140737488355328) (h2:(len+n.toNat)*i.bytes≤140737488355328) (hsz:0<i.size):
  (Builtin.append_ #[t,tx] ty #[.slice A len cap, .int .i64 n]).run P w=
    .ok (.slice (some ⟨w.heap.size,0,none⟩) (len+n.toNat) (grownCap w (len+n.toNat) cap e))
     (w.drew.alloc (.cells ((olds++(Builtin.zeroCells z.cells n.toNat).toList).toArray++Builtin.zeroCells z.cells (grownCap w (len+n.toNat) cap e - (len+n.toNat))) e)):=by
 have hw:IntKind.i64.wrap n=n:=by rw[IntKind.wrap_i64];omega
 have hn0:¬(n<0):=by omega
 have hn1:n.toNat≠0:=by omega
 have hb:n*(i.bytes:Int)≤140737488355328:=by
  have h3:n.toNat*i.bytes≤(len+n.toNat)*i.bytes:=Nat.mul_le_mul_right _ (by omega)
  have:((n.toNat*i.bytes:Nat):Int)=n*i.bytes:=by rw[Int.natCast_mul];congr 1;omega
  omega
 have h3:¬(281474976710656<n*(i.bytes:Int)):=by omega
 have h4:¬(9223372036854775807<((len+n.toNat:Nat):Int)):=by omega
 have h4':¬(9223372036854775807<(len:Int)+((n.toNat:Nat):Int)):=by omega
 have h4'':¬(9223372036854775807<(len:Int)+max n 0):=by omega
 have h6:¬(281474976710656<Builtin.nextslicecap (len+n.toNat) cap*i.bytes):=by
  have:=growslice_fits hg h2
  omega
 have h8:¬(i.size=0):=by omega
 have h9:¬(len+n.toNat≤cap):=by omega
 have h13:¬(n.toNat*i.size=0):=fun h=>(Nat.mul_eq_zero.1 h).elim hn1 h8;have h14:¬(n≤0):=by omega
 have h15:¬(n=0):=by omega
 have hA:(olds++(Builtin.zeroCells z.cells n.toNat).toList).toArray=olds.toArray++Builtin.zeroCells z.cells n.toNat:=by apply Array.ext';simp
 rw[hA];simp[Builtin.append_,run_underlying ht,run_underlying hx,sizeOf,typeInfo,zeroValue,hi,hz,Question.forced,newRow,grownCap,asInt,asIntOf,hw,hn0,h3,h4,h4',h4'',h6,h8,h9,hold,h13,h14,h15,hn1]
theorem Yi (ht:Bu P tb) (hw:Wf E) {h:List (Option V)} (hs:B8 E h) {e:Nat} {ei:TI} (hge:Bi tb e=some ei) {z:Value} {fi:TypeInfo} (hfi:P.info? e=some fi) (hfz:fi.zero=some z) {n m sCap:Nat} {f g:Nat→V} {olds news:List Value} (ho:olds.length=n*ei.sz) (hn:news.length=m*ei.sz)
  (hf:∀k,k<n→A6 (f k)=ei.sz∧R E (f k) (fun q=>olds[q]?) (k*ei.sz)) (hg:∀k,k<m→A6 (g k)=ei.sz∧R E (g k) (fun q=>news[q]?) (k*ei.sz)) {r:Result Value}
  (hr:r= .ok (.slice (some ⟨E.w.heap.size,0,none⟩) (n+m) (grownCap E.w (n+m) sCap e)) (E.w.drew.alloc (.cells ((olds++news).toArray++Builtin.zeroCells z.cells (grownCap E.w (n+m) sCap e - (n+m))) e)))
  {κ:V→List (Option V)→Prop} (hk:∀(C:Nat) (f':Nat→V),n+m≤C→(∀k,k<n+m→f' k=if k<n then f k else g (k - n))→(∀k,n+m≤k→k<C→f' k=ei.z)→κ (.slx (Ar h) ei.sz 0 (n+m) C) (C2 h (.row ei.sz C f'))):Fv E κ r:=by
 have hx:=E.ext_drew;have hwd:=Env.wf_drew hw;have hsd:=fF hw hs;obtain⟨fi',z',h1,h2,h3,h4,hzs,hzr⟩:=(ht.get hge).zcells (E:=E.drew);rw[hfi]at h1
 cases h1
 rw[hfz]at h4
 cases h4
 have hge':=O1 E.w (n+m) sCap e;generalize hG:grownCap E.w (n+m) sCap e=G at hr hge';have hzc:(Builtin.zeroCells z.cells (G - (n+m))).size=(G - (n+m))*ei.sz:=by simp[Builtin.zeroCells,hzs]
 have hsize:((olds++news).toArray++Builtin.zeroCells z.cells (G - (n+m))).size=G*ei.sz:=by
  simp only[Array.size_append,List.size_toArray,List.length_append,ho,hn,hzc];rw[←Nat.add_mul,←Nat.add_mul]
  congr 1
  omega
 have hR1:R E.drew (.row ei.sz (n+m) fun k=>if k<n then f k else g (k - n)) (fun q=>(olds++news++[]).toArray[q]?) 0:=
  Kd ho hn (fun k hk=>⟨(hf k hk).1,Gu hw hx _ _ _ (hf k hk).2⟩) (fun k hk=>⟨(hg k hk).1,Gu hw hx _ _ _ (hg k hk).2⟩)
 have hzrow:=Ss (n:=G - (n+m)) hzs (ht.get hge).size hzr;simp only[R]at hR1 hzrow
 have hR:R E.drew (.row ei.sz ((n+m)+(G - (n+m))) fun k=>if k<n+m then(fun k=>if k<n then f k else g (k - n)) k else(fun _=>ei.z) (k - (n+m))) (fun q=>((olds++news)++(Builtin.zeroCells z.cells (G - (n+m))).toList++[]).toArray[q]?) 0:=by
  refine Kd (by simp only[List.length_append,ho,hn,Nat.add_mul]) (by simpa using hzc) (fun k hk=>⟨(hR1 k hk).1,?_⟩) (fun k hk=>⟨(ht.get hge).size,?_⟩)
  ·have:=(hR1 k hk).2
   simpa using this
  ·have:=(hzrow k hk).2
   rw[Nat.zero_add]at this;refine J2 (fun q _ _=>?_) this
   by_cases hq:q<(G - (n+m))*ei.sz<;>simp[Builtin.zeroCells,hzs,hq]
 rw[Nat.add_sub_cancel' hge']at hR;have hcells:((olds++news)++(Builtin.zeroCells z.cells (G - (n+m))).toList++[]).toArray=(olds++news).toArray++Builtin.zeroCells z.cells (G - (n+m)):=by simp
 rw[hcells]at hR;obtain⟨g1,g2,g3⟩:=Tg (t:=e) hwd hsd hR (by simp only[A6];rw[hsize,Nat.mul_comm];exact Nat.le_refl _);refine⟨_,E.drew.alloc (.cells ((olds++news).toArray++Builtin.zeroCells z.cells (G - (n+m))) e),_,_,hr,hx.trans g1,g2,g3,R1.2 ⟨?_,some ⟨E.w.heap.size,0,none⟩,rfl,hge', .inr ⟨?_,?_,(olds++news).toArray++Builtin.zeroCells z.cells (G - (n+m)),e,(0,0),?_,?_⟩⟩,hk G _ hge' (fun k hk=>if_pos hk) (fun k hk _=>if_neg (Nat.not_lt.2 hk))⟩
 ·rw[Az,hs.len];simp[Env.alloc,Env.drew]
 ·rw[Az,hs.len];simp[Env.alloc,Env.drew]
 ·rw[Az,hs.len];simp[Env.alloc,Env.drew]
 ·rw[Az,hs.len];simp only[Env.alloc,Env.drew,if_true];exact World.heap_alloc_new _ _
 ·rw[hsize,Nat.zero_add];exact Nat.le_refl _
def Us(keep:Bool)(ei:TI)(base:V)(m:Nat)(g:Nat→V)(h:List (Option V))(κ:V→List (Option V)→Prop):Prop:=
 match base with
 | .slx i sz lo len cap=>
  match Dx h i with
  |some (.row sz' n f)=>match Nat.beq sz ei.sz&&Nat.beq sz' ei.sz&&Nat.beq lo 0 with
   |true=>Ob (len≤n∧cap≤n)∧Ob ((len+m)*ei.by_≤140737488355328∧len+m≤140737488355328)∧(match keep with
    |true=>Ob (cap<len+m)∧∀(C:Nat) (f':Nat→V),len+m≤C→(∀k,k<len+m→f' k=if k<len then f k else g (k - len))→(∀k,len+m≤k→k<C→f' k=ei.z∨(k<n∧f' k=f k))→κ (.slx (Ar h) sz 0 (len+m) C) (C2 h (.row sz C f'))
    |false=>∀(C:Nat) (f':Nat→V),len+m≤C→(∀k,k<len+m→f' k=if k<len then f k else g (k - len))→(∀k,len+m≤k→k<C→f' k=ei.z∨(k<n∧f' k=f k))→κ (.slx (Ar h) sz 0 (len+m) C) (C2 (h.set i none) (.row sz C f')))
   |false=>False
  |_=>False
 |_=>False
theorem Y4{keep:Bool}{ei:TI}{base:V}{m:Nat}{g:Nat→V}{h:List (Option V)}{κ κ':V→List (Option V)→Prop}(hk:∀v k,κ v k→κ' v k)(hd:Us keep ei base m g h κ):Us keep ei base m g h κ':=by
 unfold Us at hd⊢
 split at hd
 ·split at hd
  ·split at hd
   ·simp only[*];refine⟨trivial,trivial,?_⟩
    cases keep
    ·exact fun C f' h1 h2 h3=>hk _ _ (hd.2.2 C f' h1 h2 h3)
    ·exact⟨hd.2.2.1,fun C f' h1 h2 h3=>hk _ _ (hd.2.2.2 C f' h1 h2 h3)⟩
   ·exact hd.elim
  ·exact hd.elim
 ·exact hd.elim
theorem mQ(hw:Wf E){h:List (Option V)}(hs:B8 E h){j sz len cap n:Nat}{f:Nat→V}{B:Value}(hB:T E (.slx j sz 0 len cap) B)(hc:Dx h j=some (.row sz n f))(hl:len≤n):
  ∃(A:Option Addr) (olds:List Value),B= .slice A len cap∧olds.length=len*sz∧(Builtin.firstCells sz len (.slice A len cap)).run P E.w.drew= .ok olds.toArray E.w.drew∧(∀k,k<len→A6 (f k)=sz∧R E (f k) (fun q=>olds[q]?) (k*sz)):=by
 obtain⟨hjN,A,rfl,h2,h4⟩:=R1.1 hB;have hcj:=(Cf h j _).1 hc
 rcases Nat.eq_zero_or_pos len with rfl|hl0
 ·exact⟨A,[],rfl,by simp,Im sz A cap E.w.drew,fun k hk=>absurd hk (by omega)⟩
 ·rcases h4 with h4|⟨hvt,rfl,cs0,t0,fr,hcs0,hbound⟩
  ·omega
  ·rcases hs.live j _ hcj with⟨h5,_⟩|⟨_,hnk,cs,t',hbk,hle,hr⟩
   ·rw[h5]at hvt;cases hvt
   ·simp only[R]at hr;have hca:Am E.w (E.ρ j)=fun q=>cs[q]?:=by funext q;simp[Am,World.cell?,hbk]
    have hf':∀k,k<len→A6 (f k)=sz∧R E (f k) (Am E.w (E.ρ j)) (0+k*sz):=fun k hk=>by rw[hca];exact hr k (by omega)
    refine⟨_,Gx (Am E.w (E.ρ j)) 0 (len*sz),rfl,Ca _ _ _,?_,iD hf'⟩;refine run_firstCells_some E.w.drew sz len _ len cap _ (by rw[Ca]) (fun q v hq=>?_)
    have hlt:q<len*sz:=by
     have:=(List.getElem?_eq_some_iff.1 hq).1
     rwa [Ca]at this
    obtain⟨x,h1,_⟩:=Ot hf' q hlt;rw[J5 hlt h1]at hq
    cases hq
    rw[Nat.zero_mul,Addr.add_mid];exact h1
theorem AB7 (ht:Bu P tb) (hw:Wf E) {h:List (Option V)} (hs:B8 E h) {t e tx ty:Nat} {ei:TI} (hu:P.underlying t=some (.slice e)) (hge:Bi tb e=some ei) {m:Nat} {g:Nat→V} {news:List Value} {Y B:Value} {keep:Bool} {base:V} {κ:V→List (Option V)→Prop}
  (hsrc:Src P ei.sz tx Y m news E.w) (hg:∀k,k<m→A6 (g k)=ei.sz∧R E (g k) (fun q=>news[q]?) (k*ei.sz)) (hB:T E base B) (hd:Us keep ei base m g h κ):
  Fv E κ ((Builtin.append_ #[t,tx] ty #[B,Y]).run P E.w):=by
 obtain⟨i,z,hi,hsz,hby,hz,_,hzs⟩:=(ht.get hge).info;have hsrc':Src P i.size tx Y m news E.w:=by rw[hsz];exact hsrc
 have hnl:news.length=m*ei.sz:=hsrc.newsLen;unfold Us at hd
 split at hd
 ·rename_i j sz lo len cap
  split at hd
  ·rename_i sz' n f hc
   split at hd
   ·rename_i hb;simp only[Bool.and_eq_true,Nat.beq_eq]at hb;obtain⟨⟨rfl,rfl⟩,rfl⟩:=hb;obtain⟨⟨hln,hcn⟩,⟨hb1,hb2⟩,hd⟩:=hd;obtain⟨A,olds,rfl,hol,hold,hfo⟩:=mQ (P:=P) hw hs hB hc hln;obtain⟨hjN,A',hA,h2,h4⟩:=R1.1 hB
    cases hA
    have hcj:=(Cf h j _).1 hc;have hlenset:Ar (h.set j none)=Ar h:=by rw[Az,Az];simp
    have elsewhere:cap<len+m→∀(h0:List (Option V)),B8 E h0→Ar h0=Ar h→(∀(C:Nat) (f':Nat→V),len+m≤C→(∀k,k<len+m→f' k=if k<len then f k else g (k - len))→(∀k,len+m≤k→k<C→f' k=ei.z∨(k<n∧f' k=f k))→κ (.slx (Ar h) ei.sz 0 (len+m) C) (C2 h0 (.row ei.sz C f')))→Fv E κ ((Builtin.append_ #[t,tx] ty #[.slice A len cap,Y]).run P E.w):=fun hgr h0 hs0 hl0 hk=>by
     have hrun:=run_append_grow_src E.w t tx ty e i z hu hi hz A len cap olds (by rw[hsz];exact hold) Y m news hsrc' hgr (by omega) (growslice_fits hgr (by rw[hby];exact hb1));refine Yi ht hw hs0 hge hi hz hol hnl hfo hg hrun ?_;rw[hl0];exact fun C f' h1 h2 h3=>hk C f' h1 h2 fun k h4 h5=> .inl (h3 k h4 h5)
    cases keep with
    |true=>exact elsewhere hd.1.out h hs rfl hd.2
    |false=>
     by_cases hgr:cap<len+m
     ·exact elsewhere hgr _ (hs.forget j) hlenset hd
     ·replace hgr:len+m≤cap:=by omega
      rcases Nat.eq_zero_or_pos cap with rfl|hcp
      ·have hm0:m=0:=by omega
       have hl0:len=0:=by omega
       subst hm0;subst hl0;have hnil:news=[]:=List.eq_nil_of_length_eq_zero (by rw[hnl,Nat.zero_mul]);subst hnil;refine⟨.slice A 0 0,E.valloc,_,_,run_append_nothing E.w t tx ty e i hu hi A 0 0 (Nat.le_refl _) Y hsrc',Env.ext_valloc,Env.wf_valloc hw,by rw[G6];exact U9 hw (hs.forget j) ei.sz f,R1.2 ⟨?_,A,rfl,Nat.le_refl _, .inl rfl⟩,hd 0 f (Nat.le_refl _) (fun k hk=>absurd hk (by omega)) (fun k _ hk=>absurd hk (by omega))⟩
       rw[Az,hs.len];simp[Env.valloc]
      ·rcases h4 with h4|⟨hvt,rfl,cs0,t0,fr,hcs0,hbound⟩
       ·omega
       ·rcases hs.live j _ hcj with⟨h5,_⟩|⟨_,hnk,cs,t',hbk,hle,hr⟩
        ·rw[h5]at hvt;cases hvt
        ·have e1:=hbk.symm.trans hcs0
         injection e1 with e1
         injection e1 with e1 e2 e3
         subst e1;simp only[Nat.zero_add,Nat.zero_mul]at hbound⊢;simp only[A6]at hle;simp only[R]at hr
         have hfit:len*ei.sz+news.length≤cs.size:=by
          rw[hnl,←Nat.add_mul];exact Nat.le_trans (Nat.mul_le_mul_right _ hgr) hbound
         have hrun:=run_append_room_src E.w t tx ty e i hu hi (E.ρ j) 0 len cap Y m news hsrc' hgr (fun q hq=>by
          have:E.w.cell? ⟨E.ρ j,0+len*i.size+q,none⟩=cs[0+len*i.size+q]?:=by simp[World.cell?,hbk]
          rw[hsz]at this⊢;simp only[this,Array.getElem?_eq_getElem (show 0+len*ei.sz+q<cs.size by omega),Option.isSome_some]) (fun q hq=>by simp[World.frozen?,hbk])
         rw[hsz,Nat.zero_add,Ov hbk hfit hsrc.one]at hrun;have hwr:Ek E.w (E.w.setRow (E.ρ j) (Bz cs (len*ei.sz) news)) (E.ρ j) (Bz cs (len*ei.sz) news) t':=Ek.setRow hbk;have hps:=Id hfit
         have hR:R E (.row ei.sz cap fun k=>if len≤k∧k<len+m then g (k - len)else f k) (fun q=>(Bz cs (len*ei.sz) news)[q]?) 0:=by
          simp only[R];intro k hk'
          by_cases hin:len≤k∧k<len+m
          ·rw[if_pos hin];have hkm:k - len<m:=by omega
           have h1:(k - len)*ei.sz+ei.sz≤m*ei.sz:=by rw[←Nat.succ_mul];exact Nat.mul_le_mul_right _ hkm
           have h2:k*ei.sz=len*ei.sz+(k - len)*ei.sz:=by rw[←Nat.add_mul];congr 1;omega
           refine⟨(hg _ hkm).1,Bp (g (k - len)) _ _ ((k - len)*ei.sz) _ (fun q hq=>?_) (hg _ hkm).2⟩;rw[(hg _ hkm).1]at hq
           show(Bz cs (len*ei.sz) news)[0+k*ei.sz+q]?=_
           rw[Nat.zero_add,h2,Nat.add_assoc,Pu hfit (by omega)]
          ·rw[if_neg hin];refine⟨(hr k (by omega)).1,J2 (fun q h1 h2=>?_) (hr k (by omega)).2⟩
           rw[(hr k (by omega)).1]at h2;refine K1 hfit ?_;rw[hnl,←Nat.add_mul]
           rcases Nat.lt_or_ge k len with hlt|hge'
           ·have:k*ei.sz+ei.sz≤len*ei.sz:=by rw[←Nat.succ_mul];exact Nat.mul_le_mul_right _ hlt
            omega
           ·have:(len+m)*ei.sz≤k*ei.sz:=Nat.mul_le_mul_right _ (by omega)
            omega
         obtain⟨g1,g2,g3⟩:=jD hw hs hcj hvt hbk hnk hps hwr hR (by simp only[A6];rw[hps,Nat.mul_comm];exact hbound);refine⟨_,_,_,_,hrun,g1,g2,g3,R1.2 ⟨?_,some ⟨E.ρ j,0,none⟩,rfl,hgr, .inr ⟨?_,?_,Bz cs (len*ei.sz) news,t',(0,0),?_,?_⟩⟩,hd cap _ hgr (fun k hk=>?_) (fun k h6 h7=> .inr ⟨by omega,if_neg (by omega)⟩)⟩
         ·rw[Az,hs.len];simp[Env.again]
         ·rw[Az,hs.len];simp[Env.again]
         ·rw[Az,hs.len];simp[Env.again]
         ·rw[Az,hs.len];simp only[Env.again,if_true];exact hwr.here
         ·rw[hps,Nat.zero_add];exact hbound
         ·by_cases hkl:k<len
          ·rw[if_neg (by omega),if_pos hkl]
          ·rw[if_pos (by omega),if_neg hkl]
   ·exact hd.elim
  ·exact hd.elim
 ·exact hd.elim
def Vk(tb:List (Option TI))(t tx:Nat)(base y:V)(h:List (Option V))(κ:V→List (Option V)→Prop):Prop:=
 match Bi tb t,Bi tb tx with
 |some ⟨.slice e,_,_,_⟩,some ti=>
  match Bi tb e with
  |some ei=>match ti with
   |⟨.int .i64,_,_,_⟩=>match y,Nat.blt 0 ei.sz with
    | .int .i64 n,true=>Ob (0<n)∧Us true ei base n.toNat (fun _=>ei.z) h κ
    |_,_=>False
   |_=>match ti.d.srcOk with
    |true=>Lb ei.sz y h fun m g=>Us false ei base m g h κ
    |false=>False
  |none=>False
 |_,_=>False
def Ki(dx:Bool)(tb:List (Option TI))(t tx:Nat)(base y:V)(h:List (Option V))(κ:V→List (Option V)→Prop):Prop:=
 match dx with
 |false=>Gw tb t tx base y h κ
 |true=>match base with
  | .slx .. =>Vk tb t tx base y h κ
  |_=>Gw tb t tx base y h κ
theorem nW(ht:Bu P tb)(hw:Wf E){h:List (Option V)}(hs:B8 E h){t tx ty:Nat}{Y B:Value}{base y:V}{κ:V→List (Option V)→Prop}(hB:T E base B)(hY:T E y Y)(hd:Vk tb t tx base y h κ):
  Fv E κ ((Builtin.append_ #[t,tx] ty #[B,Y]).run P E.w):=by
 unfold Vk at hd
 split at hd
 ·rename_i e _ _ _ ti hg hgx;have hu:=(ht.get hg).slice
  split at hd
  ·rename_i ei hge
   split at hd
   ·rename_i s1 s2 s3
    have hx:P.underlying tx=some (.int .i64):=by
     have hT:=(ht.get hgx).td;simp only[Hb]at hT
     split at hT
     ·rename_i k hu;rw[hu];simp only[beq_iff_eq]at hT;rw[←hT]
     ·cases hT
    split at hd
    ·rename_i n hsz0;obtain⟨⟨h0⟩,hd⟩:=hd;rw[Bb]at hY;subst hY;obtain⟨i,z,hi,hsz,hby,hz,hzs,hzr⟩:=(ht.get hge).zcells (E:=E);have hpos:0<ei.sz:=by simpa using hsz0
     unfold Us at hd
     split at hd
     ·rename_i j sz lo len cap
      split at hd
      ·rename_i sz' n' f hc
       split at hd
       ·rename_i hb;simp only[Bool.and_eq_true,Nat.beq_eq]at hb;obtain⟨⟨rfl,rfl⟩,rfl⟩:=hb;obtain⟨⟨hln,hcn⟩,⟨hb1,hb2⟩,⟨hgr⟩,hk⟩:=hd;obtain⟨A,olds,rfl,hol,hold,hfo⟩:=mQ (P:=P) hw hs hB hc hln;have hrun:=Ou (P:=P) E.w t tx ty e i z hu hx hi hz A len cap n olds (by rw[hsz];exact hold) h0 hgr (by omega) (by rw[hby];exact hb1) (by omega);have hzrow:=Ss (n:=n.toNat) hzs (ht.get hge).size hzr;simp only[R]at hzrow;refine Yi ht hw hs hge hi hz (m:=n.toNat) (f:=f) (g:=fun _=>ei.z) hol (by simp[Builtin.zeroCells,hzs]) hfo (fun k hk=>⟨(ht.get hge).size,?_⟩) hrun (fun C f' h1 h2 h3=>hk C f' h1 h2 fun k h4 h5=> .inl (h3 k h4 h5))
        have:=(hzrow k hk).2
        rw[Nat.zero_add]at this;refine J2 (fun q _ _=>?_) this
        by_cases hq:q<n.toNat*ei.sz<;>simp[Builtin.zeroCells,hzs,hq]
       ·exact hd.elim
      ·exact hd.elim
     ·exact hd.elim
    ·exact hd.elim
   ·split at hd
    ·rename_i hk;obtain⟨m,g,news,hd,hsrc,hR⟩:=Sj ht hw hs hgx hk hd hY;exact AB7 ht hw hs hu hge hsrc hR hB hd
    ·exact hd.elim
  ·exact hd.elim
 ·exact hd.elim
theorem nX(ht:Bu P tb)(hw:Wf E){h:List (Option V)}(hs:B8 E h){dx:Bool}{t tx ty:Nat}{Y B:Value}{base y:V}{κ:V→List (Option V)→Prop}(hB:T E base B)(hY:T E y Y)(hd:Ki dx tb t tx base y h κ):
  Fv E κ ((Builtin.append_ #[t,tx] ty #[B,Y]).run P E.w):=by
 unfold Ki at hd
 split at hd
 ·exact X7 ht hw hs hB hY hd
 ·split at hd
  ·exact nW ht hw hs hB hY hd
  ·exact X7 ht hw hs hB hY hd
end
end Go.DD
