/- Part of the claim ModelPuts: Z51, Z52, Z53, Z54, Z55, Z56, Z57. -/
import Derived.Test.YtaihjcpfjgpmoaaGreatDoorDC
import Derived.Test.YtaihjcpfjgpmoaaGreatDoorZD
set_option linter.unusedVariables false
set_option linter.unusedSimpArgs false
set_option maxRecDepth 100000
namespace Go.Proofs.YtaihjcpfjgpmoaaGreatDoor
open Go Go.DD Go.RowKit
def AEw:Fu:={Ka 13 [] []with n0:=1}
theorem rS:Aj Tryz.prog AEw:=⟨K6,(fun p hp=>by cases hp),(fun p hp=>by cases hp)⟩
structure Ax(B:Nat)(lx:List UInt8)(a:Act)(W:World):Prop where
 size:a.tmps.size=13
 defers:a.defers=[]
 box:a.eval (.tmp 2)= .pointer (some ⟨B,0,none⟩)
 v:∃b,a.eval (.tmp 5)= .pointer (some ⟨b,0,none⟩)∧iW W B b∧∀q,q<32→W.cell? ⟨b,q,none⟩=some (.int .u8 ((lx.getD q 0).toNat:Nat))
def AWz:Array Oper:=#[{dst:=some 5,op:=Op.alloc 25,type:=0,pos:= "iter.go:51",after:=#[],guard:=none},
 {dst:=none,op:=Op.store 25 (Operand.tmp 5) (Operand.tmp 7),type:=0,pos:= "iter.go:51",after:=#[{on:=0,ground:=Ground.data},{on:=0,ground:=Ground.phase}],guard:=none}]
theorem vD {w0:World} {B m n1 r n:Nat} {l:Nat→List UInt8} {lx:List UInt8} {W:World} {a:Act} {K:Act→World→Prop} (h:aA w0 B l m W) (hsz:a.tmps.size=13) (hd:a.defers=[]) (h2:a.eval (.tmp 2)= .pointer (some ⟨B,0,none⟩)) (h7:a.eval (.tmp 7)=Na lx)
  (hK:∀a' W',KeepsFrom n1 W W'→Below w0.heap.size W W'→aA w0 B l m W'→Ax B lx a' W'→K a' W'):
  (Code.region 2 AWz false).wpIn (Fence.wide.inRound r) n Tryz.prog (Exit.then K (fun _ _ _=>False)) a W:=by
 obtain⟨rr,z,hs⟩:=h.sim (Γ:=AEw) (fun _=>False) (fun _ h=>h.elim) rfl (tl:=[(2, .ref 0 []),(7,arrV 32 lx)]) hsz hd (fun E hN hρ _ _ k v hv=>by
  simp only[Kw]at hv
  split at hv
  ·rename_i e
   cases hv
   rw[show k=2 from(Nat.eq_of_beq_eq_true e).symm,h2];exact I1.2 ⟨hN,by rw[hρ];rfl⟩
  ·split at hv
   ·rename_i e
    cases hv
    rw[show k=7 from(Nat.eq_of_beq_eq_true e).symm,h7];exact ALm _ _
   ·cases hv)
 refine cU rS hs (K:=fun σ=>σ.t 2= .ref 0 []∧σ.t 5= .ref 2 []∧σ.h=[some (.sl 1 [] 32 0 m m),some (.row 32 m fun j=>arrV 32 (l j)),some (arrV 32 lx)]) ?_ ?_ ?_ ?_
 ·conv=>whnf
  exact⟨rfl,rfl,rfl⟩
 ·intro i o ho c
  match i with
  |0=>cases ho;exact fun e=>by cases e
  |1=>cases ho;exact fun e=>by cases e
  |i+2=>cases ho
 ·rintro⟨_,_,h⟩;exact h
 ·rintro E' a' σ' hx hs' ⟨k2,k5,kh⟩
  have hsh:=hs'.heap;rw[kh]at hsh;have hρ:E'.ρ 0=B:=hx.ρ 0 (by show 0<2;omega);have hN:0<E'.N:=by rw[←hsh.len];show 0<3;omega
  have hbl:Below w0.heap.size W E'.w:=⟨hx.os,hx.tape,hx.output,hx.size,fun b hb=>hx.kept b (.inl hb)⟩;have hraw:=aA.of (w0:=w0) (B:=B) hsh rfl rfl (h.below.trans hbl) h.hB hρ (fun b hb=>hx.K b (.inl hb));refine hK a' E'.w ⟨hx.size,fun k o _ hk ho=>(hx.kept k (.inr (.inr ⟨o,hk,ho⟩))).trans hk⟩ hbl hraw ⟨hs'.size,hs'.defers,?_,E'.ρ 2,?_,?_,?_⟩
  ·have:=hs'.tmp 2
   rw[k2]at this;rw[(I1.1 this).2,hρ];rfl
  ·have:=hs'.tmp 5
   rw[k5]at this;rw[(I1.1 this).2];rfl
  ·exact iW.of hsh rfl rfl (fun sz f e=>by cases e) ⟨_,rfl⟩ hρ rfl
  ·intro q hq
   rcases hsh.live 2 _ rfl with⟨_,sz,f,h⟩|⟨_,_,cs,t,c1,c2,c3⟩
   ·cases h
   ·simp only[arrV,R,bf,A6]at c3
    have:=(c3 q hq).2
    rw[show 0+q*1=q by omega]at this;simp[World.cell?,c1,this]
def AX0:Array Oper:=#[{dst:=some 8,op:=Op.load 44 (Operand.tmp 2),type:=44,pos:= "iter.go:52",after:=#[],guard:=none},
 {dst:=some 9,op:=Op.load 25 (Operand.tmp 5),type:=25,pos:= "iter.go:52",after:=#[],guard:=none},
 {dst:=some 10,op:=Op.buildSlice 44 1 #[(0,Operand.tmp 9)],type:=44,pos:= "iter.go:52",after:=#[{on:=1,ground:=Ground.data}],guard:=none},
 {dst:=some 11,op:=Op.call {callee:=Callee.builtin Builtin.append,args:=#[Operand.tmp 8,Operand.tmp 10],argTypes:=#[44,44]},type:=44,pos:= "iter.go:52",after:=#[{on:=0,ground:=Ground.data},{on:=2,ground:=Ground.data}],guard:=none},
 {dst:=none,op:=Op.store 44 (Operand.tmp 2) (Operand.tmp 11),type:=0,pos:= "iter.go:52",after:=#[{on:=3,ground:=Ground.data},{on:=3,ground:=Ground.chain},{on:=0,ground:=Ground.phase},{on:=1,ground:=Ground.phase},{on:=2,ground:=Ground.phase},{on:=3,ground:=Ground.phase}],guard:=none}]
theorem AEk {w0:World} {B m n1 r n:Nat} {l:Nat→List UInt8} {W:World} {a:Act} {Q:Exit→Act→World→Prop} (h:aA w0 B l m W) (ha:Ax B (l m) a W) (hm:m≤1000) (hQ:¬LetsOut Q)
  (hK:∀a' W',KeepsFrom n1 W W'→Below w0.heap.size W W'→aA w0 B l (m+1) W'→Q .normal a' W'):
  (Code.region 3 AX0 false).wpIn (Fence.wide.inRound r) n Tryz.prog Q a W:=by
 obtain⟨hsz,hd,h2,b,h5,hf,hc⟩:=ha
 obtain⟨rr,z,hs⟩:=h.sim (Γ:=AEw) (fun x=>x=b) (fun x e=>by subst e;exact hf) rfl (tl:=[(2, .ref 0 []),(5, .pim false (arrV 32 (l m)))]) hsz hd (fun E hN hρ hS hw k v hv=>by
  simp only[Kw]at hv
  split at hv
  ·rename_i e
   cases hv
   rw[show k=2 from(Nat.eq_of_beq_eq_true e).symm,h2];exact I1.2 ⟨hN,by rw[hρ];rfl⟩
  ·split at hv
   ·rename_i e
    cases hv
    rw[show k=5 from(Nat.eq_of_beq_eq_true e).symm,h5];refine Kf.2 ⟨b,0,rfl,?_,?_⟩
    ·show E.S b
     rw[hS]
    ·simp only[arrV,R,bf,A6];intro q hq;refine⟨trivial,?_⟩;rw[hw,show 0+q*1=q by omega];exact hc q hq
   ·cases hv)
 refine cU rS hs (K:=fun σ=>LeC 1 [some 0,some 3] σ [(2, .ref 0 [])] (jR (m+1) l) True) ?_ ?_ hQ ?_
 ·conv=>whnf
  refine And.intro ⟨by omega⟩ ?_;conv=>whnf
  refine Or.inl ?_;conv=>whnf
  repeat' (apply An<;>conv=>whnf)
  ·exact⟨rfl⟩
  ·exact⟨by show(m+1)*32≤_∧m+1≤_;omega⟩
  all_goals try first|exact trivial|exact⟨rfl⟩|exact⟨⟨rfl,rfl⟩⟩|exact⟨⟨rfl,rfl,rfl⟩⟩
  refine⟨?_⟩;refine Db ?_ ?_ fun k _=>by simp[arrV,Mm,bf]
  ·exact fun k hk=>if_pos hk
  ·refine(if_neg (Nat.lt_irrefl m)).trans ?_;rw[Nat.sub_self];rfl
 ·intro i o ho c
  match i with
  |0|1|2|3|4=>cases ho;exact fun e=>by cases e
  |i+5=>cases ho
 ·rintro E' a' σ' hx hs' hle
  obtain⟨hle,_⟩:=hle.le;have hN:1≤E'.N:=Nat.le_trans (by show 1≤2;omega) hx.N;obtain⟨hxt,hs2⟩:=Le.sim (Γ:=AEw) hle hs' hN;have hρ:(E'.ren [some 0,some 3]).ρ 0=B:=(hxt.ρ 0 (by show 0<1;omega)).trans (hx.ρ 0 (by show 0<2;omega));have hbl:Below w0.heap.size W E'.w:=⟨hx.os,hx.tape,hx.output,hx.size,fun b hb=>hx.kept b (.inl hb)⟩;have hraw:=aA.of (w0:=w0) (B:=B) hs2.heap rfl rfl (h.below.trans hbl) h.hB hρ (fun b hb=>hx.K b (.inl hb));exact hK a' E'.w ⟨hx.size,fun k o _ hk ho=>(hx.kept k (.inr (.inr ⟨o,hk,ho⟩))).trans hk⟩ hbl hraw
def Qb(n0 N:Nat)(l:Nat→List UInt8)(W:World)(x:Value):Prop:=
 ∃(ad:Option Addr) (cp:Nat),x= .slice ad N cp∧N≤cp∧(N=0∨∃b off,ad=some ⟨b,off,none⟩∧b<n0∧∀k,k<N→∀q,q<32→W.cell? ⟨b,off+k*32+q,none⟩=some (.int .u8 (((l k).getD q 0).toNat:Nat)))
theorem Qb.below{n0 N:Nat}{l:Nat→List UInt8}{W W':World}{x:Value}(h:Qb n0 N l W x)(hb:Below n0 W W'):Qb n0 N l W' x:=by
 obtain⟨ad,cp,h1,h2,h3⟩:=h;exact⟨ad,cp,h1,h2,h3.imp id fun⟨b,off,e1,e2,e3⟩=>⟨b,off,e1,e2,fun k hk q hq=>(hb.cell (p:=⟨b,_,none⟩) e2).trans (e3 k hk q hq)⟩⟩
def Zd(N:Nat)(l:Nat→List UInt8):V:= .imm true 32 N fun k=>arrV 32 (l k)
theorem Qb.rv{n0 N:Nat}{l:Nat→List UInt8}{W:World}{x:Value}(h:Qb n0 N l W x){E:Env}(hw:E.w=W)(hL:∀b,b<n0→E.L b){c:Nat→Option Value}{o:Nat}(hc:c o=some x):R E (Zd N l) c o:=by
 obtain⟨ad,cp,rfl,h2,h3⟩:=h;simp only[Zd,R];refine⟨ad,cp,hc,h2,h3.imp id fun⟨b,off,e1,e2,e3⟩=>⟨b,off,e1,hL b e2,fun k hk=>⟨by simp[arrV,A6],?_⟩⟩⟩
 simp only[arrV,R,bf,A6];intro q hq;exact⟨trivial,by rw[hw];simpa[Am]using e3 k hk q hq⟩
theorem Qb.tv{n0 N:Nat}{l:Nat→List UInt8}{W:World}{x:Value}(h:Qb n0 N l W x){E:Env}(hw:E.w=W)(hL:∀b,b<n0→E.L b):T E (Zd N l) x:=by
 have h':=h;obtain⟨ad,cp,rfl,_⟩:=h';exact Ik rfl rfl (h.rv hw hL rfl)
theorem Qb.of{n0 N:Nat}{l:Nat→List UInt8}{x:Value}{E:Env}(h:T E (Zd N l) x)(hL:∀b,E.L b→b<n0):Qb n0 N l E.w x:=by
 obtain⟨ad,cp,h1,h2,h3⟩:=Ej.1 h;refine⟨ad,cp,h1,h2,h3.imp id fun⟨b,off,e1,e2,e3⟩=>⟨b,off,e1,hL b e2,fun k hk q hq=>?_⟩⟩
 have:=(e3 k hk).2
 simp only[arrV,R,bf,A6]at this
 have:=(this q hq).2
 rw[Nat.mul_one]at this;exact this
def Uh(n0 b0 o0 N:Nat)(l:Nat→List UInt8)(W:World):Prop:=b0<n0∧∃x,W.cell? ⟨b0,o0,none⟩=some x∧Qb n0 N l W x
theorem Uh.below{n0 b0 o0 N:Nat}{l:Nat→List UInt8}{W W':World}(h:Uh n0 b0 o0 N l W)(hb:Below n0 W W'):Uh n0 b0 o0 N l W':=
 let⟨h1,x,h2,h3⟩:=h
 ⟨h1,x,(hb.cell (p:=⟨b0,o0,none⟩) h1).trans h2,h3.below hb⟩
theorem Uh.pv{n0 b0 o0 N:Nat}{l:Nat→List UInt8}{W:World}(h:Uh n0 b0 o0 N l W){E:Env}(hw:E.w=W)(hL:∀b,b<n0→E.L b):T E (.pim true (Zd N l)) (.pointer (some ⟨b0,o0,none⟩)):=by
 obtain⟨h1,x,h2,h3⟩:=h;refine Kf.2 ⟨b0,o0,rfl,hL _ h1,h3.rv (E:=E.bare) hw hL ?_⟩;rw[hw];exact h2
def ALz:Fu:=Ka 16 [] []
theorem Vr:Aj Tryz.prog ALz:=Ad 16 [] [] (fun p hp=>by cases hp) (fun p hp=>by cases hp)
theorem AOn{Γ:Fu}{E:Env}{tl:List (Nat×V)}{a:Act}(hgl:Γ.gl=[])(hw:Wf E)(hN:E.N=0)(hsz:a.tmps.size=Γ.n)(hd:a.defers=[])(ht:∀k v,Kw tl k=some v→T E v (a.eval (.tmp k))):Nh Γ E (Mq tl []) a where
 wf:=hw
 heap:=⟨by rw[hN];rfl,fun i v hi=>by simp[Mq]at hi,fun i j v v' hi=>by simp[Mq]at hi⟩
 tmp:=fun k=>by
  simp only[Mq]
  split
  ·rename_i v hv;exact ht k v hv
  ·trivial
 size:=hsz
 defers:=hd
 gl:=fun p hp=>by rw[hgl]at hp;cases hp
def iK(l:Nat→List UInt8)(k:Nat):List (List UInt8):=(List.range k).map l
theorem xE(l:Nat→List UInt8)(k:Nat):iK l (k+1)=iK l k++[l k]:=by simp[iK,List.range_succ]
theorem V4(l:Nat→List UInt8)(k:Nat):(iK l k).length=k:=by simp[iK]
structure nP(n0 N:Nat)(l:Nat→List UInt8)(y:Value)(J:List (List UInt8)→World→Prop)(k:Nat)(a:Act)(W:World):Prop where
 hn0:n0≤W.heap.size
 hk:k≤N
 hJ:J (iK l k) W
 size:a.tmps.size=16
 defers:a.defers=[]
 t0:a.eval (.tmp 0)=y
 t5:Qb n0 N l W (a.eval (.tmp 5))
 t6:a.eval (.tmp 6)= .int .i64 (N:Nat)
 t7:a.eval (.tmp 7)= .int .i64 (k:Nat)
theorem nP.sim{n0 N k:Nat}{l:Nat→List UInt8}{y:Value}{J:List (List UInt8)→World→Prop}{a:Act}{W:World}(h:nP n0 N l y J k a W):Nh ALz (Mz W n0) (Mq [(5,Zd N l),(6, .int .i64 (N:Nat)),(7, .int .i64 (k:Nat))] []) a:=
 AOn rfl (Ya h.hn0) rfl h.size h.defers fun j v hv=>by
  simp only[Kw]at hv
  split at hv
  ·rename_i e
   cases hv
   rw[show j=5 from(Nat.eq_of_beq_eq_true e).symm];exact h.t5.tv rfl (fun _ h=>h)
  split at hv
  ·rename_i e
   cases hv
   rw[show j=6 from(Nat.eq_of_beq_eq_true e).symm,h.t6];exact Ik rfl rfl rfl
  split at hv
  ·rename_i e
   cases hv
   rw[show j=7 from(Nat.eq_of_beq_eq_true e).symm,h.t7];exact Ik rfl rfl rfl
  cases hv
theorem Bb{E:Env}{k:IntKind}{n:Int}{x:Value}(h:T E (.int k n) x):x= .int k n:=by
 have:=(F7 rfl h).2
 simpa[R]using this
theorem AEd{E:Env}{b:Bool}{x:Value}(h:T E (.bool b) x):x= .bool b:=by
 have:=(F7 rfl h).2
 simpa[R]using this
theorem ALl{E:Env}{l:List UInt8}{x:Value}(h:T E (arrV 32 l) x):x=Na l:=by
 obtain⟨cs,rfl,h1,h2⟩:=Nm rfl h;simp only[arrV,R,bf,A6]at h1 h2;refine congrArg Value.agg (Array.ext (by simp[h1]) fun i hi hj=>?_);have h3:=(h2 i (by omega)).2;rw[show 0+i*1=i by omega,Array.getElem?_eq_getElem hi]at h3;simp only[Option.some.injEq]at h3;rw[h3];simp
theorem iL(n n0 b0 o0 N:Nat)(l:Nat→List UInt8)(w:World)(hs:Uh n0 b0 o0 N l w)(hn0:n0≤w.heap.size)(hN:N≤1000):
  SeqStopsK (Hj none) n Tryz.prog 94 #[.pointer (some ⟨b0,o0,none⟩)] (fun x:List UInt8=>#[Na x]) (Below n0) (fun ys=>ys=iK l N) (fun _=>True) N w:=by
 intro yl J Jx W hW hJ hJx hY h0;have hsW:=hs.below (hW.mono hn0);have hnW:n0≤W.heap.size:=Nat.le_trans hn0 hW.size;refine callsIn_of_wp (F:=Hj none) Tryz.func94 rfl trivial ?_ rfl;refine wpIn_wide.2 ?_;refine wp_seq ?_;have hts:Ts (Mz W n0) [.any, .pim true (Zd N l)] [.func (.yield yl) #[] #[], .pointer (some ⟨b0,o0,none⟩)]:=⟨trivial,hsW.pv rfl (fun _ h=>h),trivial⟩;have hs0:=T9 (Γ:=ALz) (E:=Mz W n0) (Ya hnW) rfl (fun p hp=>by cases hp) (args:=#[.func (.yield yl) #[] #[]]++#[.pointer (some ⟨b0,o0,none⟩)]) hts (n:=16) rfl (by simp);have ht0:({tmps:=#[.func (.yield yl) #[] #[]]++#[.pointer (some ⟨b0,o0,none⟩)]++Array.replicate (16 - (#[Value.func (.yield yl) #[] #[]]++#[Value.pointer (some ⟨b0,o0,none⟩)]).size) undef,defers:=[]}:Act).eval (.tmp 0)= .func (.yield yl) #[] #[]:=bQ (by simp);refine Lv Vr (E:=Mz W n0) (j:=0) (Oa (by kernel_rfl)) hs0 (K:=fun σ=>σ.t 5=Zd N l∧σ.t 6= .int .i64 (N:Nat)∧σ.t 7= .int .i64 0) ?_ ?_
 ·conv=>whnf
  exact⟨rfl,rfl,rfl⟩
 rintro E' a' σ' hx hs' ⟨k5,k6,k7⟩ hf
 have hg:=Kq hx;have t5:=hs'.tmp 5;have t6:=hs'.tmp 6;have t7:=hs'.tmp 7;rw[k5]at t5;rw[k6]at t6;rw[k7]at t7;have hv:nP n0 N l (.func (.yield yl) #[] #[]) J 0 a' E'.w:=⟨Nat.le_trans hnW hx.size,Nat.zero_le _,hJ _ _ _ none h0 hg (fun r e=>by cases e),hs'.size,hs'.defers,hf.trans ht0,Qb.of t5 (fun b hb=>(hx.L b).1 hb),Bb t6,Bb t7⟩;refine wp_block ?_;refine Zy (fun k a w=>nP n0 N l (.func (.yield yl) #[] #[]) J k a w) (fun k=>N - k) ?_ hv;clear hv hg t5 t6 t7 k5 k6 k7 hf hs' hx hs0;intro k a wr h;refine wp_seq ?_;refine Lv Vr (E:=Mz wr n0) (j:=0) (Oa (by kernel_rfl)) h.sim (K:=fun σ=>σ.t 5=Zd N l∧σ.t 6= .int .i64 (N:Nat)∧σ.t 7= .int .i64 (k:Nat)∧σ.t 8= .bool (decide ((k:Int)<(N:Nat)))) ?_ ?_
 ·conv=>whnf
  exact⟨rfl,rfl,rfl,rfl⟩
 rintro E1 a1 σ1 hx hs1 ⟨k5,k6,k7,k8⟩ hf
 have t5:=hs1.tmp 5;have t6:=hs1.tmp 6;have t7:=hs1.tmp 7;have t8:=hs1.tmp 8;rw[k5]at t5;rw[k6]at t6;rw[k7]at t7;rw[k8]at t8;have t8:=AEd t8;have h1:nP n0 N l (.func (.yield yl) #[] #[]) J k a1 E1.w:=⟨Nat.le_trans h.hn0 hx.size,h.hk,hJ _ _ _ none h.hJ (Kq hx) (fun r e=>by cases e),hs1.size,hs1.defers,hf.trans h.t0,Qb.of t5 (fun b hb=>(hx.L b).1 hb),Bb t6,Bb t7⟩;clear hx hs1 k5 k6 k7 k8 hf t5 t6 t7 h;revert h1 t8;generalize E1.w=w1;intro t8 h1;refine wp_seq ?_
 by_cases hkN:k<N
 ·refine wp_cond_true (t8.trans (by rw[decide_eq_true (by omega)])) (wp_skip ?_);refine wp_seq (wp_block (wp_seq ?_));refine Lv Vr (E:=Mz w1 n0) (j:=0) (Oa (by kernel_rfl)) h1.sim (K:=fun σ=>σ.t 5=Zd N l∧σ.t 6= .int .i64 (N:Nat)∧σ.t 7= .int .i64 (k:Nat)∧σ.t 4= .ref 0 []∧σ.h=[some (arrV 32 (l k))]) ?_ ?_
  ·conv=>whnf
   refine And.intro ⟨by omega⟩ ?_;conv=>whnf
   exact⟨rfl,rfl,rfl,rfl,rfl⟩
  rintro E2 a2 σ2 hx hs2 ⟨k5,k6,k7,k4,kh⟩ hf
  have t5:=hs2.tmp 5;have t6:=hs2.tmp 6;have t7:=hs2.tmp 7;have t4:=hs2.tmp 4;rw[k5]at t5;rw[k6]at t6;rw[k7]at t7;rw[k4]at t4;have hsh:=hs2.heap;rw[kh]at hsh;have h2:nP n0 N l (.func (.yield yl) #[] #[]) J k a2 E2.w:=⟨Nat.le_trans h1.hn0 hx.size,h1.hk,hJ _ _ _ none h1.hJ (Kq hx) (fun r e=>by cases e),hs2.size,hs2.defers,hf.trans h1.t0,Qb.of t5 (fun b hb=>(hx.L b).1 hb),Bb t6,Bb t7⟩
  have hload:(Instr.loadAt 25 (a2.eval (.tmp 4))).run Tryz.prog E2.w= .ok (Na (l k)) E2.w:=by
   have hl:Iy tb 25 (.ref 0 []) [some (arrV 32 (l k))] (fun v=>v=arrV 32 (l k)):=by
    conv=>whnf
    rfl
   obtain⟨x,v,e1,e2,e3⟩:=Yc (P:=Tryz.prog) K6 hs2.wf hsh hl t4;subst e3;rw[e1,ALl e2]
  clear hx hs2 k5 k6 k7 k4 kh hf t4 t5 t6 t7 hsh h1;revert h2 hload;generalize E2.w=w2;intro h2 hload;refine wp_seq ((wpIn_wide (n:=n)).1 (wpIn_region ?_))
  show wpOpsIn (Hj none) n Tryz.prog _ _ [0,1,2,3] a2 w2
  have hnd:∀(t u:Operand) (c:Call),Op.move t≠ .defer c:=fun t u c e=>by cases e
  refine Qv rfl rfl (fun c e=>by cases e) (v:= .func (.yield yl) #[] #[]) (w':=w2) ?_ ?_
  ·show(pure (Next.value (a2.eval (.tmp 0))):Sem Next).run Tryz.prog w2=_
   rw[h2.t0];rfl
  have s3:(a2.put (some 11) (.func (.yield yl) #[] #[])).tmps.size=16:=Ha.trans h2.size;have e11:(a2.put (some 11) (.func (.yield yl) #[] #[])).eval (.tmp 11)= .func (.yield yl) #[] #[]:=C6 (by rw[h2.size];decide);have hp:∀j:Nat,j≠11→(a2.put (some 11) (.func (.yield yl) #[] #[])).eval (.tmp j)=a2.eval (.tmp j):=fun j hj=>Eu fun e=>hj (by cases e;rfl)
  have d3:(a2.put (some 11) (.func (.yield yl) #[] #[])).defers=[]:=Dt.trans h2.defers
  show wpOpsIn (Hj none) n Tryz.prog _ _ [1,2,3] (a2.put (some 11) (.func (.yield yl) #[] #[])) w2
  revert s3 e11 hp d3;generalize a2.put (some 11) (.func (.yield yl) #[] #[])=a3;intro s3 e11 hp d3;refine Qv rfl rfl (fun c e=>by cases e) (v:=Na (l k)) (w':=w2) ?_ ?_
  ·show(do pure (Next.value (←Instr.loadAt 25 (a3.eval (.tmp 4)))):Sem Next).run Tryz.prog w2=_
   rw[Sem.run_bind,hp 4 (by decide),hload];rfl
  have s4:(a3.put (some 12) (Na (l k))).tmps.size=16:=Ha.trans s3;have e12:(a3.put (some 12) (Na (l k))).eval (.tmp 12)=Na (l k):=C6 (by rw[s3];decide);have e11':(a3.put (some 12) (Na (l k))).eval (.tmp 11)= .func (.yield yl) #[] #[]:=(Eu (by decide)).trans e11;have hp':∀j:Nat,j<11→(a3.put (some 12) (Na (l k))).eval (.tmp j)=a2.eval (.tmp j):=fun j hj=>(Eu fun e=>by have:(12:Nat)=j:=Option.some.inj e;omega).trans (hp j (by omega))
  have d4:(a3.put (some 12) (Na (l k))).defers=[]:=Dt.trans d3
  show wpOpsIn (Hj none) n Tryz.prog _ _ [2,3] (a3.put (some 12) (Na (l k))) w2
  revert s4 e12 e11' hp' d4;generalize a3.put (some 12) (Na (l k))=a4;intro s4 e12 e11' hp' d4;obtain⟨fn,tmps,assign,body,hy,hR⟩:=hY (iK l k) (l k) w2 h2.hJ (by rw[V4];exact hkN);refine ACo rfl rfl (fun c e=>by cases e) (w':=w2) (l:=yl) (fn:=fn) (tmps:=tmps) (assign:=assign) (body:=body) ?_ (hR.mono ?_)
  ·simp only[List.getElem_toArray,List.getElem_cons_succ,List.getElem_cons_zero,execOp,resolve,List.map_toArray,List.map_cons,List.map_nil,e11',e12,Deferred.ofValue,Sem.run_bind,Sem.run_pure,invoke];exact hy
  rintro e w3 (⟨rfl,hJ3,hk3⟩|⟨rfl,hJx3⟩)
  ·refine Qv rfl rfl (fun c e=>by cases e) (v:= .bool false) (w':=w3) ?_ ?_
   ·show(do pure (Next.value (←Op.unary .not ((a4.put (some 13) (.bool true)).eval (.tmp 13)))):Sem Next).run Tryz.prog w3=_
    rw[C6 (by rw[s4];decide)];rfl
   have s5:((a4.put (some 13) (.bool true)).put (some 14) (.bool false)).tmps.size=16:=Ha.trans (Ha.trans s4);have e14:((a4.put (some 13) (.bool true)).put (some 14) (.bool false)).eval (.tmp 14)= .bool false:=C6 (by rw[Ha,s4];decide);have hp5:∀j:Nat,j<11→((a4.put (some 13) (.bool true)).put (some 14) (.bool false)).eval (.tmp j)=a2.eval (.tmp j):=fun j hj=>(Eu fun e=>by have:(14:Nat)=j:=Option.some.inj e;omega).trans ((Eu fun e=>by have:(13:Nat)=j:=Option.some.inj e;omega).trans (hp' j hj))
   have d5:((a4.put (some 13) (.bool true)).put (some 14) (.bool false)).defers=[]:=Dt.trans (Dt.trans d4)
   show Code.wp Tryz.prog _ _ ((a4.put (some 13) (.bool true)).put (some 14) (.bool false)) w3
   revert s5 e14 hp5 d5
   generalize(a4.put (some 13) (.bool true)).put (some 14) (.bool false)=a5
   intro s5 e14 hp5 d5;refine wp_cond_false e14 (wp_skip ?_);have h5:nP n0 N l (.func (.yield yl) #[] #[]) (fun _ _=>True) k a5 w3:=⟨Nat.le_trans h2.hn0 hk3.size,h2.hk,trivial,s5,d5,(hp5 0 (by decide)).trans h2.t0,by rw[hp5 5 (by decide)];exact h2.t5.below hk3,(hp5 6 (by decide)).trans h2.t6,(hp5 7 (by decide)).trans h2.t7⟩
   refine Lv Vr (E:=Mz w3 n0) (j:=0) (Oa (by kernel_rfl)) h5.sim (K:=fun σ=>σ.t 5=Zd N l∧σ.t 6= .int .i64 (N:Nat)∧σ.t 7= .int .i64 (IntKind.i64.wrap ((k:Int)+1))) ?_ ?_
   ·conv=>whnf
    exact⟨rfl,rfl,rfl⟩
   rintro E6 a6 σ6 hx hs6 ⟨k5,k6,k7⟩ hf
   have t5:=hs6.tmp 5;have t6:=hs6.tmp 6;have t7:=hs6.tmp 7;rw[k5]at t5;rw[k6]at t6;rw[k7]at t7;refine⟨k+1,⟨Nat.le_trans h5.hn0 hx.size,by omega,hJ _ _ _ none (by rw[xE];exact hJ3) (Kq hx) (fun r e=>by cases e),hs6.size,hs6.defers,hf.trans h5.t0,Qb.of t5 (fun b hb=>(hx.L b).1 hb),Bb t6,?_⟩,by omega⟩
   rw[Bb t7,A3 (by omega) (by omega)];rfl
  ·refine Qv rfl rfl (fun c e=>by cases e) (v:= .bool true) (w':=w3) ?_ ?_
   ·show(do pure (Next.value (←Op.unary .not ((a4.put (some 13) (.bool false)).eval (.tmp 13)))):Sem Next).run Tryz.prog w3=_
    rw[C6 (by rw[s4];decide)];rfl
   have e14:((a4.put (some 13) (.bool false)).put (some 14) (.bool true)).eval (.tmp 14)= .bool true:=C6 (by rw[Ha,s4];decide);have d5:((a4.put (some 13) (.bool false)).put (some 14) (.bool true)).defers=[]:=Dt.trans (Dt.trans d4)
   show Code.wp Tryz.prog _ _ ((a4.put (some 13) (.bool false)).put (some 14) (.bool true)) w3
   revert e14 d5
   generalize(a4.put (some 13) (.bool false)).put (some 14) (.bool true)=a5
   intro e14 d5;refine wp_cond_true e14 (wp_ret ?_);exact⟨d5,_,results_none rfl _ _ _,⟨_,rfl⟩, .inr ⟨_,trivial,hJx3⟩⟩
 ·refine wp_cond_false (t8.trans (by rw[decide_eq_false (by omega)])) (wp_exit ?_);simp only[Exit.then,Exit.inBlock,if_true];have e:k=N:=by have:=h1.hk;omega
  exact⟨h1.defers,_,results_none rfl _ _ _,⟨_,rfl⟩, .inl ⟨_,rfl,e▸h1.hJ⟩⟩
def AQg:Fu:=Ka 13 [] []
theorem AEv:Aj Tryz.prog AQg:=Ad 13 [] [] (fun p hp=>by cases hp) (fun p hp=>by cases hp)
def lst(pre:List (List UInt8))(j:Nat):List UInt8:=pre.getD j []
theorem ALq{B n1:Nat}{lx:List UInt8}{a:Act}:OwnFrom n1 (fun(_:Unit) W=>Ax B lx a W):=fun s W W' row h hg hr=>by
 obtain⟨h1,h2,h3,b,h4,h5,h6⟩:=h;refine⟨h1,h2,h3,b,h4,iW.own _ _ _ _ h5 hg hr,fun q hq=>?_⟩;have hc:=h6 q hq;refine(World.cell?_of_block (a:=⟨b,q,none⟩) (hg.block b h5.1 fun e=>?_)).trans hc;obtain⟨_,o,ho,hn⟩:=hr b e.symm
 cases o<;>first|(cases hn;done)|(simp[World.cell?,ho]at hc;done)
theorem V8{w:World}{N b0 o0:Nat}{l:Nat→List UInt8}{ad:Option Addr}(hs:Uh w.heap.size b0 o0 N l w)(hN:N≤1000):
  Calls Tryz.prog 132 #[.slice ad 0 0, .func (.func 94) #[] #[.pointer (some ⟨b0,o0,none⟩)]] w fun e w'=>∃B x,e= .returned x∧aA w B l N w'∧w'.cell? ⟨B,0,none⟩=some x:=by
 refine(callsIn_wide (n:=3)).1 ?_;refine callsIn_of_wp_marks (F:=Hj none) Tryz.func132 rfl trivial ?_ rfl;refine wpIn_seq ?_;have hts:Ts (Mz w w.heap.size) [.emp, .any] [.slice ad 0 0, .func (.func 94) #[] #[.pointer (some ⟨b0,o0,none⟩)]]:=⟨Ik rfl rfl (by simp only[R];exact⟨ad,rfl⟩),trivial,trivial⟩;have hs0:=T9 (Γ:=AQg) (E:=Mz w w.heap.size) (Ya (Nat.le_refl _)) rfl (fun p hp=>by cases hp) (args:=#[.slice ad 0 0, .func (.func 94) #[] #[.pointer (some ⟨b0,o0,none⟩)]]) hts (n:=13) rfl (by simp);refine wpIn_wide.2 (Lv AEv (E:=Mz w w.heap.size) (j:=1) (Oa (by kernel_rfl)) hs0 (K:=fun σ=>σ.t 2= .ref 0 []∧σ.h=[some .emp]) ?_ ?_)
 ·conv=>whnf
  exact⟨rfl,rfl⟩
 rintro E1 a1 σ1 hx hs1 ⟨k2,kh⟩ hf
 have t1:a1.eval (.tmp 1)= .func (.func 94) #[] #[.pointer (some ⟨b0,o0,none⟩)]:=hf.trans (bQ (by simp));have t2:=hs1.tmp 2;rw[k2]at t2;have t2:a1.eval (.tmp 2)= .pointer (some ⟨E1.ρ 0,0,none⟩):=(I1.1 t2).2;have hsh:=hs1.heap;rw[kh]at hsh;have hb1:Below w.heap.size w E1.w:=⟨hx.os,hx.tape,hx.output,hx.size,fun b hb=>hx.kept b hb⟩
 have hraw:aA w (E1.ρ 0) (lst []) 0 E1.w:=by
  rcases hsh.live 0 _ rfl with⟨_,sz,f,h⟩|⟨v0,k0,bs,tB,h1,h2,h3⟩
  ·cases h
  simp only[R]at h3;obtain⟨ad',h3⟩:=h3;refine⟨hb1,?_,ad',0,0,tB,0,bs,#[],h1,h3,Nat.le_refl _, .inl ⟨rfl,rfl⟩⟩
  rcases Nat.lt_or_ge (E1.ρ 0) w.heap.size with h|h
  ·exact absurd (hx.K _ h) k0
  ·exact h
 have s1:a1.tmps.size=13:=hs1.size;have d1:a1.defers=[]:=hs1.defers;have hs2:=hs.below hb1;clear hx hs1 k2 kh hf hsh hs0 hts;revert t2 hraw hb1 hs2;generalize E1.ρ 0=B;generalize E1.w=w1;intro t2 hb1 hraw hs2;refine wpIn_seq (wpIn_seq (wpIn_region ?_))
 show wpOpsIn (Hj none) 3 Tryz.prog _ _ [0] a1 w1
 refine Qv rfl rfl (fun c e=>by cases e) (v:= .func (.func 94) #[] #[.pointer (some ⟨b0,o0,none⟩)]) (w':=w1) ?_ ?_
 ·show(pure (Next.value (a1.eval (.tmp 1))):Sem Next).run Tryz.prog w1=_
  rw[t1];rfl
 have e6:(a1.put (some 6) (.func (.func 94) #[] #[.pointer (some ⟨b0,o0,none⟩)])).eval (.tmp 6)= .func (.func 94) #[] #[.pointer (some ⟨b0,o0,none⟩)]:=C6 (by rw[s1];decide);have t2':(a1.put (some 6) (.func (.func 94) #[] #[.pointer (some ⟨b0,o0,none⟩)])).eval (.tmp 2)= .pointer (some ⟨B,0,none⟩):=(Eu (by decide)).trans t2;have s2:(a1.put (some 6) (.func (.func 94) #[] #[.pointer (some ⟨b0,o0,none⟩)])).tmps.size=13:=Ha.trans s1;have d2:(a1.put (some 6) (.func (.func 94) #[] #[.pointer (some ⟨b0,o0,none⟩)])).defers=[]:=Dt.trans d1
 show(Code.block 0 _).wpIn (Hj none) 3 Tryz.prog _ (a1.put (some 6) (.func (.func 94) #[] #[.pointer (some ⟨b0,o0,none⟩)])) w1
 revert e6 t2' s2 d2;generalize a1.put (some 6) (.func (.func 94) #[] #[.pointer (some ⟨b0,o0,none⟩)])=a2;intro e6 t2' s2 d2;refine wpIn_block ?_
 refine wpIn_rangeFunc_ownH (F:=Hj none) (n:=3) rfl (by decide) e6 trivial (zR Tryz.func94 (by kernel_rfl) rfl) (iL 2 w.heap.size b0 o0 N l w1 hs2 hb1.size hN) belowK_t (belowK_b hb1.size) (Below.refl _ _) (fun _=>rfl)
  (fun pre W=>aA w B (lst pre) pre.length W) (fun _ _ _=>False) ?hI (fun _ _ _ _ _ hs _ _=>hs) hraw (fun x a' W=>Ax B x a' W) (fun x a'=>ALq) ?assign ?body ?done ?stop
 case hI=>exact fun s W W' row h hg hr=>aA.own hb1.size _ _ _ _ h hg hr
 case assign=>
  intro r pre x W K hI hK;have ef:Array.foldl (fun(t:Array Value) (x:Tmp×Value)=>match x with|(p,v)=>t.setIfInBounds p v) a2.tmps ((#[7]:Array Tmp).zip #[Na x])=a2.tmps.setIfInBounds 7 (Na x):=by simp
  rw[ef];have e7:({tmps:=a2.tmps.setIfInBounds 7 (Na x),defers:=[]}:Act)=({tmps:=a2.tmps,defers:=[]}:Act).put (some 7) (Na x):=rfl;rw[e7];refine vD (n1:=w1.heap.size) hI (Ha.trans s2) Dt ((Eu (by decide)).trans t2') (C6 (by show 7<a2.tmps.size;rw[s2];decide)) hK
 case body=>
  intro r pre x a' W hr _ hI hA Ar;have hl:∀j,j<pre.length→lst pre j=lst (pre++[x]) j:=fun j hj=>by simp[lst,List.getD_eq_getElem?_getD,List.getElem?_append_left hj]
  have hx:lst (pre++[x]) pre.length=x:=by simp[lst,List.getD_eq_getElem?_getD]
  refine wpIn_block (AEk (n1:=w1.heap.size) (l:=lst (pre++[x])) (hI.congr hl) (by rw[hx];exact hA) (by omega) ?_ ?_)
  ·rintro⟨_,_,h⟩;exact h
  ·intro a'' W' h1 h2 h3;refine⟨h1,h2,?_⟩
   show aA w B (lst (pre++[x])) (pre++[x]).length W'
   rw[List.length_append];exact h3
 case done=>
  rintro D xs W hD rfl hI hK
  rw[V4]at hI;have hI:aA w B l N W:=hI.congr fun j hj=>by simp[lst,iK,List.getD_eq_getElem?_getD,hj]
  obtain⟨ad',cp,r,tB,tR,bs,cs,g1,g2,g3,g4⟩:=hI.box;have hcell:W.cell? ⟨B,0,none⟩=some (.slice ad' N cp):=by simp[World.cell?,g1,g2]
  have hBlt:B<W.heap.size:=(Array.getElem?_eq_some_iff.1 g1).1;have hDB:D≠B:=fun e=>by rw[e,g1]at hK;cases hK
  show(Code.seq _ _).wpIn (Hj none) 3 Tryz.prog _ {tmps:=a2.tmps,defers:={target:= .collected D,args:=#[]}::a2.defers} W
  refine wpIn_seq (wpIn_region ?_);have s3:({tmps:=a2.tmps,defers:={target:= .collected D,args:=#[]}::a2.defers}:Act).tmps.size=13:=s2;have t3:({tmps:=a2.tmps,defers:={target:= .collected D,args:=#[]}::a2.defers}:Act).eval (.tmp 2)= .pointer (some ⟨B,0,none⟩):=t2';have d3:({tmps:=a2.tmps,defers:={target:= .collected D,args:=#[]}::a2.defers}:Act).defers=[{target:= .collected D,args:=#[]}]:=by rw[d2]
  show wpOpsIn (Hj none) 3 Tryz.prog _ _ [0,1] {tmps:=a2.tmps,defers:={target:= .collected D,args:=#[]}::a2.defers} W
  revert s3 t3 d3
  generalize({tmps:=a2.tmps,defers:={target:= .collected D,args:=#[]}::a2.defers}:Act)=a3
  intro s3 t3 d3;refine Qv rfl rfl (fun c e=>by cases e) (v:= .slice ad' N cp) (w':=W) ?_ ?_
  ·show(do pure (Next.value (←Instr.loadAt 44 (a3.eval (.tmp 2)))):Sem Next).run Tryz.prog W=_
   rw[Sem.run_bind,t3,ABp K6 (t:=44) rfl rfl hcell];rfl
  refine Qv rfl rfl (fun c e=>by cases e) (v:= .slice ad' N cp) (w':=W) ?_ ?_
  ·show(pure (Next.value ((a3.put (some 12) (.slice ad' N cp)).eval (.tmp 12))):Sem Next).run Tryz.prog W=_
   rw[C6 (by rw[s3];decide)];rfl
  have e4:((a3.put (some 12) (.slice ad' N cp)).put (some 4) (.slice ad' N cp)).eval (.tmp 4)= .slice ad' N cp:=C6 (by rw[Ha,s3];decide);have d4:((a3.put (some 12) (.slice ad' N cp)).put (some 4) (.slice ad' N cp)).defers=[{target:= .collected D,args:=#[]}]:=Dt.trans (Dt.trans d3)
  show Code.ret.wpIn (Hj none) 3 Tryz.prog _ ((a3.put (some 12) (.slice ad' N cp)).put (some 4) (.slice ad' N cp)) W
  revert e4 d4
  generalize(a3.put (some 12) (.slice ad' N cp)).put (some 4) (.slice ad' N cp)=a4
  intro e4 d4;refine wpIn_ret ?_
  show LeavesInM (Hj none) 3 Tryz.prog Tryz.f132 a4.tmps _ a4.defers .returning W
  rw[d4];refine⟨by simp, .inl ⟨_,_,rfl,run_takeDeferred hK,?_⟩⟩;have hr:=hI;refine⟨_,results_tmp rfl _ _ _,B,_,rfl,?_,?_⟩
  ·exact aA.own (n1:=w1.heap.size) hb1.size _ _ _ (some D) hI (grownBy_putObj' W D _) (fun r e=>by cases e;exact⟨hD,_,hK,rfl⟩)
  ·have:(W.putObj D (.deferred none)).cell? ⟨B,0,none⟩=W.cell? ⟨B,0,none⟩:=World.cell?_of_block (World.putObj_heap_other (fun e=>hDB e.symm))
   rw[this,hcell];exact congrArg some e4.symm
 case stop=>exact fun _ _ _ _ _ _ h=>h.elim
def Gm(b:Bool)(N:Nat)(l:Nat→List UInt8):V:= .imm b 32 N fun k=>arrV 32 (l k)
def ADy:Ai:=fun xs h κ=>∃(i:Nat) (b:Bool) (N:Nat) (l:Nat→List UInt8),xs=[.emp, .fn 94 (.cons (.ref i []) .nil)]∧Dx h i=some (Gm b N l)∧Ob (1≤N∧N≤1000)∧κ (.sl (Ar h) [] 32 0 N N) (C2 h (.row 32 N fun k=>arrV 32 (l k)))
theorem AH1:Af Tryz.prog G 132 ADy:=by
 refine⟨fun xs h κ κ' hk ⟨i,b,N,l,h1,h2,h3,h4⟩=>⟨i,b,N,l,h1,h2,h3,hk _ _ h4⟩,fun E h xs args κ hw hs _ ht hd=>?_⟩;obtain⟨i,b,N,l,rfl,hi,⟨hN1,hN⟩,hκ⟩:=hd
 obtain⟨x0,x1,rfl⟩:∃x0 x1,args=#[x0,x1]:=by
  obtain⟨la⟩:=args
  match la,ht with
  |[x0,x1],_=>exact⟨x0,x1,rfl⟩
  |[],h=>exact h.elim
  |[_],h=>exact h.2.elim
  |_::_::_::_,h=>exact h.2.2.elim
 obtain⟨t0,t1,_⟩:=ht;have t0:=(F7 rfl t0).2;simp only[R]at t0;obtain⟨ad,e0⟩:=t0;obtain rfl:x0= .slice ad 0 0:=by simpa using e0
 obtain⟨ys,rfl,y1,_,y3⟩:=vA.1 t1;simp only[RL,R,Au,A6]at y1 y3;obtain⟨⟨hiN,y4⟩,_⟩:=y3
 obtain rfl:ys=#[.pointer (some ⟨E.ρ i,0,none⟩)]:=by
  refine Array.ext (by simpa using y1) fun k hk hk'=>?_
  have:k=0:=by simp at hk';omega
  subst this;rw[Array.getElem?_eq_getElem hk]at y4;simpa[Bk]using y4
 have hsrc:Uh E.w.heap.size (E.ρ i) 0 N l E.w:=by
  rcases hs.live i _ ((Cf h i _).1 hi)with⟨_,sz,f,h⟩|⟨v0,_,cs,t,c1,c2,c3⟩
  ·cases h
  simp only[Gm,R]at c3;obtain⟨a,cp,c4,c5,c6⟩:=c3;refine⟨(Array.getElem?_eq_some_iff.1 c1).1, .slice a N cp,by simp[World.cell?,c1,c4],a,cp,rfl,c5,c6.imp id fun⟨bb,off,e1,e2,e3⟩=>⟨bb,off,e1,?_,fun k hk q hq=>?_⟩⟩
  ·cases b
   ·exact hw.K _ (hw.S _ e2)
   ·exact hw.K _ (hw.L _ e2)
  ·have:=(e3 k hk).2
   simp only[arrV,R,bf,A6]at this
   have:=(this q hq).2
   rw[Nat.mul_one]at this;exact this
 rw[zR Tryz.func132 (by kernel_rfl) rfl];refine Calls.mono (V8 hsrc hN) ?_
 rintro e w' ⟨B,x,rfl,hraw,hcell⟩
 obtain⟨ad',cp,r,tB,tR,bs,cs,g1,g2,g3,g4⟩:=hraw.box
 have hx:x= .slice ad' N cp:=by
  simp[World.cell?,g1,g2]at hcell
  exact hcell.symm
 subst hx
 rcases g4 with⟨g4,_⟩|⟨rfl,g5,g6,g7,g8,g9⟩
 ·omega
 have hb:=hraw.below;refine⟨E.late w' r,_,_,rfl,Env.ext_late hw hb r,Env.wf_late hw hb r,?_,?_,hκ⟩
 ·rw[G6];refine AHh hw hs hb g5 g7 ?_ ?_
  ·simp only[R];intro k hk;refine⟨by simp[arrV,A6],?_⟩;simp only[arrV,R,bf,A6];intro q hq;exact⟨trivial,by rw[show 0+k*32+q*1=k*32+q by omega];exact g9 k hk q hq⟩
  ·simp only[A6];omega
 ·have hl:Ar h=E.N:=by rw[Az,hs.len]
  refine Hq.2 ⟨?_,some ⟨r,0,none⟩,cp,rfl,Nat.le_refl _,g3, .inr ⟨?_,?_,cs,tR,(0,0),?_,?_⟩⟩
  ·rw[hl];exact Nat.lt_succ_self _
  ·simp[Env.late,hl]
  ·simp[Env.late,hl,Bk]
  ·simp only[Env.late,hl,if_true];exact g7
  ·simp only[Bk];omega
end Go.Proofs.YtaihjcpfjgpmoaaGreatDoor
namespace Go.Proofs.YtaihjcpfjgpmoaaGreatDoor
open Go Go.DD
def ADt:A7:=Bf (fun(a:List UInt8×List UInt8)=>[arrV 32 a.1,arrV 32 a.2]) (fun a=>a.1.length=32∧a.2.length=32) (fun a=>Ct a.1 a.2) (.int .i64)
theorem AFv:FOk Tryz.prog [] 53 ADt:=Ge AA5
abbrev Rw:=Nat→List UInt8
def Mo(l:Rw)(j:Nat):Rw:=fun k=>if k=j then l (j - 1)else if k=j - 1 then l j else l k
def lF(l:Rw):Nat→Rw|0=>l|j+1=>if Ct (l (j+1)) (l j)<0 then lF (Mo l (j+1)) j else l
def Hn(l:Rw):Nat→Rw|0=>l|m+1=>lF (Hn l m) (m+1)
theorem Zh{l:Rw}{n j:Nat}(h:∀k,k<n→(l k).length=32)(hj:j<n):∀k,k<n→(Mo l j k).length=32:=fun k hk=>by
 unfold Mo
 split
 ·exact h _ (by omega)
 ·split
  ·exact h _ hj
  ·exact h k hk
theorem lG{n:Nat}:∀{j:Nat} {l:Rw},(∀k,k<n→(l k).length=32)→j<n→∀k,k<n→(lF l j k).length=32
 |0,l,h,_=>h
 |j+1,l,h,hj=>by
  unfold lF
  split
  ·exact lG (Zh h hj) (by omega)
  ·exact h
theorem U6{n:Nat}{l:Rw}(h:∀k,k<n→(l k).length=32):∀{m:Nat},m<n→∀k,k<n→(Hn l m k).length=32
 |0,_=>h
 |m+1,hm=>lG (U6 h (by omega)) hm
def Dv(n:Nat)(l:Rw):V:= .row 32 n fun k=>arrV 32 (l k)
structure SrA where
 n:Nat
 l:Rw
def AE0:Ai:=L8 (fun(x:SrA)=>[.sl 0 [] 32 0 x.n x.n, .int .i64 0, .int .i64 (x.n:Nat), .fn 53 .nil]) (fun x=>[some (Dv x.n x.l)]) (fun x=>x.n≤12∧∀k,k<x.n→(x.l k).length=32) (fun x=> .tup .nil) (fun x=>[some (Dv x.n (Hn x.l (x.n - 1)))])
theorem Pa:Aj Tryz.prog (Ka Tryz.f173.ntmps [(53,ADt)] []):=Ad Tryz.f173.ntmps [(53,ADt)] [] (FL.all (.cons AFv .nil)) (HL.all .nil)
def AVg:Ai:=fun xs h κ=>xs.length=4∧B4 Tryz.prog (Ka Tryz.f173.ntmps [(53,ADt)] []) (Bd Tryz.f173) Tryz.f173.results.toList xs h κ
theorem AJ2:Af Tryz.prog [] 173 AVg:=Q6 4 Pa Tryz.func173
structure InX where
 j:Nat
 g:Rw
theorem AH3:Af Tryz.prog [] 173 AE0:=Cq AJ2 (fun⟨n,l⟩ κ ⟨hn,hl⟩ h=>by
 refine⟨rfl,?_⟩;replace hn:n≤12:=hn;replace hl:∀k,k<n→(l k).length=32:=hl;refine vj Pa ?_;conv=>whnf
 refine A4 (ι:=Nat) (fun i=>[(0, .sl 0 [] 32 0 n n),(1, .int .i64 0),(2, .int .i64 (n:Nat)),(3, .fn 53 .nil),(8, .int .i64 (i:Nat))]) (fun i=>[some (Dv n (Hn l (i - 1)))]) (fun i=>1≤i∧(i≤n∨i=1)) (fun i=>n - i) 1 [some 0] ?_ (fun i hi=>vj Pa ?_)
 ·conv=>whnf
  repeat' ((first|apply Ap<;>intro _|apply An)<;>conv=>whnf)
  all_goals try exact⟨Bc⟩
  exact⟨fun k _=>Aa _ (by simp[arrV,Mm,bf])⟩
 ·obtain⟨hi1,hi2⟩:=hi;conv=>whnf
  apply Ap<;>intro h3<;>conv=>whnf
  ·have hin:i<n:=by simpa using h3
   obtain⟨m,rfl⟩:∃m,i=m+1:=⟨i - 1,by omega⟩;rw[Nat.add_sub_cancel];have hl0:=U6 hl (m:=m) (by omega);refine A4 (ι:=InX) (fun x=>[(0, .sl 0 [] 32 0 n n),(1, .int .i64 0),(2, .int .i64 (n:Nat)),(3, .fn 53 .nil),(8, .int .i64 ((m+1:Nat):Int)),(9, .int .i64 (x.j:Nat))]) (fun x=>[some (Dv n x.g)]) (fun x=>x.j≤m+1∧lF x.g x.j=Hn l (m+1)∧∀k,k<n→(x.g k).length=32) (fun x=>x.j) ⟨m+1,Hn l m⟩ [some 0] ?_ (fun x hx=>vj Pa ?_)
   ·conv=>whnf
    repeat' ((first|apply Ap<;>intro _|apply An)<;>conv=>whnf)
    all_goals try first|exact⟨Bc⟩|exact⟨fun k _=>Aa _ (by simp[arrV,Mm,bf])⟩
    ·exact⟨⟨Nat.le_refl _,rfl,hl0⟩⟩
   ·obtain⟨hx1,hx2,hx3⟩:=hx;have e1:0<x.j→IntKind.i64.wrap ((x.j:Int) - 1)=((x.j - 1:Nat):Int):=fun h=>by rw[A3 (by omega) (by omega)];omega
    have e2:lF x.g x.j=if 0<x.j∧Ct (x.g x.j) (x.g (x.j - 1))<0 then lF (Mo x.g x.j) (x.j - 1)else x.g:=by
     generalize x.j=j
     cases j with
     |zero=>rfl
     |succ p=>
      show(if Ct (x.g (p+1)) (x.g p)<0 then lF (Mo x.g (p+1)) p else x.g)=_
      simp
    conv=>whnf
    repeat' ((first|apply Ap<;>intro _|apply An)<;>conv=>whnf)
    all_goals try exact⟨B9⟩
    all_goals(try simp only[decide_eq_true_eq,decide_eq_false_iff_not,Int.toNat_natCast,Nat.zero_add]at*)
    all_goals try rw[e1 (by omega)]
    all_goals try exact⟨by omega⟩
    all_goals try exact⟨by rw[Int.toNat_natCast];omega⟩
    ·rename_i hj;replace hj:0<x.j:=by omega
     refine⟨(x.g x.j,x.g (x.j - 1)),⟨AE.refl _,AE.of ?_,trivial⟩,⟨hx3 _ (by omega),hx3 _ (by omega)⟩,?_⟩
     ·rw[Int.toNat_natCast];rfl
     intro r hr;replace hr:r=Ct (x.g x.j) (x.g (x.j - 1)):=hr;rw[←hr]at e2;conv=>whnf
     repeat' ((first|apply Ap<;>intro _|apply An)<;>conv=>whnf)
     all_goals try exact⟨B9⟩
     ·generalize hq:Hd _ _=q
      have hq2:q=true:=by
       rw[←hq]
       show Hd _ (if 0+(IntKind.i64.wrap ((x.j:Int) - 1)).toNat=0+(x.j:Int).toNat then _ else _)=true
       split<;>rfl
      subst hq2;clear hq;conv=>whnf
      rename_i hr2;have hr3:r<0:=by first|exact hr2|exact of_decide_eq_true hr2
      rw[if_pos ⟨hj,hr3⟩]at e2;have e3:0+(IntKind.i64.wrap ((x.j:Int) - 1)).toNat=x.j - 1:=by rw[e1 hj,Int.toNat_natCast];omega
      refine⟨⟨x.j - 1,Mo x.g x.j⟩,[some 0],?_⟩;conv=>whnf
      repeat' (apply An<;>conv=>whnf)
      all_goals try exact⟨Bc⟩
      ·exact⟨by rw[e1 hj]⟩
      ·refine⟨fun k _=>A5 ?_ (by simp[arrV,Mm,bf])⟩
       show _=arrV 32 (Mo x.g x.j k)
       by_cases k1:k=x.j - 1
       ·refine(if_pos (k1.trans e3.symm)).trans ?_;unfold Mo;rw[if_neg (by omega),if_pos k1];exact congrArg (fun q=>arrV 32 (x.g q)) (show 0+(x.j:Int).toNat=x.j by omega)
       ·refine(if_neg (fun h=>k1 (h.trans e3))).trans ?_;unfold Mo
        by_cases k2:k=x.j
        ·refine(if_pos (by omega)).trans ?_;rw[if_pos k2];exact congrArg (fun q=>arrV 32 (x.g q)) e3
        ·refine(if_neg (by omega)).trans ?_;rw[if_neg k2,if_neg k1]
      ·exact⟨⟨⟨by show x.j - 1≤m+1;omega,e2.symm.trans hx2,Zh hx3 (by omega)⟩,by show x.j - 1<x.j;omega⟩⟩
     ·rename_i hr2;have hr3:¬r<0:=by first|exact hr2|exact of_decide_eq_false hr2
      rw[if_neg (fun h=>hr3 h.2)]at e2;rw[e2]at hx2;refine vj Pa ?_;refine⟨m+1+1,[some 0],?_⟩;conv=>whnf
      repeat' (apply An<;>conv=>whnf)
      all_goals try exact⟨Bc⟩
      ·exact⟨by rw[A3 (by omega) (by omega)];rfl⟩
      ·refine⟨fun k _=>A5 ?_ (by simp[arrV,Mm,bf])⟩
       rw[hx2];rfl
    ·rename_i hj;replace hj:¬0<x.j:=by omega
     rw[if_neg (fun h=>hj h.1)]at e2;rw[e2]at hx2;refine vj Pa ?_;refine⟨m+1+1,[some 0],?_⟩;conv=>whnf
     repeat' (apply An<;>conv=>whnf)
     all_goals try exact⟨Bc⟩
     ·exact⟨by rw[A3 (by omega) (by omega)];rfl⟩
     ·refine⟨fun k _=>A5 ?_ (by simp[arrV,Mm,bf])⟩
      rw[hx2];rfl
  ·have hin:¬i<n:=by
    have:¬((i:Nat):Int)<(n:Nat):=by simpa using h3
    omega
   have e:i - 1=n - 1:=by omega
   rw[e];refine⟨[some 0], .tup .nil,[some (Dv n (Hn l (n - 1)))],?_⟩;conv=>whnf
   repeat' (apply An<;>conv=>whnf)
   all_goals try first|exact⟨Bc⟩|exact⟨fun k _=>Aa _ (by simp[arrV,Mm,bf])⟩
   exact h
 ) (fun _=>by simp) (fun _=>by simp[Hf,Ie]) (fun x u hu=>by
  simp at hu;subst hu
  simp only[Dv,Hf];intro k _;simp only[arrV,Br];intro q _
  trivial)
def AHn(n:Nat):Nat:=if n=0 then 0 else Nat.log2 n+1
def uU:A7:=Bf (fun(n:Nat)=>[.int .u64 (n:Nat)]) (fun n=>n≤8) (fun n=>AHn n) (fun r=> .int .i64 (r:Nat))
def FNo:A7:=fun _ _=>False
theorem Xx{P:Program}{gl:List (Nat×V)}{n:Nat}:FOk P gl n FNo:=⟨fun _ _ h=>h.elim,fun _ _ h=>h.elim⟩
def V7:Ai:=fun _ _ _=>False
theorem O2{P:Program}{gl:List (Nat×V)}{n:Nat}:Af P gl n V7:=⟨fun _ _ _ _ _ h=>h,fun _ _ _ _ _ _ _ _ _ h=>h.elim⟩
theorem AFj:FOk Tryz.prog [] 182 uU:=A8 fun n hn=>by
 show CP _ _ _ [.int .u64 (n:Nat)] fun v=>Ld v (.int .i64 (AHn n:Nat))
 have hΓ:=Ad Tryz.f182.ntmps _ _ (FL.all .nil) (HL.all .nil);refine Aw hΓ Tryz.func182 ?_
 match n,hn with
 |0,_|1,_|2,_|3,_|4,_|5,_|6,_|7,_|8,_=>
  conv=>whnf
  repeat' (first|(apply Ap<;>intro hp<;>first|(exfalso;revert hp;simp<;>omega;done)|conv=>whnf)|(apply An<;>conv=>whnf))
  ·exact⟨by decide⟩
  ·exact Ld.of (congrArg (V.int .i64) (by decide))
theorem AFf:FOk Tryz.prog [] 134 uU:=A8 fun n hn=>by
 show CP _ _ _ [.int .u64 (n:Nat)] fun v=>Ld v (.int .i64 (AHn n:Nat))
 have hΓ:=Ad Tryz.f134.ntmps [(182,uU),(181,FNo)] [] (FL.all (.cons AFj (.cons Xx .nil))) (HL.all .nil);refine Aw hΓ Tryz.func134 ?_;conv=>whnf
 refine⟨n,⟨AE.refl _,trivial⟩,⟨hn⟩,?_⟩;intro r hr;replace hr:r=AHn n:=hr;conv=>whnf
 repeat' ((first|apply Ap<;>intro _|apply An)<;>conv=>whnf)
 rw[hr];exact Ld.refl _
structure SrL where
 n:Nat
 l:Rw
 lim:Int
def ADz:Ai:=L8 (fun(x:SrL)=>[.sl 0 [] 32 0 x.n x.n, .int .i64 0, .int .i64 (x.n:Nat), .int .i64 x.lim, .fn 53 .nil]) (fun x=>[some (Dv x.n x.l)]) (fun x=>x.n≤12∧∀k,k<x.n→(x.l k).length=32) (fun x=> .tup .nil) (fun x=>[some (Dv x.n (Hn x.l (x.n - 1)))])
theorem eP:Aj Tryz.prog (Ka Tryz.f133.ntmps [] [(173,AE0),(174,V7),(175,V7),(176,V7),(177,V7),(178,V7),(179,V7),(180,V7),(133,V7)]):=Ad Tryz.f133.ntmps [] [(173,AE0),(174,V7),(175,V7),(176,V7),(177,V7),(178,V7),(179,V7),(180,V7),(133,V7)] (FL.all .nil) (HL.all (.cons AH3 (.cons O2 (.cons O2 (.cons O2 (.cons O2 (.cons O2 (.cons O2 (.cons O2 (.cons O2 .nil))))))))))
def AVe:Ai:=fun xs h κ=>xs.length=5∧B4 Tryz.prog (Ka Tryz.f133.ntmps [] [(173,AE0),(174,V7),(175,V7),(176,V7),(177,V7),(178,V7),(179,V7),(180,V7),(133,V7)]) (Bd Tryz.f133) Tryz.f133.results.toList xs h κ
theorem AJ0:Af Tryz.prog [] 133 AVe:=Q6 5 eP Tryz.func133
theorem AH2:Af Tryz.prog [] 133 ADz:=Cq AJ0 (fun⟨n,l,lim⟩ κ ⟨hn,hl⟩ h=>by
 refine⟨rfl,?_⟩;replace hn:n≤12:=hn;replace hl:∀k,k<n→(l k).length=32:=hl;refine vj eP ?_;conv=>whnf
 refine A4 (ι:=Nat) (fun i=>[(0, .sl 0 [] 32 0 n n),(1, .int .i64 0),(2, .int .i64 (n:Nat)),(3, .int .i64 lim),(4, .fn 53 .nil),(10, .tt),(11, .tt)]) (fun i=>[some (Dv n l)]) (fun i=>True) (fun i=>0) 0 [some 0] ?_ (fun i hi=>vj eP ?_)
 ·conv=>whnf
  repeat' ((first|apply Ap<;>intro _|apply An)<;>conv=>whnf)
  all_goals try first|exact⟨Bc⟩|exact⟨fun k _=>Aa _ (by simp[arrV,Mm,bf])⟩|exact⟨trivial⟩
 ·have ew:IntKind.i64.wrap ((n:Int) - 0)=(n:Int):=by rw[A3 (by omega) (by omega)];omega
  conv=>whnf
  apply Ap<;>intro h1
  ·conv=>whnf
   refine⟨⟨n,l⟩,[some 0],?_⟩;conv=>whnf
   repeat' ((first|apply Ap<;>intro _|apply An)<;>conv=>whnf)
   all_goals try first|exact⟨Bc⟩|exact⟨fun k _=>Aa _ (by simp[arrV,Mm,bf])⟩|exact⟨⟨hn,hl⟩⟩
   refine⟨[some 0], .tup .nil,[some (Dv n (Hn l (n - 1)))],?_⟩;conv=>whnf
   repeat' (apply An<;>conv=>whnf)
   all_goals try first|exact⟨Bc⟩|exact⟨fun k _=>Aa _ (by simp[arrV,Mm,bf])⟩
   exact h
  ·exfalso;rw[ew]at h1
   have:¬(n:Int)≤12:=of_decide_eq_false h1
   omega
 ) (fun _=>by simp) (fun _=>by simp[Hf,Ie]) (fun x u hu=>by
  simp at hu;subst hu
  simp only[Dv,Hf];intro k _;simp only[arrV,Br];intro q _
  trivial)
def ADx:Ai:=L8 (fun(x:SrA)=>[.sl 0 [] 32 0 x.n x.n, .fn 53 .nil]) (fun x=>[some (Dv x.n x.l)]) (fun x=>x.n≤8∧∀k,k<x.n→(x.l k).length=32) (fun x=> .tup .nil) (fun x=>[some (Dv x.n (Hn x.l (x.n - 1)))])
theorem rC:Aj Tryz.prog (Ka Tryz.f93.ntmps [(134,uU)] [(133,ADz)]):=Ad Tryz.f93.ntmps [(134,uU)] [(133,ADz)] (FL.all (.cons AFf .nil)) (HL.all (.cons AH2 .nil))
def AV5:Ai:=fun xs h κ=>xs.length=2∧B4 Tryz.prog (Ka Tryz.f93.ntmps [(134,uU)] [(133,ADz)]) (Bd Tryz.f93) Tryz.f93.results.toList xs h κ
theorem AIt:Af Tryz.prog [] 93 AV5:=Q6 2 rC Tryz.func93
theorem AGx:Af Tryz.prog [] 93 ADx:=Cq AIt (fun⟨n,l⟩ κ ⟨hn,hl⟩ h=>by
 refine⟨rfl,?_⟩;replace hn:n≤8:=hn;replace hl:∀k,k<n→(l k).length=32:=hl;refine vj rC ?_;conv=>whnf
 refine⟨n,⟨AE.of ?_,trivial⟩,⟨hn⟩,?_⟩
 ·refine congrArg (V.int .u64) ?_;rw[IntKind.wrap_u64]
  show(n:Int)%18446744073709551616=(n:Int)
  omega
 intro r hr;conv=>whnf
 refine⟨⟨n,l,r⟩,[some 0],?_⟩;conv=>whnf
 repeat' ((first|apply Ap<;>intro _|apply An)<;>conv=>whnf)
 all_goals try first|exact⟨Bc⟩|exact⟨fun k _=>Aa _ (by simp[arrV,Mm,bf])⟩|exact⟨⟨show n≤12 by omega,hl⟩⟩
 refine⟨[some 0], .tup .nil,[some (Dv n (Hn l (n - 1)))],?_⟩;conv=>whnf
 repeat' (apply An<;>conv=>whnf)
 all_goals try first|exact⟨Bc⟩|exact⟨fun k _=>Aa _ (by simp[arrV,Mm,bf])⟩
 exact h
 ) (fun _=>by simp) (fun _=>by simp[Hf,Ie]) (fun x u hu=>by
  simp at hu;subst hu
  simp only[Dv,Hf];intro k _;simp only[arrV,Br];intro q _
  trivial)
structure RwA where
 b:Bool
 n:Nat
 l:Rw
def AX3:V:= .fn 94 (.cons (.ref 0 []) .nil)
def H77:Ai:=L8 (fun(x:RwA)=>[AX3, .fn 53 .nil]) (fun x=>[some (Gm x.b x.n x.l)]) (fun x=>(1≤x.n∧x.n≤8)∧∀k,k<x.n→(x.l k).length=32) (fun x=> .sl 1 [] 32 0 x.n x.n) (fun x=>[some (Gm x.b x.n x.l),some (Dv x.n (Hn x.l (x.n - 1)))])
theorem rB:Aj Tryz.prog (L5 Tryz.f92.ntmps [] [(132,ADy)] []):=Ab Tryz.f92.ntmps [] [(132,ADy)] [] .nil (.cons (AH1) .nil)
def AEb:Ai:=fun xs h κ=>xs.length=1∧B4 Tryz.prog (L5 Tryz.f92.ntmps [] [(132,ADy)] []) (Bd Tryz.f92) Tryz.f92.results.toList xs h κ
theorem AIs:Af Tryz.prog G 92 AEb:=Q6 1 rB Tryz.func92
theorem yY:Aj Tryz.prog (L5 Tryz.f51.ntmps [] [(92,AEb),(93,ADx)] []):=Ab Tryz.f51.ntmps [] [(92,AEb),(93,ADx)] [] .nil (.cons (AIs) (.cons (hg AGx) .nil))
def S77:Ai:=fun xs h κ=>xs.length=2∧B4 Tryz.prog (L5 Tryz.f51.ntmps [] [(92,AEb),(93,ADx)] []) (Bd Tryz.f51) Tryz.f51.results.toList xs h κ
theorem AOe:Af Tryz.prog G 51 S77:=Q6 2 yY Tryz.func51
theorem AN3:Af Tryz.prog G 51 H77:=Cq AOe (fun⟨b,n,l⟩ κ ⟨⟨hn1,hn⟩,hl⟩ h=>by
 refine⟨rfl,?_⟩;replace hn:n≤8:=hn;replace hn1:1≤n:=hn1;replace hl:∀k,k<n→(l k).length=32:=hl;refine vj yY ?_;conv=>whnf
 refine⟨rfl,?_⟩;refine vj rB ?_;conv=>whnf
 refine⟨0,b,n,l,rfl,rfl,⟨by omega,by omega⟩,?_⟩;conv=>whnf
 refine⟨⟨n,l⟩,[some 1],?_⟩;conv=>whnf
 repeat' ((first|apply Ap<;>intro _|apply An)<;>conv=>whnf)
 all_goals try first|exact⟨Bc⟩|exact⟨fun k _=>Aa _ (by simp[arrV,Mm,bf])⟩|exact⟨⟨hn,hl⟩⟩|exact⟨fun _ _=>rfl⟩
 refine⟨[some 0,some 1], .sl 1 [] 32 0 n n,[some (Gm b n l),some (Dv n (Hn l (n - 1)))],?_⟩;conv=>whnf
 repeat' (apply An<;>conv=>whnf)
 all_goals try first|exact⟨Bc⟩|exact⟨fun k _=>Aa _ (by simp[arrV,Mm,bf])⟩|exact⟨fun _ _=>rfl⟩
 exact h
 ) (fun _=>by simp) (fun _=>by simp[Hf,Ie]) (fun x u hu=>by
  simp at hu
  rcases hu with rfl|rfl
  ·simp[Gm,Hf]
  ·simp only[Dv,Hf];intro k _;simp only[arrV,Br];intro q _
   trivial)
def H5(a:List UInt8):Fd:={author:=a,n:=0,es:=fun _=>Il,shut:=false,pf:=⟨Il,Il⟩}
def Xl(s:Rw):Nat→Bool|0=>false|i+1=>Xl s i||(decide (0<i)&&decide (s i=s (i - 1)))
def AI2(x:RwA):Nat×Rw×Int:=if x.n<1∨8<x.n then(0,x.l,2)else if Xl (Hn x.l (x.n - 1)) x.n then(0,x.l,11)else(x.n,Hn x.l (x.n - 1),0)
def F44:A7:=Bf (fun(x:RwA)=>[Gm x.b x.n x.l]) (fun x=>x.n≤1000000∧∀k,k<x.n→(x.l k).length=32) AI2 (fun r=> .tup (.cons (C8 false r.1 fun k=>H5 (r.2.1 k)) (.cons (.int .i64 r.2.2) .nil)))
theorem yZ:Aj Tryz.prog (L5 Tryz.f52.ntmps [] [] []):=Ab Tryz.f52.ntmps [] [] [] .nil .nil
def S78:Ai:=fun xs h κ=>xs.length=1∧B4 Tryz.prog (L5 Tryz.f52.ntmps [] [] []) (Bd Tryz.f52) Tryz.f52.results.toList xs h κ
theorem AOf:Af Tryz.prog G 52 S78:=Q6 1 yZ Tryz.func52
def wH(a:List UInt8):V:= .st (.cons (arrV 32 a) (.cons .emp (.cons .ff (.cons (.st (.cons zV (.cons zV .nil))) .nil))))
theorem ABk(m:List (Option Nat)):Da m zV (Ak Il):=by
 simp only[zV,Ak,Da];refine⟨_,rfl,?_⟩;simp only[I8,Da,aB,Bl,arrV,Il];refine⟨⟨_,rfl,fun k _=>A5 (Cz 32 k).symm trivial⟩,trivial,⟨_,rfl,fun k _=>A5 (Cz 32 k).symm trivial⟩,trivial,⟨_,rfl,?_⟩,⟨_,rfl,fun k _=>A5 (Cz 64 k).symm trivial⟩,trivial⟩;simp only[I8,Da];exact⟨trivial,trivial, .inl (by simp),trivial⟩
theorem We(m:List (Option Nat))(a:List UInt8):Da m (wH a) (Fl (H5 a)):=by
 simp only[wH,Fl,Da];refine⟨_,rfl,?_⟩;simp only[I8,Da,H5,arrV,aC];refine⟨⟨_,rfl,fun k _=>Aa _ trivial⟩, .inl (by simp),rfl,⟨_,rfl,?_⟩,trivial⟩;simp only[I8];exact⟨ABk m,ABk m,trivial⟩
theorem AF0{s:Rw}{i:Nat}(h:Xl s i=true):∀{n:Nat},i≤n→Xl s n=true
 |n,hn=>by
  induction n with
  |zero=>(obtain rfl:i=0:=by omega);exact h
  |succ n ih=>
   rcases Nat.lt_or_ge n i with h1|h1
   ·obtain rfl:i=n+1:=by omega
    exact h
   ·rw[Xl,ih h1,Bool.true_or]
theorem AMh:FOk Tryz.prog G 21 F44:=A8 fun⟨b,n,l⟩ ⟨hn6,hl⟩=>by
 replace hn6:n≤1000000:=hn6;replace hl:∀k,k<n→(l k).length=32:=hl;have hΓ:=Ab Tryz.f21.ntmps _ _ [] .nil (.cons (AOf) (.cons (AN3) .nil));refine Aw hΓ Tryz.func21 ?_;conv=>whnf
 repeat' ((first|apply Ap<;>intro _|apply An)<;>conv=>whnf)
 all_goals(try simp only[decide_eq_true_eq,decide_eq_false_iff_not]at*)
 ·rename_i g1;have e:AI2 ⟨b,n,l⟩=(0,l,2):=if_pos (.inl (by show n<1;omega));rw[e];exact Ld.two Ld.emp (by simp) rfl (by simp[C8]) rfl
 ·rename_i g1 g2;have e:AI2 ⟨b,n,l⟩=(0,l,2):=if_pos (.inr (by show 8<n;omega));rw[e];exact Ld.two Ld.emp (by simp) rfl (by simp[C8]) rfl
 all_goals
  rename_i g1 g2;have hn1:1≤n:=by omega
  have hn8:n≤8:=by omega
 ·rfl
 refine vj yZ ?_;conv=>whnf
 refine⟨⟨b,n,l⟩,[some 0],?_⟩;conv=>whnf
 repeat' ((first|apply Ap<;>intro _|apply An)<;>conv=>whnf)
 all_goals try first|exact⟨Bc⟩|exact⟨fun _ _=>rfl⟩|exact⟨⟨⟨hn1,hn8⟩,hl⟩⟩
 have hs:=U6 hl (m:=n - 1) (by omega);have e:AI2 ⟨b,n,l⟩=if Xl (Hn l (n - 1)) n then(0,l,11)else(n,Hn l (n - 1),0):=if_neg (by show¬(n<1∨8<n);omega);rw[e];clear e;revert hs;generalize Hn l (n - 1)=s;intro hs;refine A4 (ι:=Nat) (fun i=>[(4, .sl 0 [] 32 0 n n),(5, .sl 1 [] 300 0 i i),(19, .sl 0 [] 32 0 n n),(20, .int .i64 (n:Nat)),(21, .int .i64 (i:Nat))]) (fun i=>[some (Dv n s),some (.row 300 i fun k=>Fl (H5 (s k)))]) (fun i=>i≤n∧Xl s i=false) (fun i=>n - i) 0 [some 2,none] ?_ (fun i hi=>vo hΓ ?_)
 ·conv=>whnf
  repeat' ((first|apply Ap<;>intro _|apply An)<;>conv=>whnf)
  all_goals try first|exact⟨Bc⟩|exact⟨fun k _=>Aa _ (by simp[arrV,Mm,bf])⟩
  exact⟨⟨Nat.zero_le _,rfl⟩⟩
 ·obtain⟨hi1,hi2⟩:=hi;conv=>whnf
  apply Ap<;>intro h3<;>conv=>whnf
  ·have hin:i<n:=by simpa using h3
   have e1:0<i→IntKind.i64.wrap ((i:Int) - 1)=((i - 1:Nat):Int):=fun h=>by rw[A3 (by omega) (by omega)];omega
   have hd:Xl s (i+1)=(decide (0<i)&&decide (s i=s (i - 1))):=by rw[Xl,hi2,Bool.false_or]
   conv=>whnf
   repeat' ((first|apply Ap<;>intro _|apply An)<;>conv=>whnf)
   all_goals try first|exact⟨Bc⟩|exact⟨fun _ _=>rfl⟩
   all_goals(try simp only[decide_eq_true_eq,decide_eq_false_iff_not,Int.toNat_natCast,Nat.zero_add]at*)
   all_goals try(rw[e1 (by omega)]at*)
   all_goals try exact⟨by omega⟩
   ·rename_i g3 g4;replace g3:0<i:=by omega
    have g5:s i=s (i - 1):=by
     have:=(B7 (hs i hin) (hs (i - 1) (by omega))).symm.trans g4
     exact of_decide_eq_true this
    have hd2:Xl s n=true:=AF0 (i:=i+1) (by rw[hd,decide_eq_true g3,decide_eq_true g5];rfl) (show i+1≤n by omega);rw[if_pos hd2];exact Ld.two Ld.emp (by simp) rfl (by simp[C8]) rfl
   ·rename_i g3 g4;replace g3:0<i:=by omega
    have g5:¬s i=s (i - 1):=by
     have:=(B7 (hs i hin) (hs (i - 1) (by omega))).symm.trans g4
     exact of_decide_eq_false this
    rw[decide_eq_false g5,Bool.and_false]at hd;refine Or.inl ?_;conv=>whnf
    repeat' ((first|apply Ap<;>intro _|apply An)<;>conv=>whnf)
    all_goals try exact⟨Bc⟩
    ·exact⟨by show(i+1)*448≤_∧i+1≤_;omega⟩
    refine⟨i+1,[some 0,some 4],?_⟩;conv=>whnf
    repeat' (apply An<;>conv=>whnf)
    all_goals try first|exact⟨Bc⟩|exact⟨fun k _=>Aa _ (by simp[arrV,Mm,bf])⟩|exact⟨by rw[A3 (by omega) (by omega)];rfl⟩
    ·refine⟨fun k hk=>?_⟩
     by_cases hki:k<i
     ·exact A5 (if_pos hki) (Dq _)
     ·obtain rfl:k=i:=by omega
      have e:∀(F:V),F=wH (s k)→Da [some 0,some 4] F (Fl (H5 (s k))):=fun F e=>by rw[e];exact We _ _
      refine e _ ((if_neg (Nat.lt_irrefl k)).trans ?_);rw[Nat.sub_self];rfl
    ·exact⟨⟨⟨by omega,hd⟩,by omega⟩⟩
   ·rename_i g3;replace g3:¬0<i:=by omega
    rw[decide_eq_false g3,Bool.false_and]at hd;refine Or.inl ?_;conv=>whnf
    repeat' ((first|apply Ap<;>intro _|apply An)<;>conv=>whnf)
    all_goals try exact⟨Bc⟩
    ·exact⟨by show(i+1)*448≤_∧i+1≤_;omega⟩
    refine⟨i+1,[some 0,some 4],?_⟩;conv=>whnf
    repeat' (apply An<;>conv=>whnf)
    all_goals try first|exact⟨Bc⟩|exact⟨fun k _=>Aa _ (by simp[arrV,Mm,bf])⟩|exact⟨by rw[A3 (by omega) (by omega)];rfl⟩
    ·refine⟨fun k hk=>?_⟩
     by_cases hki:k<i
     ·exact A5 (if_pos hki) (Dq _)
     ·obtain rfl:k=i:=by omega
      have e:∀(F:V),F=wH (s k)→Da [some 0,some 4] F (Fl (H5 (s k))):=fun F e=>by rw[e];exact We _ _
      refine e _ ((if_neg (Nat.lt_irrefl k)).trans ?_);rw[Nat.sub_self];rfl
    ·exact⟨⟨⟨by omega,hd⟩,by omega⟩⟩
  ·have hin:i=n:=by
    have:¬((i:Nat):Int)<(n:Nat):=by simpa using h3
    omega
   subst hin;rw[if_neg (by rw[hi2];simp)];refine vo hΓ ?_;conv=>whnf
   repeat' ((first|apply Ap<;>intro _|apply An)<;>conv=>whnf)
   ·exact⟨by omega⟩
   ·exact⟨fun _ _=>Cl _⟩
   ·refine Ld.two (Ld.imm fun k _=>?_) (by simp) rfl (by simp[C8]) rfl;rw[Nat.zero_add]
end Go.Proofs.YtaihjcpfjgpmoaaGreatDoor
