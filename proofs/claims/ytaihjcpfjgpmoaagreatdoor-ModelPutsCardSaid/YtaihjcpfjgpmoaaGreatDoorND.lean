/- Part of the claim ModelPuts: W7, N23, N24, N25, N26. -/
import Derived.Test.YtaihjcpfjgpmoaaGreatDoorWA
import Derived.Test.YtaihjcpfjgpmoaaGreatDoorMA
import Derived.Test.YtaihjcpfjgpmoaaGreatDoorNC
set_option linter.unusedVariables false
set_option linter.unusedSimpArgs false
set_option maxRecDepth 100000
set_option maxHeartbeats 2000000
namespace Go.Proofs.YtaihjcpfjgpmoaaGreatDoor.Wd
open Go Go.DD
def APw:A7:=Bf (fun(a:Bys)=>[.imm a.b 1 a.n a.f]) (fun a=>a.n≤3∧(∀k,k<a.n→(a.ls k).length≤200000)∧∀k,k<a.n→a.f k=Bl (a.bs k) (a.ls k)∨(a.f k= .emp∧a.ls k=[])) (fun a=>sha (M5 a.ls a.n)) (arrV 64)
def AUm:A7:=Bf (fun(a:(Nat→UInt64)×By)=>[.row 1 8 (wV a.1),a.2.v]) (fun a=>a.2.ok∧a.2.l.length=128) (fun a=>Ho a.1 a.2.l) (fun w=> .row 1 8 (wV w))
theorem AFw:FOk Tryz.prog [] 186 AUm:=Ge fW
theorem fsumW_ok:FOk Tryz.prog [] 140 APw:=A8 fun a ⟨hn,hl,hf⟩=>by
 replace hn:a.n≤3:=hn;replace hl:∀k,k<a.n→(a.ls k).length≤200000:=hl;have hb:=R7 (ls:=a.ls) (n:=a.n) (fun k hk=>by have:=hl k hk;omega) a.n (Nat.le_refl _);have hcl:=Fa (ls:=a.ls) a.n
 have hb2:Ey a.ls a.n≤600000:=by
  have:∀i,i≤a.n→Ey a.ls i≤200000*i:=fun i=>by
   induction i with
   |zero=>intro _;simp[Ey]
   |succ i ih=>intro h;have:=ih (by omega);have:=hl i (by omega);simp only[Ey];omega
  have:=this a.n (Nat.le_refl _)
  omega
 obtain⟨L,hL⟩:∃L,L=M5 a.ls a.n:=⟨_,rfl⟩;rw[←hL]at hcl⊢;obtain⟨P,hP⟩:∃P,P=Cg L L.length:=⟨_,rfl⟩;obtain⟨q,hq⟩:∃q,P.length=128*q:=⟨_,hP▸S8 L⟩;have hz:=Gs L.length;have hq2:q≤10000:=by rw[hP,Ck]at hq;omega
 rw[Wo L q (hP▸hq),←hP];have hΓ:=Ad Tryz.f140.ntmps _ _ (FL.all (.cons oT (.cons AFm (.cons AFw .nil)))) (HL.all .nil);refine Aw hΓ Tryz.func140 ?_;conv=>whnf
 repeat' ((first|apply Ap<;>intro _|apply An)<;>conv=>whnf)
 all_goals try exact⟨Ah⟩
 refine⟨a,rfl,⟨by omega,fun k hk=>by have:=hl k hk;omega,hf⟩,?_⟩;conv=>whnf
 repeat' ((first|apply Ap<;>intro _|apply An)<;>conv=>whnf)
 rw[←hL];refine⟨.of false L,⟨AE.refl _,trivial⟩,⟨trivial,by show L.length≤_;omega⟩,fun p hp=>?_⟩;replace hp:p=P:=hp.trans hP.symm;subst hp;conv=>whnf
 repeat' ((first|apply Ap<;>intro _|apply An)<;>conv=>whnf)
 refine A4 (ι:=Nat) (fun j=>[(2, .ref 0 []),(3, .ref 1 []),(4,Bl false (p.drop (128*j)))]) (fun j=>[some (arrV 64 []),some (.row 1 8 (wV (Hy (gw J8) p j)))]) (fun j=>j≤q) (fun j=>q - j) 0 [some 0,some 1] ?_ (fun i hi=>vo hΓ ?_)
 ·conv=>whnf
  repeat' ((first|apply Ap<;>intro _|apply An)<;>conv=>whnf)
  all_goals try first|exact⟨Ah⟩|exact⟨fun k _=>Aa _ trivial⟩
  ·exact⟨lt8 (A5 rfl trivial) (A5 rfl trivial) (A5 rfl trivial) (A5 rfl trivial) (A5 rfl trivial) (A5 rfl trivial) (A5 rfl trivial) (A5 rfl trivial)⟩
 ·have hdl:(p.drop (128*i)).length=128*(q - i):=by rw[List.length_drop,hq];omega
  conv=>whnf
  apply Ap<;>intro h3<;>conv=>whnf
  ·have hin:i<q:=by
    have:(0:Int)<((p.drop (128*i)).length:Nat):=by simpa using h3
    omega
   have hd:p.drop (128*(i+1))=(p.drop (128*i)).drop 128:=by rw[List.drop_drop];congr 1
   have hs:Hy (gw J8) p (i+1)=Ho (Hy (gw J8) p i) ((p.drop (128*i)).take 128):=rfl;generalize p.drop (128*i)=r at*;obtain⟨H,hH⟩:∃H,H=Ho (Hy (gw J8) p i) (r.take 128):=⟨_,rfl⟩;rw[←hH]at hs;conv=>whnf
   repeat' ((first|apply Ap<;>intro _|apply An)<;>conv=>whnf)
   all_goals try first|exact⟨Bc⟩|exact⟨⟨by decide,by decide,by omega⟩⟩|exact⟨fun _ _=>trivial⟩
   have htl:(r.take 128).length=128:=by rw[List.length_take];omega
   refine⟨(Hy (gw J8) p i, .of false (r.take 128)),⟨AE.refl _,AE.imm' htl.symm (fun k hk=>?_),trivial⟩,⟨trivial,htl⟩,fun w hw=>?_⟩
   ·show bf r (0+k)=bf (r.take 128) k
    rw[Nat.zero_add];simp only[bf,List.getD_eq_getElem?_getD,List.getElem?_take];rw[if_pos (by omega)]
   replace hw:H=w:=(hw.trans hH.symm).symm;subst hw;conv=>whnf
   repeat' ((first|apply Ap<;>intro _|apply An)<;>conv=>whnf)
   all_goals try first|exact⟨Bc⟩|exact⟨⟨by decide,by omega,by omega⟩⟩|exact⟨fun _ _=>trivial⟩
   refine⟨i+1,[some 0,some 1],?_⟩;rw[hd,hs];conv=>whnf
   repeat' ((first|apply Ap<;>intro _|apply An)<;>conv=>whnf)
   all_goals try first|exact⟨Bc⟩|exact⟨fun k _=>Aa _ trivial⟩|exact⟨fun k _=>(Ci r 128 k).symm⟩|exact⟨by simp⟩
  ·have hin:i=q:=by
    have:¬(0:Int)<((p.drop (128*i)).length:Nat):=by simpa using h3
    omega
   subst hin;clear h3 hdl;refine vo hΓ ?_;conv=>whnf
   refine A4 (ι:=Nat) (fun j=>[(2, .ref 0 []),(3, .ref 1 []),(5, .ref 2 []),(20, .int .i64 (j:Nat))]) (fun j=>[some (arrV 64 []),some (.row 1 8 (wV (Hy (gw J8) p i))),some (.row 1 64 (fun k=> .int .u8 ((ob (Hy (gw J8) p i) j k).toNat:Nat)))]) (fun j=>j≤64) (fun j=>64 - j) 0 [some 0,some 1,some 2] ?_ (fun j hj=>vo hΓ ?_)
   ·conv=>whnf
    repeat' ((first|apply Ap<;>intro _|apply An)<;>conv=>whnf)
    all_goals try exact⟨Ba⟩
   ·conv=>whnf
    apply Ap<;>intro h2<;>conv=>whnf
    ·have hj2:j<64:=by
      have:((j:Nat):Int)<64:=of_decide_eq_true h2
      omega
     have t1:IntKind.i64.wrap ((j:Int).tdiv 8)=((j/8:Nat):Int):=by rw[Int.tdiv_eq_ediv_of_nonneg (by omega),A3 (by omega) (by omega)];omega
     have t2:IntKind.i64.wrap (56 - IntKind.i64.wrap (8*(j:Int).tmod 8))=((56 - 8*(j%8):Nat):Int):=by
      rw[Int.tmod_eq_emod_of_nonneg (by omega),A3 (x:=8*_) (by omega) (by omega),A3 (by omega) (by omega)];omega
     conv=>whnf
     repeat' ((first|apply Ap<;>intro _|apply An)<;>conv=>whnf)
     all_goals try exact⟨by omega⟩
     all_goals try exact⟨by decide⟩
     all_goals try exact⟨by rw[t1];omega⟩
     all_goals try exact⟨by rw[t2];omega⟩
     refine⟨j+1,[some 0,some 1,some 2],?_⟩;conv=>whnf
     repeat' (apply An<;>conv=>whnf)
     all_goals try first|exact⟨Ba⟩|exact⟨by rw[A3 (by omega) (by omega)];rfl⟩
     refine⟨fun k hk=>A5 ?_ trivial⟩
     by_cases hki:k=j
     ·refine(if_pos hki).trans ?_
      show V.int .u8 _=V.int .u8 ((ob (Hy (gw J8) p i) (j+1) k).toNat:Nat)
      rw[t1,t2,Int.toNat_natCast,Q8 _ _ (by omega),hki,ob,if_pos (by omega),Vd,UInt8.toNat_ofNat',IntKind.wrap_u8]
      congr 1
     ·refine(if_neg hki).trans ?_;simp only[ob]
      by_cases hk2:k<j
      ·rw[if_pos hk2,if_pos (by omega)]
      ·rw[if_neg hk2,if_neg (by omega)]
    ·have hj2:j=64:=by
      have:¬((j:Nat):Int)<64:=of_decide_eq_false h2
      omega
     subst hj2;refine vo hΓ ?_;conv=>whnf
     repeat' (apply An<;>conv=>whnf)
     ·exact⟨fun k _=>trivial⟩
     refine Ld.row fun k hk=>?_;rw[Ps _ hk,ob,if_pos (by omega)]
end Go.Proofs.YtaihjcpfjgpmoaaGreatDoor.Wd
namespace Go.Proofs.YtaihjcpfjgpmoaaGreatDoor
open Go Go.DD Go.EE
theorem ALr(l:List UInt8)(k:Nat):bf l k=bv (L7 l) k:=congrArg (V.int .u8) (congrArg Nat.cast (P6 l k).symm)
theorem Kj(l:List UInt8):arrV 32 l=Cb (L7 l):=congrArg (V.row 1 32) (funext (ALr l))
theorem AEi{m:Nat}(h:m<2^256):Cb m=arrV 32 (Wc m 32):=by rw[Kj,gK,Nat.mod_eq_of_lt h]
def cB(l:List UInt8)(k:Nat):Nat:=if k=31 then((l.getD 31 0).toNat&&&127)|||64 else if k=0 then(l.getD 0 0).toNat&&&248 else(l.getD k 0).toNat
def clL(l:List UInt8):Nat→List UInt8|0=>[]|k+1=>clL l k++[UInt8.ofNat (cB l k)]
theorem Jp(l:List UInt8):∀k,(clL l k).length=k
 |0=>rfl
 |k+1=>by simp[clL,Jp l k]
theorem rP(l:List UInt8):∀n k,k<n→(clL l n).getD k 0=UInt8.ofNat (cB l k)
 |0,_,h=>absurd h (by omega)
 |n+1,k,h=>by
  rw[clL,List.getD_eq_getElem?_getD]
  by_cases hk:k<n
  ·rw[List.getElem?_append_left (by rw[Jp];exact hk),←List.getD_eq_getElem?_getD];exact rP l n k hk
  ·obtain rfl:k=n:=by omega
   rw[List.getElem?_append_right (by rw[Jp];exact Nat.le_refl _),Jp,Nat.sub_self];rfl
def Fx(l:List UInt8):Av:=⟨L7 (clL l 32),by have:=Tq (clL l 32);rw[Jp]at this;exact this⟩
theorem AQf(l:List UInt8)(k:Nat):cB l k<256:=by
 have h:∀x:Fin 256,(x.val&&&127)|||64<256:=by decide
 have h2:∀x:Fin 256,x.val&&&248<256:=by decide
 unfold cB
 split
 ·exact h ⟨_,(l.getD 31 0).toNat_lt⟩
 ·split
  ·exact h2 ⟨_,(l.getD 0 0).toNat_lt⟩
  ·exact(l.getD k 0).toNat_lt
theorem zD{l:List UInt8}{k:Nat}(hk:k<32):Hh (Fx l).val k=cB l k:=by
 unfold Fx
 dsimp only
 rw[P6,rP l 32 k hk,UInt8.toNat_ofNat'];have h:=AQf l k;generalize cB l k=x at h⊢;omega
theorem ALp(c:UInt8):Ag .and .u8 ((c.toNat:Nat):Int) 248=((c.toNat&&&248:Nat):Int):=by
 have h:∀x:Fin 256,Ag .and .u8 ((x.val:Nat):Int) 248=((x.val&&&248:Nat):Int):=by decide
 exact h ⟨_,c.toNat_lt⟩
theorem ALo(c:UInt8):Ag .or .u8 (Ag .and .u8 ((c.toNat:Nat):Int) 127) 64=(((c.toNat&&&127)|||64:Nat):Int):=by
 have h:∀x:Fin 256,Ag .or .u8 (Ag .and .u8 ((x.val:Nat):Int) 127) 64=(((x.val&&&127)|||64:Nat):Int):=by decide
 exact h ⟨_,c.toNat_lt⟩
theorem bK{l:List UInt8}{k:Nat}(hk:k<32):(if k=31 then V.int .u8 (Ag .or .u8 (Ag .and .u8 (((l.getD 31 0).toNat:Nat):Int) 127) 64)else if k=0 then V.int .u8 (Ag .and .u8 (((l.getD 0 0).toNat:Nat):Int) 248)else bf l (0+k))=bv (Fx l).val k:=by
 rw[Nat.zero_add];unfold bv;rw[zD hk,ALo,ALp,cB]
 split
 ·rfl
 ·split
  ·rfl
  ·rfl
def AR4:A7:=Bf (fun(s:List UInt8)=>[arrV 32 s]) (fun s=>s.length=32) (fun s=>Wd.sha s) (fun h=> .tup (.cons (Cb (Fx h).val) (.cons (Bl false (h.drop 32)) .nil)))
theorem sI:FOk Tryz.prog G 98 AR4:=A8 fun s hs=>by
 replace hs:s.length=32:=hs;have hl:=Wd.sha_length s;obtain⟨h,hh⟩:∃h,h=Wd.sha s:=⟨_,rfl⟩;rw[←hh]at hl⊢
 have hd:Bl false (h.drop 32)= .imm false 1 32 fun k=>bf h (32+k):=by
  have:(h.drop 32).length=32:=by rw[List.length_drop,hl]
  rw[Bl,this];exact congrArg (V.imm false 1 32) (funext fun k=>Ci h 32 k)
 have hΓ:=Ab Tryz.f98.ntmps _ _ [(5, .one 0 (.many (.cons 1 (.one 2 (.one 3 (.done))) (.cons 2 (.one 1 (.one 3 (.done))) (.nil)))))] (.cons (Wd.fsumW_ok.g) .nil) .nil;refine Aw hΓ Tryz.func98 ?_;conv=>whnf
 repeat' ((first|apply Ap<;>intro _|apply An)<;>conv=>whnf)
 all_goals try exact⟨B9⟩
 ·refine⟨A0 ?_ A9⟩;conv=>whnf
  exact And.intro ⟨⟨rfl,by omega⟩⟩ ⟨fun _ _=>trivial⟩
 refine⟨V2 s _,⟨AE.refl _,trivial⟩,⟨by show 1≤3;omega,fun k hk=>by show s.length≤200000;omega,fun k hk=>?_⟩,fun r hr=>?_⟩
 ·obtain rfl:k=0:=by have:k<1:=hk;omega
  refine .inl (Eq.trans rfl ?_)
  show V.imm true 1 32 (fun k=>bf s (0+k))=V.imm true 1 s.length (bf s)
  simp only[Nat.zero_add,hs]
 replace hr:h=r:=(hr.trans (by rw[hh];simp[V2,M5])).symm;subst hr;conv=>whnf
 repeat' ((first|apply Ap<;>intro _|apply An)<;>conv=>whnf)
 all_goals try exact⟨B9⟩
 all_goals first
  |exact⟨fun k _=>Qq trivial (Qq trivial trivial)⟩
  |exact trivial
  |skip
 all_goals
  rw[hd];exact Ld.two (Ld.row fun k hk=>bK hk) (by simp) rfl (by simp[Cb]) rfl
def ANw(a:Bys):Prop:=a.n≤3∧(∀k,k<a.n→(a.ls k).length≤200000)∧∀k,k<a.n→a.f k=Bl (a.bs k) (a.ls k)∨(a.f k= .emp∧a.ls k=[])
def H3(l:List UInt8):Av:=sX (L7 (Wd.sha l))
def bV(m:Av):V:=Cb m.val
def AVt:A7:=Bf (fun(a:Bys)=>[.imm a.b 1 a.n a.f]) ANw (fun a=>H3 (M5 a.ls a.n)) bV
theorem sG:FOk Tryz.prog [] 171 AVt:=A8 fun a ha=>by
 obtain⟨h,hh⟩:∃h,h=Wd.sha (M5 a.ls a.n):=⟨_,rfl⟩;have hl:h.length=64:=by rw[hh];exact Wd.sha_length _
 have hv:bV (H3 (M5 a.ls a.n))=Cb (L7 h%Lo):=by rw[hh];rfl
 rw[hv];have hΓ:=Ad Tryz.f171.ntmps _ _ (FL.all (.cons Wd.fsumW_ok (.cons AGh .nil))) (HL.all .nil);refine Aw hΓ Tryz.func171 ?_;conv=>whnf
 repeat' ((first|apply Ap<;>intro _|apply An)<;>conv=>whnf)
 all_goals try exact⟨B9⟩
 refine⟨a,⟨AE.refl _,trivial⟩,⟨ha⟩,fun r hr=>?_⟩;replace hr:h=r:=(hr.trans hh.symm).symm;subst hr;conv=>whnf
 repeat' ((first|apply Ap<;>intro _|apply An)<;>conv=>whnf)
 all_goals try exact⟨B9⟩
 obtain⟨y,hy⟩:∃y,y=L7 h%Lo:=⟨_,rfl⟩;rw[←hy];refine⟨h,⟨AE.refl _,trivial⟩,⟨hl⟩,fun r hr=>?_⟩;replace hr:y=r:=(hr.trans hy.symm).symm;subst hr;conv=>whnf
 repeat' ((first|apply Ap<;>intro _|apply An)<;>conv=>whnf)
 all_goals try exact⟨B9⟩
 exact Ld.refl _
def Kk(n:Av):Av:=⟨Mw n.val,oM _⟩
def AQx:A7:=Bf (fun(n:Av)=>[bV n]) (fun _=>True) Kk bV
theorem Xr:FOk Tryz.prog G 99 AQx:=Pq AAd id (fun _=>rfl) (fun _ _=>trivial) (fun _ _=>rfl)
def G3(m:Av):List UInt8:=Wc m.val 32
theorem B5(m:Av):(G3 m).length=32:=Ff _ _
theorem T3(m:Av):bV m=arrV 32 (G3 m):=AEi m.isLt
def Vf(s:List UInt8):List UInt8:=G3 (Kk (Fx (Wd.sha s)))
def AKb:A7:=Bf (fun(s:List UInt8)=>[arrV 32 s]) (fun s=>s.length=32) Vf (arrV 32)
theorem AAj:FOk Tryz.prog G 58 AKb:=A8 fun s hs=>by
 obtain⟨h,hh⟩:∃h,h=Wd.sha s:=⟨_,rfl⟩;obtain⟨y,hy⟩:∃y,y=Kk (Fx h):=⟨_,rfl⟩;have hr:arrV 32 (Vf s)=bV y:=by rw[T3,hy,hh];rfl
 rw[hr];have hΓ:=Ab Tryz.f58.ntmps _ _ [] (.cons (sI) (.cons (Xr) .nil)) .nil;refine Aw hΓ Tryz.func58 ?_;conv=>whnf
 repeat' ((first|apply Ap<;>intro _|apply An)<;>conv=>whnf)
 all_goals try exact⟨B9⟩
 refine⟨s,⟨AE.refl _,trivial⟩,⟨hs⟩,fun r hr=>?_⟩;replace hr:h=r:=(hr.trans hh.symm).symm;subst hr;conv=>whnf
 repeat' ((first|apply Ap<;>intro _|apply An)<;>conv=>whnf)
 all_goals try exact⟨B9⟩
 refine⟨(Fx h),⟨AE.refl _,trivial⟩,⟨trivial⟩,fun rr hr=>?_⟩;replace hr:y=rr:=(hr.trans (hy.symm)).symm;subst hr;conv=>whnf
 repeat' ((first|apply Ap<;>intro _|apply An)<;>conv=>whnf)
 all_goals try exact⟨B0⟩
 exact Ld.refl _
def AR8:A7:=Bf (fun(x:Av×Av×Av)=>[bV x.1,bV x.2.1,bV x.2.2]) (fun _=>True) (fun x=>sX (x.1.val*x.2.1.val+x.2.2.val)) bV
theorem AAf:FOk Tryz.prog G 199 AR8:=Pq AG4 id (fun _=>rfl) (fun _ _=>trivial) (fun _ _=>rfl)
theorem ABf(b:Bool)(m:Av):V.imm b 1 32 (fun k=>bv m.val (0+k))=Bl b (G3 m):=by
 rw[Bl,B5];refine congrArg (V.imm b 1 32) (funext fun k=>?_);rw[Nat.zero_add];have h:=T3 m;exact congrFun (V.row.inj h).2.2 k
def AD2(p:List UInt8)(b c:Bool)(l:List UInt8)(f:Nat→V):Bys:=⟨true,2,f,fun k=>if k=0 then c else b,fun k=>if k=0 then p else l⟩
def Mp(p q:List UInt8)(b:Bool)(l:List UInt8)(f:Nat→V):Bys:=⟨true,3,f,fun k=>if k=2 then b else true,fun k=>if k=0 then p else if k=1 then q else l⟩
theorem AD4{p:List UInt8}{b c:Bool}{l:List UInt8}{f:Nat→V}(hp:p.length≤64)(hl:l.length≤100000)(h0:f 0=Bl c p)(h1:f 1=Bl b l):ANw (AD2 p b c l f):=by
 refine⟨by show 2≤3;omega,fun k hk=>?_,fun k hk=> .inl ?_⟩
 ·show(if k=0 then p else l).length≤200000
  split<;>omega
 ·replace hk:k<2:=hk
  match k,hk with
  |0,_=>exact h0
  |1,_=>exact h1
theorem Fh{p q:List UInt8}{b:Bool}{l:List UInt8}{f:Nat→V}(hp:p.length≤64)(hq:q.length≤64)(hl:l.length≤100000)(h0:f 0=Bl true p)(h1:f 1=Bl true q)(h2:f 2=Bl b l):ANw (Mp p q b l f):=by
 refine⟨by show 3≤3;omega,fun k hk=>?_,fun k hk=> .inl ?_⟩
 ·show(if k=0 then p else if k=1 then q else l).length≤200000
  split
  ·omega
  ·split<;>omega
 ·replace hk:k<3:=hk
  match k,hk with
  |0,_=>exact h0
  |1,_=>exact h1
  |2,_=>exact h2
theorem AD3(p:List UInt8)(b c:Bool)(l:List UInt8)(f:Nat→V):M5 (AD2 p b c l f).ls (AD2 p b c l f).n=p++l:=by simp[AD2,M5]
theorem K7(p q:List UInt8)(b:Bool)(l:List UInt8)(f:Nat→V):M5 (Mp p q b l f).ls (Mp p q b l f).n=p++q++l:=by simp[Mp,M5]
def Za(s t:List UInt8):List UInt8:=
 G3 (Kk (H3 ((Wd.sha s).drop 32++t)))++G3 (sX ((H3 (G3 (Kk (H3 ((Wd.sha s).drop 32++t)))++Vf s++t)).val*(Fx (Wd.sha s)).val+(H3 ((Wd.sha s).drop 32++t)).val))
theorem uF{m n:Av}{v:V}(k:Nat):(if 0+k<0+32 then(if 0+k<0 then v else bv m.val (0+(0+k - 0)))else bv n.val (0+(0+k - (0+32))))=bf (G3 m++G3 n) k:=by
 have h:=bsn (G3 m) (G3 n) k;rw[B5]at h;have hm:∀m:Av,bf (G3 m)=bv m.val:=fun m=>(V.row.inj (T3 m)).2.2.symm;rw[hm,hm]at h;simp only[Nat.zero_add,Nat.not_lt_zero,if_false,Nat.sub_zero];exact h
def ARp:A7:=Bf (fun(x:List UInt8×By)=>[arrV 32 x.1,x.2.v]) (fun x=>x.1.length=32∧x.2.ok∧x.2.l.length≤100000) (fun x=>Za x.1 x.2.l) (arrV 64)
theorem AAm:FOk Tryz.prog G 151 ARp:=A8 fun⟨s,a⟩ ⟨hs,ha,hn⟩=>by
 replace hs:s.length=32:=hs;replace ha:a.ok:=ha;replace hn:a.l.length≤100000:=hn;refine CP.by2 ha ?_
 show CP _ _ _ [arrV 32 s,Bl a.b a.l] fun v=>Ld v (arrV 64 (Za s a.l))
 generalize a.l=t at hn;generalize a.b=b;obtain⟨h,hh⟩:∃h,h=Wd.sha s:=⟨_,rfl⟩;have hl:h.length=64:=by rw[hh];exact Wd.sha_length _
 have hdl:(h.drop 32).length=32:=by rw[List.length_drop,hl]
 obtain⟨n,hnn⟩:∃n,n=Fx h:=⟨_,rfl⟩;obtain⟨p,hp⟩:∃p,p=Kk n:=⟨_,rfl⟩;obtain⟨r,hr0⟩:∃r,r=H3 (h.drop 32++t):=⟨_,rfl⟩;obtain⟨f,hf⟩:∃f,f=Kk r:=⟨_,rfl⟩;obtain⟨c,hc⟩:∃c,c=H3 (G3 f++G3 p++t):=⟨_,rfl⟩;obtain⟨z,hz⟩:∃z,z=sX (c.val*n.val+r.val):=⟨_,rfl⟩;have hres:Za s t=G3 f++G3 z:=by rw[hz,hc,hf,hr0,hp,hnn,hh];rfl
 rw[hres];have hΓ:=Ab Tryz.f151.ntmps _ _ [(5, .one 0 (.one 1 (.one 2 (.one 5 (.one 6 (.many (.cons 3 (.one 4 (.one 7 (.one 8 (.one 9 (.done))))) (.cons 8 (.one 3 (.one 4 (.one 7 (.one 9 (.done))))) (.nil))))))))),(6, .one 1 (.many (.cons 0 (.many (.cons 2 (.one 3 (.one 4 (.one 5 (.one 6 (.one 7 (.done)))))) (.cons 3 (.one 2 (.one 4 (.one 5 (.one 6 (.one 7 (.done)))))) (.nil)))) (.cons 3 (.one 0 (.one 2 (.one 4 (.one 5 (.one 6 (.one 7 (.done))))))) (.nil)))))] (.cons (sI) (.cons (Xr) (.cons (sG.g) (.cons (AAf) .nil)))) .nil;refine Aw hΓ Tryz.func151 ?_;conv=>whnf
 repeat' ((first|apply Ap<;>intro _|apply An)<;>conv=>whnf)
 all_goals try exact⟨B9⟩
 refine⟨s,⟨AE.refl _,trivial⟩,⟨hs⟩,fun rr hr=>?_⟩;replace hr:h=rr:=(hr.trans hh.symm).symm;subst hr;conv=>whnf
 repeat' ((first|apply Ap<;>intro _|apply An)<;>conv=>whnf)
 all_goals try exact⟨B9⟩
 refine⟨n,⟨AE.of (congrArg bV hnn.symm),trivial⟩,⟨trivial⟩,fun rr hr=>?_⟩;replace hr:p=rr:=(hr.trans hp.symm).symm;subst hr;conv=>whnf
 repeat' ((first|apply Ap<;>intro _|apply An)<;>conv=>whnf)
 all_goals try exact⟨B9⟩
 ·exact⟨A0 trivial (A0 trivial A9)⟩
 refine⟨AD2 (h.drop 32) b false t _,⟨AE.refl _,trivial⟩,⟨AD4 (by omega) hn rfl rfl⟩,fun rr hr=>?_⟩;replace hr:r=rr:=(hr.trans ((congrArg H3 (AD3 _ _ _ _ _)).trans hr0.symm)).symm;subst hr;conv=>whnf
 repeat' ((first|apply Ap<;>intro _|apply An)<;>conv=>whnf)
 all_goals try exact⟨B9⟩
 refine⟨r,⟨AE.refl _,trivial⟩,⟨trivial⟩,fun rr hr=>?_⟩;replace hr:f=rr:=(hr.trans (hf.symm)).symm;subst hr;conv=>whnf
 repeat' ((first|apply Ap<;>intro _|apply An)<;>conv=>whnf)
 all_goals try exact⟨B0⟩
 all_goals try exact trivial
 all_goals try exact⟨A0 trivial (A0 (And.intro ⟨⟨rfl,by omega⟩⟩ ⟨fun _ _=>trivial⟩) (A0 (And.intro ⟨⟨rfl,by omega⟩⟩ ⟨fun _ _=>trivial⟩) A9))⟩
 all_goals
  refine⟨Mp (G3 f) (G3 p) b t _,⟨AE.refl _,trivial⟩,⟨Fh (by rw[B5];omega) (by rw[B5];omega) hn (Eq.trans rfl (ABf true f)) (Eq.trans rfl (ABf true p)) rfl⟩,fun rr hr=>?_⟩;replace hr:c=rr:=(hr.trans ((congrArg H3 (K7 _ _ _ _ _)).trans hc.symm)).symm;subst hr;conv=>whnf
  repeat' ((first|apply Ap<;>intro _|apply An)<;>conv=>whnf)
 all_goals try exact⟨B9⟩
 all_goals
  refine⟨(c,n,r),⟨AE.refl _,AE.of (congrArg bV hnn.symm),AE.refl _,trivial⟩,⟨trivial⟩,fun rr hr=>?_⟩;replace hr:z=rr:=(hr.trans hz.symm).symm;subst hr;conv=>whnf
  repeat' ((first|apply Ap<;>intro _|apply An)<;>conv=>whnf)
 all_goals try exact⟨B9⟩
 all_goals try exact trivial
 all_goals
  refine Or.inl ?_;conv=>whnf
  repeat' ((first|apply Ap<;>intro _|apply An)<;>conv=>whnf)
 all_goals try first|exact⟨Bc⟩|exact⟨⟨by decide,by decide⟩⟩|exact⟨fun _ _=>trivial⟩
 all_goals
  refine Or.inl ?_;conv=>whnf
  repeat' ((first|apply Ap<;>intro _|apply An)<;>conv=>whnf)
 all_goals try first|exact⟨Bc⟩|exact⟨⟨by decide,by decide⟩⟩|exact⟨fun _ _=>trivial⟩
 all_goals try exact trivial
 all_goals first
  |exact⟨fun k _=>cast (congrArg own (uF k).symm) (Bg _ k)⟩
  |exact Ld.row fun k _=>uF k
def Zq(p t g:List UInt8):Bool:=Qw (L7 p) (H3 (g.take 32++p++t)).val (L7 (g.take 32)) (L7 (g.drop 32))
theorem Jv{l:List UInt8}(h:l.length=32):L7 l<2^256:=by have:=Tq l;rw[h]at this;exact this
structure VA where
 p:List UInt8
 t:By
 g:List UInt8
def AKc:A7:=Bf (fun(x:VA)=>[arrV 32 x.p,x.t.v,arrV 64 x.g]) (fun x=>x.p.length=32∧x.t.ok∧x.t.l.length≤100000∧x.g.length=64) (fun x=>Zq x.p x.t.l x.g) .bool
theorem Wa{l:List UInt8}(h:l.length=32):G3 ⟨L7 l,Jv h⟩=l:=by
 have h1:=T3 ⟨L7 l,Jv h⟩;have h2:bV ⟨L7 l,Jv h⟩=arrV 32 l:=(Kj l).symm;have h3:=congrFun (V.row.inj (h2.symm.trans h1)).2.2;refine List.ext_getElem? fun k=>?_
 by_cases hk:k<32
 ·have h4:=h3 k;unfold bf at h4;have h5:(l.getD k 0).toNat=((G3 ⟨L7 l,Jv h⟩).getD k 0).toNat:=Int.ofNat.inj (V.int.inj h4).2;have h6:=UInt8.toNat.inj h5;rw[List.getD_eq_getElem?_getD,List.getD_eq_getElem?_getD]at h6;have e1:k<l.length:=by omega
  have e2:k<(G3 ⟨L7 l,Jv h⟩).length:=by rw[B5];exact hk
  rw[List.getElem?_eq_getElem e1,List.getElem?_eq_getElem e2]at h6⊢;exact congrArg some h6.symm
 ·rw[List.getElem?_eq_none (by rw[B5];omega),List.getElem?_eq_none (by omega)]
theorem fI(p:Ex P):Ma p<2^256:=oM _
theorem cJ{k a x:Nat}(h:Ir k a=some x):x<2^256:=by
 unfold Ir at h
 cases hd:Cn a with
 |none=>rw[hd]at h;cases h
 |some q=>
  rw[hd]at h;have h2:=Option.some.inj h;rw[←h2];exact fI _
theorem bD{a b x:Nat}(h:Hc a b=some x):x<2^256:=by
 unfold Hc at h
 cases hd:Cn a with
 |none=>rw[hd]at h;cases h
 |some q=>
  rw[hd]at h
  cases he:Cn b with
  |none=>rw[he]at h;cases h
  |some r=>
   rw[he]at h;have h2:=Option.some.inj h;rw[←h2];exact fI _
theorem Zo{p k f s:Nat}(hk:k<2^256):(¬s<Lo∧Qw p k f s=false)∨(Cn p=none∧Qw p k f s=false)∨(Cn f=none∧Qw p k f s=false)∨
  (s<Lo∧(Cn p).isSome=true∧(Cn f).isSome=true∧∃x y,Ir k p=some x∧Hc f x=some y∧Qw p k f s=decide (y=Mw s)):=by
 by_cases h1:s<Lo
 ·cases h2:Cn p with
  |none=>exact .inr (.inl ⟨rfl,by unfold Qw;rw[h2];simp⟩)
  |some q=>
   cases h3:Cn f with
   |none=>exact .inr (.inr (.inl ⟨rfl,by unfold Qw;rw[h3];simp⟩))
   |some r=>
    obtain⟨x,z,e1,e2,e3⟩:=yO hk h3 h2;refine .inr (.inr (.inr ⟨h1,rfl,rfl,x,_,e1,e3,?_⟩));unfold Qw;rw[h2,h3,e1,decide_eq_true h1];simp[e3]
 ·exact .inl ⟨h1,by unfold Qw;rw[decide_eq_false h1];simp⟩
theorem AE.immR{l:Bool}{sz n:Nat}{f g:Nat→V}(h:∀k,k<n→Cm (f k) (g k)):AE (.imm l sz n f) (.imm l sz n g):=fun E x hT=>by
 obtain⟨a,cp,h1,h2,h3⟩:=Ej.1 hT;refine Ej.2 ⟨a,cp,h1,h2,h3.imp id fun⟨b,off,h4,h5,h6⟩=>⟨b,off,h4,h5,fun k hk=>?_⟩⟩;have h7:=h6 k hk;exact⟨(h k hk).size.trans h7.1,(h k hk).r _ _ _ h7.2⟩
theorem kQ:FOk Tryz.prog G 130 AKc:=A8 fun⟨p,a,g⟩ ⟨hp,ha,hn,hg⟩=>by
 replace hp:p.length=32:=hp;replace ha:a.ok:=ha;replace hn:a.l.length≤100000:=hn;replace hg:g.length=64:=hg;refine CP.by2 ha ?_
 show CP _ _ _ [arrV 32 p,Bl a.b a.l,arrV 64 g] fun v=>Ld v (.bool (Zq p a.l g))
 generalize a.l=t at hn;generalize a.b=b;have hfl:(g.take 32).length=32:=by rw[List.length_take];omega
 have hsl:(g.drop 32).length=32:=by rw[List.length_drop];omega
 obtain⟨P,hP⟩:∃P:Av,P=⟨L7 p,Jv hp⟩:=⟨_,rfl⟩;obtain⟨F,hF⟩:∃F:Av,F=⟨L7 (g.take 32),Jv hfl⟩:=⟨_,rfl⟩;obtain⟨S,hS⟩:∃S:Av,S=⟨L7 (g.drop 32),Jv hsl⟩:=⟨_,rfl⟩;have pl:G3 P=p:=hP▸Wa hp;have fl:G3 F=g.take 32:=hF▸Wa hfl;obtain⟨c,hc⟩:∃c,c=H3 (G3 F++G3 P++t):=⟨_,rfl⟩;have hres:Zq p t g=Qw P.val c.val F.val S.val:=by rw[hc,pl,fl,hP,hF,hS];rfl
 have hpV:arrV 32 p=bV P:=by rw[hP];exact Kj p
 have hfr:∀k,k<32→bf g (0+k)=bv F.val k:=fun k hk=>by
  have h1:=congrFun (V.row.inj (Kj (g.take 32))).2.2 k;rw[hF,Nat.zero_add];refine Eq.trans ?_ h1;simp only[bf,List.getD_eq_getElem?_getD,List.getElem?_take];rw[if_pos hk]
 have hF32:32=(G3 F).length:=(B5 F).symm
 have hfI:∀k,k<(G3 F).length→(fun k=>(fun k=>bf g (0+k)) (0+k)) k=bf (G3 F) k:=fun k hk=>by
  rw[B5]at hk
  show bf g (0+(0+k))=bf (G3 F) k
  rw[Nat.zero_add,hfr k hk];exact(congrFun (V.row.inj (T3 F)).2.2 k)
 have hsr:∀k,bf g (32+k)=bv S.val k:=fun k=>by
  have h1:=congrFun (V.row.inj (Kj (g.drop 32))).2.2 k;rw[hS,←Ci];exact h1
 have hcases:=Zo (p:=P.val) (k:=c.val) (f:=F.val) (s:=S.val) c.isLt;rw[hres,hpV];generalize Qw P.val c.val F.val S.val=V0 at hcases⊢
 have fals:(¬S.val<Lo∨Cn P.val=none∨Cn F.val=none)→V0=false:=fun h0=>by
  rcases hcases with⟨_,h⟩|⟨_,h⟩|⟨_,h⟩|⟨h1,h2,h3,_⟩
  ·exact h
  ·exact h
  ·exact h
  ·rcases h0 with h0|h0|h0
   ·exact absurd h1 h0
   ·rw[h0]at h2;cases h2
   ·rw[h0]at h3;cases h3
 have good:S.val<Lo→(Cn P.val).isSome=true→(Cn F.val).isSome=true→∃x y:Av,Ir c.val P.val=some x.val∧Hc F.val x.val=some y.val∧V0=decide (y.val=Mw S.val):=fun h1 h2 h3=>by
  rcases hcases with⟨h,_⟩|⟨h,_⟩|⟨h,_⟩|⟨_,_,_,x,y,e1,e2,e3⟩
  ·exact absurd h1 h
  ·rw[h]at h2;cases h2
  ·rw[h]at h3;cases h3
  ·exact⟨⟨x,cJ e1⟩,⟨y,bD e2⟩,e1,e2,e3⟩
 clear hcases;have hΓ:=Ab Tryz.f130.ntmps _ _ [(1, .one 0 (.one 1 (.one 2 (.one 3 (.one 4 (.one 5 (.many (.cons 6 (.one 7 (.one 8 (.one 9 (.done)))) (.cons 7 (.one 6 (.one 8 (.one 9 (.done)))) (.nil)))))))))),(4, .one 0 (.one 1 (.one 2 (.one 5 (.many (.cons 3 (.one 4 (.one 6 (.one 7 (.one 8 (.one 9 (.one 10 (.one 11 (.one 12 (.done))))))))) (.cons 10 (.one 3 (.one 4 (.one 6 (.one 7 (.one 8 (.one 9 (.one 11 (.one 12 (.done))))))))) (.nil))))))))] (.cons (AGj) (.cons (AFz.g) (.cons (sG.g) (.cons (AAg) (.cons (AAb) (.cons (Xr) .nil)))))) .nil;refine Aw hΓ Tryz.func130 ?_;conv=>whnf
 repeat' ((first|apply Ap<;>intro _|apply An)<;>conv=>whnf)
 all_goals try exact⟨B9⟩
 all_goals try exact trivial
 all_goals
  refine⟨S,⟨AE.row (fun k _=>hsr k),trivial⟩,⟨trivial⟩,fun rr hr=>?_⟩;subst hr;conv=>whnf
  repeat' ((first|apply Ap<;>intro _|apply An)<;>conv=>whnf)
  all_goals try exact⟨B9⟩
  ·rename_i h1;have h1:¬S.val<Lo:=by simpa using h1
   rw[fals (.inl h1)];exact Ld.refl _
  rename_i h1;have h1:S.val<Lo:=by simpa using h1
  obtain⟨q,hq⟩:∃q,q=(Cn P.val).isSome:=⟨_,rfl⟩;refine⟨P,⟨AE.refl _,trivial⟩,⟨trivial⟩,fun rr hr=>?_⟩;replace hr:q=rr:=(hr.trans (hq.symm)).symm;subst hr;conv=>whnf
  repeat' ((first|apply Ap<;>intro _|apply An)<;>conv=>whnf)
  all_goals try exact⟨B0⟩
  ·rename_i h2;have h2:q=false:=by simpa using h2
   rw[fals (.inr (.inl (by rw[h2]at hq;exact Option.isSome_eq_false_iff.1 hq.symm|>Option.isNone_iff_eq_none.1)))];exact Ld.refl _
  rename_i h2;have h2:q=true:=by simpa using h2
  obtain⟨u,hu⟩:∃u,u=(Cn F.val).isSome:=⟨_,rfl⟩;refine⟨F,⟨AE.row hfr,trivial⟩,⟨trivial⟩,fun rr hr=>?_⟩;replace hr:u=rr:=(hr.trans hu.symm).symm;subst hr;conv=>whnf
  repeat' ((first|apply Ap<;>intro _|apply An)<;>conv=>whnf)
  all_goals try exact⟨B9⟩
  ·rename_i h3;have h3:u=false:=by simpa using h3
   rw[fals (.inr (.inr (by rw[h3]at hu;exact Option.isSome_eq_false_iff.1 hu.symm|>Option.isNone_iff_eq_none.1)))];exact Ld.refl _
  all_goals try exact trivial
  all_goals try exact⟨A0 trivial (A0 (And.intro ⟨⟨rfl,by omega⟩⟩ ⟨fun _ _=>trivial⟩) (A0 (And.intro ⟨⟨rfl,by omega⟩⟩ ⟨fun _ _=>trivial⟩) A9))⟩
  all_goals
   rename_i h3;have h3:u=true:=by simpa using h3
   obtain⟨x,y,e1,e2,e3⟩:=good h1 (hq.symm.trans h2) (hu.symm.trans h3);refine⟨Mp (G3 F) (G3 P) b t (fun k=>if k=0 then Bl true (G3 F)else if k=1 then Bl true (G3 P)else Bl b t),⟨AE.immR (A0 (Cm.refl _) (A0 (Cm.of (Eq.trans rfl (ABf true P))) (A0 (Cm.imm hF32 hfI) A9))),trivial⟩,⟨Fh (by rw[B5];omega) (by rw[B5];omega) hn rfl rfl rfl⟩,fun rr hr=>?_⟩
   replace hr:c=rr:=(hr.trans ((congrArg H3 (K7 _ _ _ _ _)).trans hc.symm)).symm;subst hr;conv=>whnf
   repeat' ((first|apply Ap<;>intro _|apply An)<;>conv=>whnf)
  all_goals try exact⟨B9⟩
  all_goals try exact trivial
  all_goals
   refine⟨(c,P),⟨AE.refl _,AE.refl _,trivial⟩,⟨trivial⟩,fun rr hr=>?_⟩;replace hr:rr=(x.val,(0:Int)):=hr.trans (congrArg oN e1);subst hr;conv=>whnf
   repeat' ((first|apply Ap<;>intro _|apply An)<;>conv=>whnf)
  all_goals try exact⟨B9⟩
  all_goals try exact trivial
  all_goals
   refine⟨(F,x),⟨AE.row hfr,AE.refl _,trivial⟩,⟨trivial⟩,fun rr hr=>?_⟩;replace hr:rr=(y.val,(0:Int)):=hr.trans (congrArg oN e2);subst hr;conv=>whnf
   repeat' ((first|apply Ap<;>intro _|apply An)<;>conv=>whnf)
  all_goals try exact⟨B9⟩
  all_goals try exact trivial
  all_goals try(rename_i hx;exact absurd (show((0:Int)==0)=false from hx) (by decide))
  all_goals
   obtain⟨w,hw⟩:∃w,w=Kk S:=⟨_,rfl⟩;refine⟨S,⟨AE.row (fun k _=>hsr k),trivial⟩,⟨trivial⟩,fun rr hr=>?_⟩;replace hr:w=rr:=(hr.trans hw.symm).symm;subst hr;conv=>whnf
   repeat' ((first|apply Ap<;>intro _|apply An)<;>conv=>whnf)
  all_goals try first|exact⟨Bc⟩|exact⟨fun _ _=>rfl⟩
  all_goals exact Ld.of (congrArg V.bool ((Wn y.isLt w.isLt).trans (by rw[e3,hw];rfl)))
theorem AJs{s t:List UInt8}:Zq (Vf s) t (Za s t)=true:=by
 obtain⟨h,hh⟩:∃h,h=Wd.sha s:=⟨_,rfl⟩;obtain⟨n,hnn⟩:∃n,n=Fx h:=⟨_,rfl⟩;obtain⟨p,hp⟩:∃p,p=Kk n:=⟨_,rfl⟩;obtain⟨r,hr0⟩:∃r,r=H3 (h.drop 32++t):=⟨_,rfl⟩;obtain⟨f,hf⟩:∃f,f=Kk r:=⟨_,rfl⟩;obtain⟨c,hc⟩:∃c,c=H3 (G3 f++G3 p++t):=⟨_,rfl⟩;obtain⟨z,hz⟩:∃z,z=sX (c.val*n.val+r.val):=⟨_,rfl⟩;have hres:Za s t=G3 f++G3 z:=by rw[hz,hc,hf,hr0,hp,hnn,hh];rfl
 have hpub:Vf s=G3 p:=by rw[hp,hnn,hh];rfl
 have ht:(G3 f++G3 z).take 32=G3 f:=by rw[List.take_append_of_le_length (by rw[B5];exact Nat.le_refl _),List.take_of_length_le (by rw[B5];exact Nat.le_refl _)]
 have hd:(G3 f++G3 z).drop 32=G3 z:=by
  have:=List.drop_left (l₁:=G3 f) (l₂:=G3 z)
  rwa [B5]at this
 have hl:∀m:Av,L7 (G3 m)=m.val:=fun m=>by
  rw[G3,gK];exact Nat.mod_eq_of_lt m.isLt
 unfold Zq;rw[hres,hpub,ht,hd,←hc,hl,hl,hl];have e1:p.val=Mw n.val:=by rw[hp];rfl
 have e2:f.val=Mw r.val:=by rw[hf];rfl
 have e3:z.val=(c.val*n.val+r.val)%Lo:=by rw[hz];rfl
 rw[e1,e2,e3];exact ACu n.isLt c.isLt r.isLt
end Go.Proofs.YtaihjcpfjgpmoaaGreatDoor
