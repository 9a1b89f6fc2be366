/- Part of the claim ModelPuts: N40, N41, N42, N43, N44, N45. -/
import Derived.Test.YtaihjcpfjgpmoaaGreatDoorMB
import Derived.Test.YtaihjcpfjgpmoaaGreatDoorNF
set_option linter.unusedVariables false
set_option linter.unusedSimpArgs false
set_option maxRecDepth 100000
set_option maxHeartbeats 2000000
namespace Go.Proofs.YtaihjcpfjgpmoaaGreatDoor
open Go Go.DD Go.EE
def D0(k:Int):Prop:=k=1∨k=2
def Dd(k:Int)(s:List UInt8):List UInt8:=if k=1 then Vf s else Ol s
def aY(k:Int)(s t:List UInt8):List UInt8:=if k=1 then Za s t else Ox (Ol s) t
def Ua(k:Int)(p t g:List UInt8):Bool:=if k=1 then Zq p t g else decide (g=Ox p t)
theorem ACh(s:List UInt8):(Vf s).length=32:=B5 _
theorem Ok(k:Int)(s:List UInt8):(Dd k s).length=32:=by
 unfold Dd
 split
 ·exact ACh s
 ·exact Yu s
theorem ACt(s t:List UInt8):(Za s t).length=64:=by
 unfold Za;rw[List.length_append,B5,B5]
theorem mM(k:Int)(s t:List UInt8):(aY k s t).length=64:=by
 unfold aY
 split
 ·exact ACt s t
 ·rw[Ox,List.length_append,sha_length,sha_length]
theorem ADa{k:Int}(hk:D0 k)(s t:List UInt8):Ua k (Dd k s) t (aY k s t)=true:=by
 unfold Ua Dd aY
 rcases hk with rfl|rfl
 ·rw[if_pos rfl,if_pos rfl,if_pos rfl];exact AJs
 ·rw[if_neg (by decide),if_neg (by decide),if_neg (by decide)];exact decide_eq_true rfl
theorem AKl(s:List UInt8):Dd 1 s=Vf s:=if_pos rfl
theorem ACg(s:List UInt8):Dd 2 s=Ol s:=if_neg (by decide)
theorem ASn(s t:List UInt8):aY 1 s t=Za s t:=if_pos rfl
theorem ASo(s t:List UInt8):aY 2 s t=Ox (Ol s) t:=if_neg (by decide)
theorem AKs(p t g:List UInt8):Ua 1 p t g=Zq p t g:=if_pos rfl
theorem AKt(p t g:List UInt8):Ua 2 p t g=decide (g=Ox p t):=if_neg (by decide)
def okT(r:V):V:= .tup (.cons r (.cons (.int .i64 0) .nil))
def APr:A7:=Bf (fun(x:Int×List UInt8)=>[.int .i64 x.1,arrV 32 x.2]) (fun x=>D0 x.1∧x.2.length=32) (fun x=>Dd x.1 x.2) (fun r=>okT (arrV 32 r))
theorem AAz{s:List UInt8}(hs:s.length=32):CP Tryz.prog G 24 [.int .i64 1,arrV 32 s] fun v=>Ld v (okT (arrV 32 (Vf s))):=by
 obtain⟨p,hpe⟩:∃p,p=Vf s:=⟨_,rfl⟩;rw[←hpe];have hΓ:=Ab Tryz.f24.ntmps _ _ [] (.cons (Pi.g) (.cons (AAj) (.cons (Rq.g) .nil))) .nil;refine Aw hΓ Tryz.func24 ?_;conv=>whnf
 refine⟨1,⟨AE.refl _,trivial⟩,⟨trivial⟩,fun r hr=>?_⟩;replace hr:r=true:=hr;subst hr;conv=>whnf
 repeat' (first|(apply Ap<;>intro hp<;>first|(exfalso;revert hp;simp;done)|conv=>whnf)|(apply An<;>conv=>whnf))
 all_goals try exact⟨Ah⟩
 refine⟨s,⟨AE.refl _,trivial⟩,⟨hs⟩,fun rr hr=>?_⟩;replace hr:p=rr:=(hr.trans hpe.symm).symm;subst hr;conv=>whnf
 repeat' ((first|apply Ap<;>intro _|apply An)<;>conv=>whnf)
 all_goals try exact⟨Ah⟩
 exact Ld.refl _
theorem kY:FOk Tryz.prog G 24 APr:=A8 fun⟨k,s⟩ ⟨hk,hs⟩=>by
 replace hs:s.length=32:=hs
 show CP _ _ _ [.int .i64 k,arrV 32 s] fun v=>Ld v (okT (arrV 32 (Dd k s)))
 rcases hk with hk|hk
 ·replace hk:k=1:=hk;subst hk;rw[AKl];exact AAz hs
 ·replace hk:k=2:=hk;subst hk;rw[ACg];exact AGv.g.ok _ _ ⟨s,⟨AE.refl _,AE.refl _,trivial⟩,⟨hs⟩,fun r hr=>by rw[hr];exact Ld.refl _⟩
structure SK where
 k:Int
 s:List UInt8
 t:By
def APu:A7:=Bf (fun(x:SK)=>[.int .i64 x.k,arrV 32 x.s,x.t.v]) (fun x=>D0 x.k∧x.s.length=32∧x.t.ok∧x.t.l.length≤100000) (fun x=>aY x.k x.s x.t.l) (fun r=>okT (arrV 64 r))
theorem AB1{s t:List UInt8}{b:Bool}(hs:s.length=32)(ht:t.length≤100000):CP Tryz.prog G 104 [.int .i64 1,arrV 32 s,Bl b t] fun v=>Ld v (okT (arrV 64 (Za s t))):=by
 obtain⟨p,hpe⟩:∃p,p=Za s t:=⟨_,rfl⟩;rw[←hpe];have hΓ:=Ab Tryz.f104.ntmps _ _ [] (.cons (Pi.g) (.cons (AAm) (.cons (Rq.g) (.cons (Rn) .nil)))) .nil;refine Aw hΓ Tryz.func104 ?_;conv=>whnf
 refine⟨1,⟨AE.refl _,trivial⟩,⟨trivial⟩,fun r hr=>?_⟩;replace hr:r=true:=hr;subst hr;conv=>whnf
 repeat' (first|(apply Ap<;>intro hp<;>first|(exfalso;revert hp;simp;done)|conv=>whnf)|(apply An<;>conv=>whnf))
 all_goals try exact⟨Ah⟩
 refine⟨(s, .of b t),⟨AE.refl _,AE.refl _,trivial⟩,⟨hs,trivial,ht⟩,fun rr hr=>?_⟩;replace hr:p=rr:=(hr.trans hpe.symm).symm;subst hr;conv=>whnf
 repeat' ((first|apply Ap<;>intro _|apply An)<;>conv=>whnf)
 all_goals try exact⟨Ah⟩
 exact Ld.refl _
theorem AB2:FOk Tryz.prog G 104 APu:=A8 fun⟨k,s,a⟩ ⟨hk,hs,ha,hn⟩=>by
 replace hs:s.length=32:=hs;replace ha:a.ok:=ha;replace hn:a.l.length≤100000:=hn;refine by3 ha ?_
 show CP _ _ _ [.int .i64 k,arrV 32 s,Bl a.b a.l] fun v=>Ld v (okT (arrV 64 (aY k s a.l)))
 rcases hk with hk|hk
 ·replace hk:k=1:=hk;subst hk;rw[ASn];exact AB1 hs hn
 ·replace hk:k=2:=hk;subst hk;rw[ASo];exact AB3.ok _ _ ⟨(s, .of a.b a.l),⟨AE.refl _,AE.refl _,AE.refl _,trivial⟩,⟨hs,trivial,hn⟩,fun r hr=>by rw[hr];exact Ld.refl _⟩
structure VK where
 k:Int
 p:List UInt8
 t:By
 g:List UInt8
def AK2:A7:=Bf (fun(x:VK)=>[.int .i64 x.k,arrV 32 x.p,x.t.v,arrV 64 x.g]) (fun x=>D0 x.k∧x.p.length=32∧x.t.ok∧x.t.l.length≤100000∧x.g.length=64) (fun x=>Ua x.k x.p x.t.l x.g) .bool
theorem dC(p t:List UInt8):(Ox p t).length=64:=by rw[Ox,List.length_append,sha_length,sha_length]
theorem AB5:FOk Tryz.prog G 91 AK2:=A8 fun⟨k,p,a,g⟩ ⟨hk,hpl,ha,hn,hg⟩=>by
 replace hpl:p.length=32:=hpl;replace ha:a.ok:=ha;replace hn:a.l.length≤100000:=hn;replace hg:g.length=64:=hg;refine by3 ha ?_
 show CP _ _ _ [.int .i64 k,arrV 32 p,Bl a.b a.l,arrV 64 g] fun v=>Ld v (.bool (Ua k p a.l g))
 generalize a.l=t at hn;generalize a.b=b
 rcases hk with hk|hk
 ·replace hk:k=1:=hk;subst hk;obtain⟨q,hq⟩:∃q,q=Zq p t g:=⟨_,rfl⟩;rw[AKs,←hq];have hΓ:=Ab Tryz.f91.ntmps _ _ [] (.cons (kQ) (.cons (Rn) .nil)) .nil;refine Aw hΓ Tryz.func91 ?_;conv=>whnf
  repeat' (first|(apply Ap<;>intro hp<;>first|(exfalso;revert hp;simp;done)|conv=>whnf)|(apply An<;>conv=>whnf))
  all_goals try exact⟨Ah⟩
  refine⟨⟨p, .of b t,g⟩,⟨AE.refl _,AE.refl _,AE.refl _,trivial⟩,⟨hpl,trivial,hn,hg⟩,fun rr hr=>?_⟩;replace hr:q=rr:=(hr.trans hq.symm).symm;subst hr;conv=>whnf
  repeat' ((first|apply Ap<;>intro _|apply An)<;>conv=>whnf)
  all_goals try exact⟨Ah⟩
  exact Ld.refl _
 ·replace hk:k=2:=hk;subst hk;obtain⟨q,hq⟩:∃q,q=Ox p t:=⟨_,rfl⟩;have hqe:De 64 (bf g) (bf q)=decide (g=q):=B7 hg (hq▸dC p t);rw[AKt,←hq,←hqe];have hΓ:=Ab Tryz.f91.ntmps _ _ [] (.cons (kQ) (.cons (Rn) .nil)) .nil;refine Aw hΓ Tryz.func91 ?_;conv=>whnf
  repeat' (first|(apply Ap<;>intro hp<;>first|(exfalso;revert hp;simp;done)|conv=>whnf)|(apply An<;>conv=>whnf))
  all_goals try exact⟨Ah⟩
  refine⟨(p, .of b t),⟨AE.refl _,AE.refl _,trivial⟩,⟨hpl,trivial,hn⟩,fun rr hr=>?_⟩;replace hr:q=rr:=(hr.trans hq.symm).symm;subst hr;conv=>whnf
  repeat' ((first|apply Ap<;>intro _|apply An)<;>conv=>whnf)
  all_goals try exact⟨Ah⟩
  exact Ld.refl _
def AL7:A7:=Bf (fun(x:Int×List UInt8)=>[.int .i64 x.1,arrV 32 x.2]) (fun x=>D0 x.1∧x.2.length=32) (fun x=>Dd x.1 x.2) (arrV 32)
theorem vP:FOk Tryz.prog G 11 AL7:=A8 fun⟨k,s⟩ ⟨hk,hs⟩=>by
 replace hs:s.length=32:=hs
 show CP _ _ _ [.int .i64 k,arrV 32 s] fun v=>Ld v (arrV 32 (Dd k s))
 rcases hk with hk|hk
 ·replace hk:k=1:=hk;subst hk;rw[AKl];obtain⟨q,hq⟩:∃q,q=Vf s:=⟨_,rfl⟩;rw[←hq];have hΓ:=Ab Tryz.f11.ntmps _ _ [] (.cons (ANz) (.cons (f50_ok.g) (.cons (O0.g) .nil))) .nil;refine Aw hΓ Tryz.func11 ?_;conv=>whnf
  repeat' (first|(apply Ap<;>intro hp<;>first|(exfalso;revert hp;simp;done)|conv=>whnf)|(apply An<;>conv=>whnf))
  all_goals try exact⟨Ah⟩
  refine⟨s,⟨AE.refl _,trivial⟩,⟨hs⟩,fun rr hr=>?_⟩;replace hr:q=rr:=(hr.trans hq.symm).symm;subst hr;conv=>whnf
  repeat' ((first|apply Ap<;>intro _|apply An)<;>conv=>whnf)
  all_goals try exact⟨Ah⟩
  exact Ld.refl _
 ·replace hk:k=2:=hk;subst hk;rw[ACg];exact kZ.g.ok _ _ ⟨s,⟨AE.refl _,AE.refl _,trivial⟩,⟨hs⟩,fun r hr=>by rw[hr];exact Ld.refl _⟩
theorem tF(c:UInt8){f:Nat→V}(h:f 0= .int .u8 (c.toNat:Nat)):Cm (.imm true 1 1 f) (Bl true [c]):=Cm.imm rfl (A0 h A9)
theorem lV{x y:List UInt8}(hx:x.length=32)(k:Nat)(hk:k<64):(if 32≤k∧k<32+min (32 - 0) (64 - 32)then(fun k=>bf y (0+k)) (k - 32)else if 0≤k∧k<0+min (32 - 0) (32 - 0)then(fun k=>bf x (0+k)) (k - 0)else V.int .u8 0)=bf (x++y) k:=by
 have h:=bsn x y k;rw[hx]at h;rw[←h]
 by_cases hk2:k<32
 ·rw[if_neg (by omega),if_pos ⟨Nat.zero_le k,by omega⟩,if_pos hk2];exact congrArg (bf x) (Nat.zero_add k)
 ·rw[if_pos ⟨by omega,by omega⟩,if_neg hk2];exact congrArg (bf y) (Nat.zero_add _)
theorem tU:FOk Tryz.prog G 164 xQ:=A8 fun⟨p,a⟩ ⟨hp,ha,hn⟩=>by
 replace hp:p.length=32:=hp;replace ha:a.ok:=ha;replace hn:a.l.length≤100000:=hn;have hpl:=hp;refine CP.by2 ha ?_
 show CP _ _ _ [arrV 32 p,Bl a.b a.l] fun v=>Ld v (arrV 64 (Ox p a.l))
 generalize a.l=t at hn;generalize a.b=b;obtain⟨x,hx⟩:∃x,x=sha (2::(p++t)):=⟨_,rfl⟩;obtain⟨y,hy⟩:∃y,y=sha (3::(p++t)):=⟨_,rfl⟩;have hxl:x.length=32:=by rw[hx];exact sha_length _
 rw[show Ox p t=x++y by rw[hx,hy];rfl];have hΓ:=Ab Tryz.f164.ntmps _ _ [] (.cons (f50_ok.g) (.cons (O0.g) .nil)) .nil;refine Aw hΓ Tryz.func164 ?_;conv=>whnf
 repeat' ((first|apply Ap<;>intro _|apply An)<;>conv=>whnf)
 all_goals try first|exact⟨Bc⟩|exact⟨A0 trivial (A0 (And.intro ⟨⟨rfl,by omega⟩⟩ ⟨fun _ _=>trivial⟩) (A0 (And.intro ⟨⟨rfl,by omega⟩⟩ ⟨A0 trivial A9⟩) A9))⟩|exact⟨A0 trivial A9⟩
 refine⟨Mp [2] p b t (fun k=>if k=0 then Bl true [2]else if k=1 then Bl true p else Bl b t),⟨AE.immR (A0 (Cm.refl _) (A0 (Cm.of (lE hpl)) (A0 (tF 2 rfl) A9))),trivial⟩,⟨by show 3≤1000;omega,fun k hk=>Nat.le_trans ((Fh (p:=[2]) (q:=p) (b:=b) (l:=t) (f:=fun k=>if k=0 then Bl true [2]else if k=1 then Bl true p else Bl b t) (by decide) (by omega) hn rfl rfl rfl).2.1 k hk) (by decide),(Fh (by decide) (by omega) hn rfl rfl rfl).2.2⟩,fun rr hr=>?_⟩
 replace hr:2::(p++t)=rr:=(hr.trans (K7 _ _ _ _ _)).symm;subst hr;conv=>whnf
 repeat' ((first|apply Ap<;>intro _|apply An)<;>conv=>whnf)
 all_goals try exact⟨B9⟩
 refine⟨.of false (2::(p++t)),⟨AE.refl _,trivial⟩,⟨trivial,by show(2::(p++t)).length≤1000000;rw[List.length_cons,List.length_append];omega⟩,fun rr hr=>?_⟩;replace hr:x=rr:=(hr.trans hx.symm).symm;subst hr;conv=>whnf
 repeat' ((first|apply Ap<;>intro _|apply An)<;>conv=>whnf)
 all_goals try exact⟨B9⟩
 all_goals try first|exact⟨Bc⟩|exact⟨A0 trivial (A0 (And.intro ⟨⟨rfl,by omega⟩⟩ ⟨fun _ _=>trivial⟩) (A0 (And.intro ⟨⟨rfl,by omega⟩⟩ ⟨A0 trivial A9⟩) A9))⟩|exact⟨A0 trivial A9⟩
 refine⟨Mp [3] p b t (fun k=>if k=0 then Bl true [3]else if k=1 then Bl true p else Bl b t),⟨AE.immR (A0 (Cm.refl _) (A0 (Cm.of (lE hpl)) (A0 (tF 3 rfl) A9))),trivial⟩,⟨by show 3≤1000;omega,fun k hk=>Nat.le_trans ((Fh (p:=[3]) (q:=p) (b:=b) (l:=t) (f:=fun k=>if k=0 then Bl true [3]else if k=1 then Bl true p else Bl b t) (by decide) (by omega) hn rfl rfl rfl).2.1 k hk) (by decide),(Fh (by decide) (by omega) hn rfl rfl rfl).2.2⟩,fun rr hr=>?_⟩
 replace hr:3::(p++t)=rr:=(hr.trans (K7 _ _ _ _ _)).symm;subst hr;conv=>whnf
 repeat' ((first|apply Ap<;>intro _|apply An)<;>conv=>whnf)
 all_goals try exact⟨B9⟩
 refine⟨.of false (3::(p++t)),⟨AE.refl _,trivial⟩,⟨trivial,by show(3::(p++t)).length≤1000000;rw[List.length_cons,List.length_append];omega⟩,fun rr hr=>?_⟩;replace hr:y=rr:=(hr.trans hy.symm).symm;subst hr;conv=>whnf
 repeat' ((first|apply Ap<;>intro _|apply An)<;>conv=>whnf)
 all_goals try exact⟨B9⟩
 all_goals first
  |exact⟨fun k hk=>cast (congrArg own (lV hxl k hk).symm) (Bg _ k)⟩
  |exact Ld.row fun k hk=>lV hxl k hk
theorem AIm:FOk Tryz.prog G 122 AK2:=A8 fun⟨k,p,a,g⟩ ⟨hk,hpl,ha,hn,hg⟩=>by
 replace hpl:p.length=32:=hpl;replace ha:a.ok:=ha;replace hn:a.l.length≤100000:=hn;replace hg:g.length=64:=hg;refine by3 ha ?_
 show CP _ _ _ [.int .i64 k,arrV 32 p,Bl a.b a.l,arrV 64 g] fun v=>Ld v (.bool (Ua k p a.l g))
 generalize a.l=t at hn;generalize a.b=b
 rcases hk with hk|hk
 ·replace hk:k=1:=hk;subst hk;obtain⟨q,hq⟩:∃q,q=Zq p t g:=⟨_,rfl⟩;rw[AKs,←hq];have hΓ:=Ab Tryz.f122.ntmps _ _ [] (.cons (tT) (.cons (tU) .nil)) .nil;refine Aw hΓ Tryz.func122 ?_;conv=>whnf
  repeat' (first|(apply Ap<;>intro hp<;>first|(exfalso;revert hp;simp;done)|conv=>whnf)|(apply An<;>conv=>whnf))
  all_goals try exact⟨Ah⟩
  refine⟨⟨p, .of b t,g⟩,⟨AE.refl _,AE.refl _,AE.refl _,trivial⟩,⟨hpl,trivial,hn,hg⟩,fun rr hr=>?_⟩;replace hr:q=rr:=(hr.trans hq.symm).symm;subst hr;conv=>whnf
  repeat' ((first|apply Ap<;>intro _|apply An)<;>conv=>whnf)
  all_goals try exact⟨Ah⟩
  exact Ld.refl _
 ·replace hk:k=2:=hk;subst hk;obtain⟨q,hq⟩:∃q,q=Ox p t:=⟨_,rfl⟩;have hqe:De 64 (bf g) (bf q)=decide (g=q):=B7 hg (hq▸dC p t);rw[AKt,←hq,←hqe];have hΓ:=Ab Tryz.f122.ntmps _ _ [] (.cons (tT) (.cons (tU) .nil)) .nil;refine Aw hΓ Tryz.func122 ?_;conv=>whnf
  repeat' (first|(apply Ap<;>intro hp<;>first|(exfalso;revert hp;simp;done)|conv=>whnf)|(apply An<;>conv=>whnf))
  all_goals try exact⟨Ah⟩
  refine⟨(p, .of b t),⟨AE.refl _,AE.refl _,trivial⟩,⟨hpl,trivial,hn⟩,fun rr hr=>?_⟩;replace hr:q=rr:=(hr.trans hq.symm).symm;subst hr;conv=>whnf
  repeat' ((first|apply Ap<;>intro _|apply An)<;>conv=>whnf)
  all_goals try exact⟨Ah⟩
  exact Ld.refl _
theorem AO1:FOk Tryz.prog [] 76 dU:=A8 fun k _=>by
 have hΓ:=Ad Tryz.f76.ntmps _ _ (FL.all .nil) (HL.all .nil);refine Aw hΓ Tryz.func76 ?_;conv=>whnf
 repeat' ((first|apply Ap<;>intro _|apply An)<;>conv=>whnf)
 all_goals
  rename_i h;refine Ld.of (congrArg V.bool ?_);simp only[beq_iff_eq,beq_eq_false_iff_ne,ne_eq]at h
  first
   |(simp[h];done)
   |(rw[decide_eq_false h,Bool.eq_iff_iff];simp)
end Go.Proofs.YtaihjcpfjgpmoaaGreatDoor
namespace Go.Proofs.YtaihjcpfjgpmoaaGreatDoor
open Go Go.DD
def Bh(k:Int)(e:Bw):Bool:=Al e&&Ua k e.author (Li e).1 e.sig
theorem zN{e:Bw}(h:Al e=false):Li e=([],1):=if_neg (by rw[h];decide)
def AKa:A7:=Bf (fun(x:Int×Bw)=>[.int .i64 x.1,Ak x.2]) (fun x=>D0 x.1∧Cy x.2) (fun x=>Bh x.1 x.2) .bool
theorem kF:FOk Tryz.prog G 50 AKa:=A8 fun⟨k,e⟩ ⟨hk,he⟩=>by
 replace hk:D0 k:=hk;replace he:Cy e:=he
 show CP _ _ _ [.int .i64 k,Ak e] fun v=>Ld v (.bool (Bh k e))
 have hbl:=Xm e;have hv:Bh k e=(Al e&&Ua k e.author (Li e).1 e.sig):=rfl
 have h0:(Li e).2=if Al e=true then 0 else 1:=by
  cases h:Al e
  ·rw[zN h];rfl
  ·rw[Rc he.1 h];rfl
 obtain⟨w,hw⟩:∃w,w=Li e:=⟨_,rfl⟩;obtain⟨q,hq⟩:∃q,q=Ua k e.author w.1 e.sig:=⟨_,rfl⟩;rw[←hw]at hbl h0 hv;rw[←hq]at hv;rw[hv];have hΓ:=Ab Tryz.f50.ntmps _ _ [] (.cons (bT) (.cons (AB5) .nil)) .nil;refine Aw hΓ Tryz.func50 ?_;conv=>whnf
 repeat' ((first|apply Ap<;>intro _|apply An)<;>conv=>whnf)
 all_goals try exact⟨Ah⟩
 refine⟨e,⟨AE.refl _,trivial⟩,⟨he⟩,fun rr hr=>?_⟩;replace hr:w=rr:=(hr.trans hw.symm).symm;subst hr;conv=>whnf
 repeat' ((first|apply Ap<;>intro _|apply An)<;>conv=>whnf)
 all_goals try exact⟨Ah⟩
 ·rename_i hc;have hc:w.2=0:=by simpa using hc
  have hok:Al e=true:=by
   cases h:Al e
   ·rw[h,hc]at h0;exact absurd h0 (by decide)
   ·rfl
  refine⟨⟨k,e.author, .of false w.1,e.sig⟩,⟨AE.refl _,AE.refl _,AE.refl _,AE.refl _,trivial⟩,⟨hk,he.1.1,trivial,by show w.1.length≤100000;omega,he.1.2.2⟩,fun rr hr=>?_⟩;replace hr:q=rr:=(hr.trans hq.symm).symm;subst hr;conv=>whnf
  repeat' ((first|apply Ap<;>intro _|apply An)<;>conv=>whnf)
  all_goals try exact⟨Ah⟩
  rw[hok,Bool.true_and];exact Ld.refl _
 ·rename_i hc;have hc:¬w.2=0:=by simpa using hc
  have hok:Al e=false:=by
   cases h:Al e
   ·rfl
   ·rw[h]at h0;exact absurd h0 hc
  rw[hok,Bool.false_and];exact Ld.refl _
def Zp(k:Int)(p:Pf):Bool:=decide (Qp p.a p.b<0)&&Bh k p.a&&Bh k p.b
def ARm:A7:=Bf (fun(x:Int×Pf)=>[.int .i64 x.1,aC x.2]) (fun x=>D0 x.1∧Cy x.2.a∧Cy x.2.b) (fun x=>Zp x.1 x.2) .bool
theorem AAk:FOk Tryz.prog G 47 ARm:=A8 fun⟨k,p⟩ ⟨hk,ha,hb⟩=>by
 replace hk:D0 k:=hk;replace ha:Cy p.a:=ha;replace hb:Cy p.b:=hb
 show CP _ _ _ [.int .i64 k,aC p] fun v=>Ld v (.bool (Zp k p))
 obtain⟨x,hx⟩:∃x,x=Bh k p.a:=⟨_,rfl⟩;obtain⟨y,hy⟩:∃y,y=Bh k p.b:=⟨_,rfl⟩;rw[show Zp k p=(decide (Qp p.a p.b<0)&&x&&y) by rw[hx,hy];rfl];have hΓ:=Ab Tryz.f47.ntmps _ _ [] (.cons (sA) (.cons (kF) .nil)) .nil;refine Aw hΓ Tryz.func47 ?_;conv=>whnf
 repeat' ((first|apply Ap<;>intro _|apply An)<;>conv=>whnf)
 all_goals try exact⟨Ah⟩
 refine⟨p,rfl,⟨ha,hb⟩,?_⟩;conv=>whnf
 repeat' ((first|apply Ap<;>intro _|apply An)<;>conv=>whnf)
 all_goals try exact⟨Ah⟩
 ·rename_i hc
  have hc:Qp p.a p.b<0:=by
   by_cases h:Qp p.a p.b<0
   ·exact h
   ·rw[if_neg h]at hc;exact absurd hc (by decide)
  rw[decide_eq_true hc,Bool.true_and];refine⟨(k,p.a),⟨AE.refl _,AE.refl _,trivial⟩,⟨hk,ha⟩,fun rr hr=>?_⟩;replace hr:x=rr:=(hr.trans hx.symm).symm;subst hr;conv=>whnf
  repeat' ((first|apply Ap<;>intro _|apply An)<;>conv=>whnf)
  all_goals try exact⟨Ah⟩
  ·rename_i h1;replace h1:x=true:=h1;rw[h1,Bool.true_and];refine⟨(k,p.b),⟨AE.refl _,AE.refl _,trivial⟩,⟨hk,hb⟩,fun rr hr=>?_⟩;replace hr:y=rr:=(hr.trans hy.symm).symm;subst hr;conv=>whnf
   repeat' ((first|apply Ap<;>intro _|apply An)<;>conv=>whnf)
   all_goals try exact⟨Ah⟩
   exact Ld.refl _
  ·rename_i h1;replace h1:x=false:=h1;rw[h1,Bool.false_and];exact Ld.refl _
 ·rename_i hc
  have hc:¬Qp p.a p.b<0:=fun h=>by
   rw[if_pos h]at hc;exact absurd hc (by decide)
  rw[decide_eq_false hc,Bool.false_and,Bool.false_and];exact Ld.refl _
def So(k:Int)(f:Fd):Bool:=(!f.shut||Zp k f.pf)&&(List.range f.n).all fun i=>Bh k (f.es i)
def wU(k:Int)(n:Nat)(l:Nat→Fd):Bool:=B3 n l&&(List.range n).all fun i=>So k (l i)
def AFq:A7:=Bf (fun(x:Int×Bw)=>[Ak x.2, .pim true (.int .i64 x.1)]) (fun x=>D0 x.1∧Cy x.2) (fun x=> !Bh x.1 x.2) .bool
theorem AFr:FOk Tryz.prog G 49 AFq:=A8 fun⟨k,e⟩ ⟨hk,he⟩=>by
 replace hk:D0 k:=hk;replace he:Cy e:=he
 show CP _ _ _ [Ak e, .pim true (.int .i64 k)] fun v=>Ld v (.bool (!Bh k e))
 obtain⟨x,hx⟩:∃x,x=Bh k e:=⟨_,rfl⟩;rw[←hx];have hΓ:=Ab Tryz.f49.ntmps _ _ [] (.cons (kF) .nil) .nil;refine Aw hΓ Tryz.func49 ?_;conv=>whnf
 repeat' ((first|apply Ap<;>intro _|apply An)<;>conv=>whnf)
 all_goals try exact⟨Ah⟩
 refine⟨(k,e),⟨AE.refl _,AE.refl _,trivial⟩,⟨hk,he⟩,fun rr hr=>?_⟩;replace hr:x=rr:=(hr.trans hx.symm).symm;subst hr;conv=>whnf
 repeat' ((first|apply Ap<;>intro _|apply An)<;>conv=>whnf)
 all_goals try exact⟨Ah⟩
 exact Ld.refl _
theorem Qe:Aj Tryz.prog (L5 Tryz.f89.ntmps [(49,AFq)] [] []):=Ab Tryz.f89.ntmps [(49,AFq)] [] [] (.cons (AFr) .nil) .nil
def S89:Ai:=fun xs h κ=>xs.length=2∧B4 Tryz.prog (L5 Tryz.f89.ntmps [(49,AFq)] [] []) (Bd Tryz.f89) Tryz.f89.results.toList xs h κ
theorem AOh:Af Tryz.prog G 89 S89:=Q6 2 Qe Tryz.func89
theorem oD:Aj Tryz.prog (L5 Tryz.f48.ntmps [] [(89,S89)] []):=Ab Tryz.f48.ntmps [] [(89,S89)] [] .nil (.cons (AOh) .nil)
def S48:Ai:=fun xs h κ=>xs.length=2∧B4 Tryz.prog (L5 Tryz.f48.ntmps [] [(89,S89)] []) (Bd Tryz.f48) Tryz.f48.results.toList xs h κ
theorem AO7:Af Tryz.prog G 48 S48:=Q6 2 oD Tryz.func48
theorem X5{p:Nat→Bool}{i:Nat}:(List.range (i+1)).all p=((List.range i).all p&&p i):=by
 rw[List.range_succ,List.all_append];simp
def AWh:A7:=Bf (fun(x:Int×qP)=>[.int .i64 x.1,C8 x.2.b x.2.n x.2.l]) (fun x=>D0 x.1∧∀k,k<x.2.n→G9 (x.2.l k)) (fun x=>wU x.1 x.2.n x.2.l) .bool
theorem AGd:FOk Tryz.prog G 18 AWh:=A8 fun⟨k,a⟩ ⟨hk,hl⟩=>by
 replace hk:D0 k:=hk;replace hl:∀k,k<a.n→G9 (a.l k):=hl
 show CP _ _ _ [.int .i64 k,C8 a.b a.n a.l] fun v=>Ld v (.bool (wU k a.n a.l))
 have hres:wU k a.n a.l=(B3 a.n a.l&&(List.range a.n).all fun i=>So k (a.l i)):=rfl;have hΓ:=Ab Tryz.f18.ntmps _ _ [] (.cons (fV) (.cons (AAk) .nil)) (.cons (AO7) .nil);refine Aw hΓ Tryz.func18 ?_;conv=>whnf
 repeat' ((first|apply Ap<;>intro _|apply An)<;>conv=>whnf)
 all_goals try exact⟨Ah⟩
 refine⟨a,⟨AE.refl _,trivial⟩,⟨hl⟩,fun r hr=>?_⟩;replace hr:r=B3 a.n a.l:=hr;rw[←hr]at hres;conv=>whnf
 apply Ap<;>intro h1<;>conv=>whnf
 ·have hr2:r=false:=by cases r<;>simp_all
  rw[hres,hr2];exact Ld.refl _
 have hf:B3 a.n a.l=true:=by rw[←hr];cases r<;>simp_all
 have hr2:r=true:=hr.trans hf;rw[hr2,Bool.true_and]at hres;obtain⟨n1,n8,hlook⟩:=C9 hf;clear hr hf h1 hr2;conv=>whnf
 repeat' ((first|apply Ap<;>intro _|apply An)<;>conv=>whnf)
 all_goals try exact⟨Ah⟩
 refine A4 (ι:=Nat) (fun i=>[(2, .ref 0 []),(10,C8 a.b a.n a.l),(11, .int .i64 (a.n:Nat)),(12, .int .i64 (i:Nat))]) (fun i=>[some (.int .i64 k)]) (fun i=>i≤a.n∧(List.range i).all (fun j=>So k (a.l j))=true) (fun i=>a.n - i) 0 [some 0] ?_ (fun i hi=>vo hΓ ?_)
 ·conv=>whnf
  repeat' ((first|apply Ap<;>intro _|apply An)<;>conv=>whnf)
  all_goals try exact⟨Ah⟩
  all_goals exact⟨⟨Nat.zero_le _,rfl⟩⟩
 ·obtain⟨hi1,hi2⟩:=hi;conv=>whnf
  apply Ap<;>intro h3<;>conv=>whnf
  ·have hin:i<a.n:=by
    have:((i:Nat):Int)<(a.n:Nat):=by simpa using h3
    omega
   have hnx:=X5 (p:=fun j=>So k (a.l j)) (i:=i);rw[hi2,Bool.true_and]at hnx;have hstop:So k (a.l i)=false→wU k a.n a.l=false:=fun h=>by rw[hres];exact R2 hin h
   have hvf:So k (a.l i)=((!(a.l i).shut||Zp k (a.l i).pf)&&(List.range (a.l i).n).all fun j=>Bh k ((a.l i).es j)):=rfl;have hpf:=hl i hin;have hlk:=(Gj (hlook i hin)).1;obtain⟨x,hx⟩:∃x,x=Zp k (a.l i).pf:=⟨_,rfl⟩;rw[←hx]at hvf;conv=>whnf
   refine And.intro ⟨⟨by omega,by omega⟩⟩ ?_;conv=>whnf
   apply Ap<;>intro hs<;>conv=>whnf
   ·replace hs:(a.l i).shut=true:=hs;conv=>whnf
    repeat' (apply An<;>conv=>whnf)
    all_goals try exact⟨Ah⟩
    refine⟨(k,(a.l i).pf),⟨AE.refl _,AE.refl _,trivial⟩,⟨hk,hpf.2.2.1,hpf.2.2.2⟩,fun rr hr=>?_⟩;replace hr:x=rr:=(hr.trans hx.symm).symm;subst hr;conv=>whnf
    apply Ap<;>intro h4<;>conv=>whnf
    ·have h4:x=false:=by simpa using h4
     rw[hstop (by rw[hvf,hs,h4];rfl)];exact Ld.refl _
    ·have h4:x=true:=by simpa using h4
     rw[hs,h4]at hvf;replace hvf:So k (a.l i)=(List.range (a.l i).n).all fun j=>Bh k ((a.l i).es j):=hvf;rw[hvf]at hstop hnx;refine⟨rfl,?_⟩;refine vj oD ?_;conv=>whnf
     refine⟨rfl,?_⟩;refine vj Qe ?_;conv=>whnf
     refine A4 (ι:=Nat) (fun j=>[(0, .imm false 133 (a.l i).n fun q=>Ak ((a.l i).es q)),(1, .fn 49 (.cons (.ref 0 []) .nil)),(7, .int .i64 ((a.l i).n:Nat)),(8, .int .i64 (j:Nat))]) (fun j=>[some (.int .i64 k),some (Fl (a.l i))]) (fun j=>j≤(a.l i).n∧(List.range j).all (fun q=>Bh k ((a.l i).es q))=true) (fun j=>(a.l i).n - j) 0 [some 0,some 1] ?_ (fun j hj=>vj Qe ?_)
     ·conv=>whnf
      repeat' ((first|apply Ap<;>intro _|apply An)<;>conv=>whnf)
      all_goals try first|exact⟨Ba⟩|exact⟨⟨Nat.zero_le _,rfl⟩⟩
     ·obtain⟨hj1,hj2⟩:=hj;conv=>whnf
      apply Ap<;>intro h5<;>conv=>whnf
      ·have hjn:j<(a.l i).n:=by
        have:((j:Nat):Int)<((a.l i).n:Nat):=by simpa using h5
        omega
       have hjx:=X5 (p:=fun q=>Bh k ((a.l i).es q)) (i:=j);rw[hj2,Bool.true_and]at hjx;obtain⟨y,hy⟩:∃y,y=Bh k ((a.l i).es j):=⟨_,rfl⟩;have hbad:y=false→(List.range (a.l i).n).all (fun q=>Bh k ((a.l i).es q))=false:=fun h=>R2 hjn (hy.symm.trans h);rw[←hy]at hjx;conv=>whnf
       repeat' (apply An<;>conv=>whnf)
       all_goals try first|exact⟨Ah⟩|exact⟨⟨trivial,fun h=>nomatch h⟩⟩
       refine⟨(k,(a.l i).es j),⟨AE.refl _,AE.refl _,trivial⟩,⟨hk,hpf.2.1 j hjn⟩,fun rr hr=>?_⟩;replace hr:rr= !y:=hr.trans (congrArg (fun b=> !b) hy.symm);subst hr;conv=>whnf
       apply Ap<;>intro h6<;>conv=>whnf
       ·have h6:y=false:=by simpa using h6
        rw[hstop (hbad h6)];refine And.intro (fun _=>?_) (fun h=>absurd h (by simp))<;>conv=>whnf
        exact Ld.refl _
       ·have h6:y=true:=by simpa using h6
        rw[h6]at hjx;refine⟨j+1,[some 0,some 1],?_⟩;conv=>whnf
        repeat' (apply An<;>conv=>whnf)
        all_goals try exact⟨Ba⟩
        ·exact⟨by rw[A3 (by omega) (by omega)];rfl⟩
        ·exact⟨⟨⟨hjn,hjx⟩,by omega⟩⟩
      ·have hjn:j=(a.l i).n:=by
        have:¬((j:Nat):Int)<((a.l i).n:Nat):=by simpa using h5
        omega
       rw[hjn]at hj2;rw[hj2]at hnx;refine vj Qe ?_;conv=>whnf
       refine And.intro (fun h=>absurd h (by decide)) (fun _=>?_)<;>conv=>whnf
       refine⟨i+1,[some 0],?_⟩;conv=>whnf
       repeat' (apply An<;>conv=>whnf)
       all_goals try exact⟨Ba⟩
       ·exact⟨by rw[A3 (by omega) (by omega)];rfl⟩
       ·exact⟨⟨⟨hin,hnx⟩,by omega⟩⟩
   ·replace hs:(a.l i).shut=false:=hs;rw[hs]at hvf;replace hvf:So k (a.l i)=(List.range (a.l i).n).all fun j=>Bh k ((a.l i).es j):=hvf;rw[hvf]at hstop hnx;refine⟨rfl,?_⟩;refine vj oD ?_;conv=>whnf
    refine⟨rfl,?_⟩;refine vj Qe ?_;conv=>whnf
    refine A4 (ι:=Nat) (fun j=>[(0, .imm false 133 (a.l i).n fun q=>Ak ((a.l i).es q)),(1, .fn 49 (.cons (.ref 0 []) .nil)),(7, .int .i64 ((a.l i).n:Nat)),(8, .int .i64 (j:Nat))]) (fun j=>[some (.int .i64 k),some (Fl (a.l i))]) (fun j=>j≤(a.l i).n∧(List.range j).all (fun q=>Bh k ((a.l i).es q))=true) (fun j=>(a.l i).n - j) 0 [some 0,some 1] ?_ (fun j hj=>vj Qe ?_)
    ·conv=>whnf
     repeat' ((first|apply Ap<;>intro _|apply An)<;>conv=>whnf)
     all_goals try first|exact⟨Ba⟩|exact⟨⟨Nat.zero_le _,rfl⟩⟩
    ·obtain⟨hj1,hj2⟩:=hj;conv=>whnf
     apply Ap<;>intro h5<;>conv=>whnf
     ·have hjn:j<(a.l i).n:=by
       have:((j:Nat):Int)<((a.l i).n:Nat):=by simpa using h5
       omega
      have hjx:=X5 (p:=fun q=>Bh k ((a.l i).es q)) (i:=j);rw[hj2,Bool.true_and]at hjx;obtain⟨y,hy⟩:∃y,y=Bh k ((a.l i).es j):=⟨_,rfl⟩;have hbad:y=false→(List.range (a.l i).n).all (fun q=>Bh k ((a.l i).es q))=false:=fun h=>R2 hjn (hy.symm.trans h);rw[←hy]at hjx;conv=>whnf
      repeat' (apply An<;>conv=>whnf)
      all_goals try first|exact⟨Ah⟩|exact⟨⟨trivial,fun h=>nomatch h⟩⟩
      refine⟨(k,(a.l i).es j),⟨AE.refl _,AE.refl _,trivial⟩,⟨hk,hpf.2.1 j hjn⟩,fun rr hr=>?_⟩;replace hr:rr= !y:=hr.trans (congrArg (fun b=> !b) hy.symm);subst hr;conv=>whnf
      apply Ap<;>intro h6<;>conv=>whnf
      ·have h6:y=false:=by simpa using h6
       rw[hstop (hbad h6)];refine And.intro (fun _=>?_) (fun h=>absurd h (by simp))<;>conv=>whnf
       exact Ld.refl _
      ·have h6:y=true:=by simpa using h6
       rw[h6]at hjx;refine⟨j+1,[some 0,some 1],?_⟩;conv=>whnf
       repeat' (apply An<;>conv=>whnf)
       all_goals try exact⟨Ba⟩
       ·exact⟨by rw[A3 (by omega) (by omega)];rfl⟩
       ·exact⟨⟨⟨hjn,hjx⟩,by omega⟩⟩
     ·have hjn:j=(a.l i).n:=by
       have:¬((j:Nat):Int)<((a.l i).n:Nat):=by simpa using h5
       omega
      rw[hjn]at hj2;rw[hj2]at hnx;refine vj Qe ?_;conv=>whnf
      refine And.intro (fun h=>absurd h (by decide)) (fun _=>?_)<;>conv=>whnf
      refine⟨i+1,[some 0],?_⟩;conv=>whnf
      repeat' (apply An<;>conv=>whnf)
      all_goals try exact⟨Ba⟩
      ·exact⟨by rw[A3 (by omega) (by omega)];rfl⟩
      ·exact⟨⟨⟨hin,hnx⟩,by omega⟩⟩
  ·have hin:i=a.n:=by
    have:¬((i:Nat):Int)<(a.n:Nat):=by simpa using h3
    omega
   subst hin;refine vo hΓ ?_;conv=>whnf
   rw[hres,hi2];exact Ld.refl _
def Sg(k:Int)(s:List UInt8)(e:Bw):Bw:={e with author:=Dd k s,sig:=aY k s (Li {e with author:=Dd k s}).1}
structure SgA where
 k:Int
 s:List UInt8
 e:Bw
def AL8:A7:=Bf (fun(x:SgA)=>[.int .i64 x.k,arrV 32 x.s,Ak x.e]) (fun x=>D0 x.k∧x.s.length=32∧Cy x.e∧Al x.e=true) (fun x=>Sg x.k x.s x.e) (fun r=> .tup (.cons (Ak r) (.cons (.int .i64 0) .nil)))
theorem vR:FOk Tryz.prog G 65 AL8:=A8 fun⟨kd,s,e⟩ ⟨hkd,hs,he,hk⟩=>by
 have hΓ:=Ab Tryz.f65.ntmps _ _ [] (.cons (kY) (.cons (Rr.g) (.cons (bT) (.cons (AB2) .nil)))) .nil;refine Aw hΓ Tryz.func65 ?_;replace hs:s.length=32:=hs;replace hkd:D0 kd:=hkd;replace he:Cy e:=he;replace hk:Al e=true:=hk;have Ar:=Cp hk;have hpub:=Ok kd s;have hwf:iQ {e with author:=Dd kd s}:=⟨hpub,he.1.2.1,he.1.2.2⟩;have hbod:=Rc (e:={e with author:=Dd kd s}) hwf hk;have hbl:=Xm {e with author:=Dd kd s};conv=>whnf
 repeat' ((first|apply Ap<;>intro _|apply An)<;>conv=>whnf)
 all_goals try exact⟨Ah⟩
 refine⟨(kd,s),⟨AE.refl _,AE.refl _,trivial⟩,⟨hkd,hs⟩,?_⟩;intro q hq;replace hq:q=Dd kd s:=hq;subst hq;conv=>whnf
 repeat' (first|(apply Ap<;>intro hp<;>first|(exfalso;revert hp;simp;done)|conv=>whnf)|(apply An<;>conv=>whnf))
 all_goals try first|exact⟨Ah⟩|exact⟨fun _ _=>trivial⟩|exact⟨fun _ _=>rfl⟩
 refine⟨e,⟨AE.refl _,trivial⟩,⟨by show e.val.length≤1000000;omega⟩,?_⟩;intro t ht;replace ht:t=e:=ht;subst ht;conv=>whnf
 repeat' ((first|apply Ap<;>intro _|apply An)<;>conv=>whnf)
 all_goals try first|exact⟨Ah⟩|exact⟨fun _ _=>trivial⟩|exact⟨fun _ _=>rfl⟩
 refine⟨{t with author:=Dd kd s},⟨AE.refl _,trivial⟩,⟨⟨hwf,he.2⟩⟩,?_⟩;intro w hw;replace hw:w=Li {t with author:=Dd kd s}:=hw;have hw2:w.2=0:=by rw[hw,hbod]
 rw[←hw]at hbl;conv=>whnf
 rw[hw2];conv=>whnf
 repeat' (first|(apply Ap<;>intro hp<;>first|(exfalso;revert hp;simp;done)|conv=>whnf)|(apply An<;>conv=>whnf))
 all_goals try first|exact⟨Ah⟩|exact⟨fun _ _=>trivial⟩|exact⟨fun _ _=>rfl⟩
 refine⟨⟨kd,s, .of false w.1⟩,⟨AE.refl _,AE.refl _,AE.refl _,trivial⟩,⟨hkd,hs,trivial,by show w.1.length≤100000;omega⟩,?_⟩;intro g hg;replace hg:g=aY kd s w.1:=hg;conv=>whnf
 repeat' ((first|apply Ap<;>intro _|apply An)<;>conv=>whnf)
 all_goals try first|exact⟨Ah⟩|exact⟨fun _ _=>trivial⟩|exact⟨fun _ _=>rfl⟩
 rw[hg,hw];exact Ld.refl _
theorem xL{l l':Vs}(h:Qz l l'):AE (.st l) (.st l'):=(Ld.st h).1
def AHt(o:Bw):Bw:={o with author:=Kb,seq:=1,prev:=Kb,stamp:=0,sig:=List.replicate 64 0}
theorem cZ:De 32 (bf Kb) (bf [])=true:=(Qs (by simp[Kb])).trans (decide_eq_true rfl)
theorem vL(o:Bw):Al (AHt o)=Fq o:=by
 have h:Fq (AHt o)=Fq o:=rfl;simp only[Al,h];simp[AHt,cZ]
def AUp:A7:=Bf (fun(o:Bw)=>[aB o]) (fun _=>True) Fq .bool
theorem AGu:FOk Tryz.prog G 27 AUp:=A8 fun o _=>by
 have hΓ:=Ab Tryz.f27.ntmps _ _ [] (.cons (kC) .nil) .nil;refine Aw hΓ Tryz.func27 ?_;conv=>whnf
 repeat' (apply An<;>conv=>whnf)
 all_goals try exact⟨Ah⟩
 refine⟨AHt o,⟨xL (.cons (Cm.row fun k _=>(Cz 32 k).symm) (.cons (Cm.refl _) (.cons (Cm.row fun k _=>(Cz 32 k).symm) (.cons (Cm.refl _) (.cons (Cm.refl _) (.cons (Cm.row fun k _=>(Cz 64 k).symm) .nil)))))),trivial⟩,⟨trivial⟩,?_⟩;intro r hr;replace hr:r=Fq o:=hr.trans (vL o);conv=>whnf
 repeat' ((first|apply Ap<;>intro _|apply An)<;>conv=>whnf)
 refine Ld.of (congrArg V.bool ?_);rw[hr]
 cases Fq o<;>rfl
theorem dW:Ld zV (Ak Il):=
 Ld.st (.cons (Cm.row fun k _=>(Cz 32 k).symm) (.cons (Cm.refl _) (.cons (Cm.row fun k _=>(Cz 32 k).symm) (.cons (Cm.refl _) (.cons (Qz.st (.cons (Cm.refl _) (.cons (Cm.refl _) (.cons Cm.emp .nil)))) (.cons (Cm.row fun k _=>(Cz 64 k).symm) .nil))))))
structure NxA where
 kd:Int
 s:List UInt8
 a:qP
 k:Nat
 o:Bw
def Jy(x:NxA):Bw:={x.o with author:=Kb,seq:=((x.a.l x.k).n:Nat)+1,prev:=(Be (x.a.l x.k)).1,stamp:=C7 x.a+1,sig:=List.replicate 64 0}
def Vh(x:NxA):Bool:=decide (200≤(x.a.l x.k).n)||decide (C7 x.a=9223372036854775807)
def Fg(x:NxA):Bw×Int:=if(x.a.l x.k).shut=true then(Il,15)else if Vh x=true then(Il,17)else(Sg x.kd x.s (Jy x),0)
structure uX(x:NxA):Prop where
 kd:D0 x.kd
 s:x.s.length=32
 l:∀k,k<x.a.n→G9 (x.a.l k)
 ok:B3 x.a.n x.a.l=true
 k:x.k<x.a.n
 o:Fq x.o=true
theorem bM{es:Nat→Bw}{c:Int}:∀n,(∀k,k<n→(es k).stamp≤9223372036854775807)→c≤9223372036854775807→M7 es n c≤9223372036854775807
 |0,_,hc=>hc
 |n+1,h,hc=>by
  have h1:=bM n (fun k hk=>h k (by omega)) hc
  have h2:=h n (by omega);simp only[M7];omega
theorem bL{es:Nat→Bw}{c:Int}:∀n,c≤M7 es n c
 |0=>Int.le_refl _
 |n+1=>by have:=bL (es:=es) (c:=c) n;simp only[M7];omega
theorem Xg{l:Nat→Fd}:∀n,(∀k,k<n→G9 (l k))→0≤Ep l n∧Ep l n≤9223372036854775807
 |0,_=>by simp[Ep]
 |n+1,h=>by
  have h1:=Xg (l:=l) n (fun k hk=>h k (by omega))
  simp only[Ep]
  split
  ·exact h1
  ·exact⟨Int.le_trans h1.1 (bL _),bM _ (fun k hk=>((h n (by omega)).2.1 k hk).2) h1.2⟩
theorem M8{a:qP}(h:∀k,k<a.n→G9 (a.l k)):0≤C7 a∧C7 a≤9223372036854775807:=by
 unfold C7
 split
 ·exact Xg _ h
 ·decide
theorem Yj{x:NxA}(h:uX x)(ht:Vh x=false):Cy (Jy x)∧Al (Jy x)=true:=by
 obtain⟨hkd,hs,hl,hf,hk,ho⟩:=h;have hc:=M8 hl;simp only[Vh,Bool.or_eq_false_iff,decide_eq_false_iff_not]at ht;have hll:=Rz (x.a.l x.k);refine⟨⟨⟨by simp[Jy,Kb],hll,by simp[Jy]⟩,by show C7 x.a+1≤_;omega⟩,?_⟩;have h1:Fq (Jy x)=Fq x.o:=rfl
 have h2:(x.a.l x.k).n=0→De 32 (bf (Jy x).prev) (bf [])=true:=fun h0=>by
  have:(Be (x.a.l x.k)).1=Kb:=by simp[Be,Md,h0,Er]
  show De 32 (bf (Be (x.a.l x.k)).1) (bf [])=true
  rw[this];exact cZ
 simp only[Al,h1,ho,Bool.and_true,Bool.and_eq_true,decide_eq_true_eq,Bool.or_eq_true,Bool.not_eq_true',decide_eq_false_iff_not];have e1:(Jy x).seq=((x.a.l x.k).n:Nat)+1:=rfl;have e2:(Jy x).stamp=C7 x.a+1:=rfl;refine⟨⟨⟨by omega,by omega⟩,?_⟩,by omega⟩
 by_cases h0:(x.a.l x.k).n=0
 ·exact .inr (h2 h0)
 ·exact .inl (by omega)
def APp:A7:=Bf (fun(x:NxA)=>[.int .i64 x.kd,arrV 32 x.s,C8 x.a.b x.a.n x.a.l, .int .i64 (x.k:Nat),aB x.o]) uX Fg (fun r=> .tup (.cons (Ak r.1) (.cons (.int .i64 r.2) .nil)))
theorem AAw:FOk Tryz.prog G 28 APp:=A8 fun x h=>by
 have hx:=h;obtain⟨hkd,hs,hl,hf,hk,ho⟩:=h;obtain⟨n1,n8,hlook⟩:=C9 hf;have hc:=M8 hl;have hlast:=lH (hlook x.k hk);have hΓ:=Ab Tryz.f28.ntmps _ _ [] (.cons (bU) (.cons (sF) (.cons (vR) .nil))) .nil;refine Aw hΓ Tryz.func28 ?_;conv=>whnf
 repeat' (apply An<;>conv=>whnf)
 all_goals try first|exact⟨Ah⟩|exact⟨⟨by omega,by omega⟩⟩
 refine⟨x.a,⟨AE.refl _,trivial⟩,⟨hl⟩,?_⟩;intro c hcl;replace hcl:c=C7 x.a:=hcl;conv=>whnf
 repeat' (apply An<;>conv=>whnf)
 all_goals try first|exact⟨Ah⟩|exact⟨⟨by omega,by omega⟩⟩|exact⟨fun _ _=>trivial⟩|exact⟨fun _ _=>rfl⟩
 refine⟨x.a.l x.k,⟨AE.refl _,trivial⟩,⟨hl x.k hk⟩,?_⟩;intro r hr;replace hr:r=((((x.a.l x.k).n:Nat):Int),(Be (x.a.l x.k)).1,(0:Int)):=hr.trans hlast;subst hr;conv=>whnf
 repeat' (first|(apply Ap<;>intro hp<;>first|(exfalso;revert hp;simp;done)|conv=>whnf)|(apply An<;>conv=>whnf))
 all_goals try first|exact⟨Ah⟩|exact⟨⟨by omega,by omega⟩⟩|exact⟨fun _ _=>trivial⟩|exact⟨fun _ _=>rfl⟩
 all_goals(try simp only[Int.toNat_natCast,decide_eq_true_eq,decide_eq_false_iff_not,beq_iff_eq,beq_eq_false_iff_ne,ne_eq]at*)
 ·rw[show Fg x=(Il,15)from if_pos hp];exact Ld.two dW (by simp[zV]) rfl (by simp[Ak]) rfl
 ·rename_i g1 g2;rw[show Fg x=(Il,17)from(if_neg (by simp[g2])).trans (if_pos (by simp only[Vh,Bool.or_eq_true,decide_eq_true_eq];exact .inl (by omega)))];exact Ld.two dW (by simp[zV]) rfl (by simp[Ak]) rfl
 ·rename_i g1 g2 g3;rw[show Fg x=(Il,17)from(if_neg (by simp[g2])).trans (if_pos (by simp only[Vh,Bool.or_eq_true,decide_eq_true_eq];exact .inr (by omega)))];exact Ld.two dW (by simp[zV]) rfl (by simp[Ak]) rfl
 ·rename_i g1 g2 g3;have ht:Vh x=false:=by simp only[Vh,Bool.or_eq_false_iff,decide_eq_false_iff_not];exact⟨by omega,by omega⟩
  have hok:=Yj hx ht;have w1:IntKind.i64.wrap (((x.a.l x.k).n:Nat)+1)=((x.a.l x.k).n:Nat)+1:=A3 (by omega) (by omega);have w2:IntKind.i64.wrap (c+1)=C7 x.a+1:=by rw[hcl];exact A3 (by omega) (by omega)
  refine⟨⟨x.kd,x.s,Jy x⟩,⟨AE.refl _,AE.refl _,xL (.cons (Cm.row fun k _=>(Cz 32 k).symm) (.cons (Cm.of (congrArg (V.int .i64) w1)) (.cons (Cm.refl _) (.cons (Cm.of (congrArg (V.int .i64) w2)) (.cons (Cm.refl _) (.cons (Cm.row fun k _=>(Cz 64 k).symm) .nil)))))),trivial⟩,⟨hkd,hs,hok.1,hok.2⟩,?_⟩;intro q hq;replace hq:q=Sg x.kd x.s (Jy x):=hq;conv=>whnf
  repeat' ((first|apply Ap<;>intro _|apply An)<;>conv=>whnf)
  all_goals try first|exact⟨Ah⟩|exact⟨fun _ _=>trivial⟩|exact⟨fun _ _=>rfl⟩
  rw[show Fg x=(Sg x.kd x.s (Jy x),0)from(if_neg (by simp[g2])).trans (if_neg (by simp[ht])),←hq];exact Ld.refl _
structure xI where
 kd:Int
 s:List UInt8
 a:qP
 o:Bw
def xI.nx(x:xI):NxA:=⟨x.kd,x.s,x.a,(En x.a.l x.a.n (Dd x.kd x.s)).toNat,x.o⟩
def xI.gt(x:xI):GtA:=⟨false,(Dj x.a.n x.a.l).length,Dy (Dj x.a.n x.a.l),x.o.key⟩
def Sd(x:xI):Nat×(Nat→Fd)×Int:=
 if B3 x.a.n x.a.l=false then(0,x.a.l,1)
 else if En x.a.l x.a.n (Dd x.kd x.s)<0 then(0,x.a.l,16)
 else if Fq x.o=false then(0,x.a.l,1)
 else if x.o.kind=2∧(Qk x.gt).2≠0 then(0,x.a.l,(Qk x.gt).2)
 else if(Fg x.nx).2≠0 then(0,x.a.l,(Fg x.nx).2)
 else(x.a.n,fun j=>if j=x.nx.k then Bn (x.a.l x.nx.k) (Fg x.nx).1 else x.a.l j,0)
theorem Lm{l:Nat→Fd}{author:List UInt8}:∀n i,G5 l author n i<0∨((i:Nat)≤G5 l author n i∧G5 l author n i<(i+n:Nat)∧(l (G5 l author n i).toNat).author=author)
 |0,i=> .inl (by simp[G5])
 |n+1,i=>by
  unfold G5
  split
  ·rename_i h;exact .inr ⟨by omega,by omega,by simpa using h⟩
  ·rcases Lm (l:=l) (author:=author) n (i+1)with h|⟨h1,h2,h3⟩
   ·exact .inl h
   ·exact .inr ⟨by omega,by omega,h3⟩
def AUt:A7:=Bf (fun(x:xI)=>[.int .i64 x.kd,arrV 32 x.s,C8 x.a.b x.a.n x.a.l,aB x.o]) (fun x=>D0 x.kd∧x.s.length=32∧∀k,k<x.a.n→G9 (x.a.l k)) Sd (fun r=> .tup (.cons (C8 false r.1 r.2.1) (.cons (.int .i64 r.2.2) .nil)))
theorem U1{f:Fd}(hp:G9 f)(h:(Be f).2=true):U0 f:=by
 have h1:=Gj h;refine⟨by omega,fun k hk=>?_,?_⟩
 ·have:=Cp (h1.2 k hk)
  show(f.es k).val.length≤1000000
  omega
 simp only[Be,Bool.and_eq_true]at h;have h2:=h.2
 by_cases hs:f.shut=true
 ·rw[if_pos hs]at h2;simp only[Bool.and_eq_true,decide_eq_true_eq]at h2;have h3:=h2.1;unfold Qp at h3
  split at h3
  ·omega
  ·rename_i h4;simp only[not_or,ne_eq,Decidable.not_not]at h4;have e1:=Cp ((fH hp.2.2.1.1).1 h4.1);have e2:=Cp ((fH hp.2.2.2.1).1 h4.2.1);exact⟨by show f.pf.a.val.length≤1000000;omega,by show f.pf.b.val.length≤1000000;omega⟩
 ·rw[if_neg hs]at h2;simp only[Bool.and_eq_true,Ux,decide_eq_true_eq]at h2;exact⟨by show f.pf.a.val.length≤1000000;omega,by show f.pf.b.val.length≤1000000;omega⟩
theorem lO{x:NxA}(h0:(Fg x).2=0):Fg x=(Sg x.kd x.s (Jy x),0)∧(x.a.l x.k).shut=false∧Vh x=false:=by
 unfold Fg at*
 split at h0
 ·cases h0
 ·split at h0
  ·cases h0
  ·rename_i h1 h2;rw[if_neg h1,if_neg h2];exact⟨rfl,by simpa using h1,by simpa using h2⟩
theorem Wp{x:NxA}(h:uX x)(h0:(Fg x).2=0)(ha:(x.a.l x.k).author=Dd x.kd x.s):AEa ⟨x.a.l x.k,(Fg x).1⟩:=by
 obtain⟨h1,h2,h3⟩:=lO h0;obtain⟨h4,h5⟩:=Yj h h3;obtain⟨n1,n8,hlook⟩:=C9 h.ok;have hk:=h.k;rw[h1];exact⟨h.l _ hk,U1 (h.l _ hk) (hlook _ hk),hlook _ hk,⟨⟨Ok _ _,h4.1.2.1,mM _ _ _⟩,h4.2⟩,h5,ha.symm,h2,rfl,rfl⟩
set_option maxHeartbeats 4000000 in
theorem sP:FOk Tryz.prog G 9 AUt:=A8 fun x ⟨hkd,hs,hl⟩=>by
 obtain⟨R,hR⟩:∃R,R=Sd x:=⟨_,rfl⟩;rw[←hR];have hΓ:=Ab Tryz.f9.ntmps _ _ [] (.cons (kY) (.cons (fV) (.cons (AAr.g) (.cons (AGu) (.cons (fU) (.cons (fZ.g) (.cons (AAw) (.cons (AB0) .nil)))))))) (.cons (hg AHa) .nil);refine Aw hΓ Tryz.func9 ?_;conv=>whnf
 repeat' (apply An<;>conv=>whnf)
 all_goals try first|exact⟨Ah⟩|exact⟨⟨by omega,by omega⟩⟩|exact⟨fun _ _=>trivial⟩|exact⟨fun _ _=>rfl⟩
 refine⟨(x.kd,x.s),⟨AE.refl _,AE.refl _,trivial⟩,⟨hkd,hs⟩,?_⟩;intro p hp;replace hp:p=Dd x.kd x.s:=hp;subst hp;conv=>whnf
 repeat' (first|(apply Ap<;>intro hp<;>first|(exfalso;revert hp;simp;done)|conv=>whnf)|(apply An<;>conv=>whnf))
 all_goals try first|exact⟨Ah⟩|exact⟨fun _ _=>trivial⟩|exact⟨fun _ _=>rfl⟩
 refine⟨x.a,⟨AE.refl _,trivial⟩,⟨hl⟩,?_⟩;intro r hr;replace hr:r=B3 x.a.n x.a.l:=hr;conv=>whnf
 apply Ap<;>intro h1<;>conv=>whnf
 ·have hr2:r=false:=by cases r<;>simp_all
  rw[hR,show Sd x=(0,x.a.l,1)from if_pos (hr.symm.trans hr2)];exact Ld.two Ld.emp (by simp) rfl (by simp[C8]) rfl
 have hf:B3 x.a.n x.a.l=true:=by rw[←hr];cases r<;>simp_all
 have e1:Sd x=if En x.a.l x.a.n (Dd x.kd x.s)<0 then(0,x.a.l,16)
   else if Fq x.o=false then(0,x.a.l,1)
   else if x.o.kind=2∧(Qk x.gt).2≠0 then(0,x.a.l,(Qk x.gt).2)
   else if(Fg x.nx).2≠0 then(0,x.a.l,(Fg x.nx).2)
   else(x.a.n,fun j=>if j=x.nx.k then Bn (x.a.l x.nx.k) (Fg x.nx).1 else x.a.l j,0):=if_neg (by simp[hf])
 rw[e1]at hR;clear e1 h1 hr;obtain⟨n1,n8,hlook⟩:=C9 hf;conv=>whnf
 repeat' (apply An<;>conv=>whnf)
 all_goals try first|exact⟨Ah⟩|exact⟨fun _ _=>trivial⟩|exact⟨fun _ _=>rfl⟩
 refine⟨⟨x.a,Dd x.kd x.s⟩,⟨AE.refl _,AE.refl _,trivial⟩,⟨Ok _ _,fun k hk=>(hl k hk).1,by show x.a.n≤1000000;omega⟩,?_⟩;intro k hk;replace hk:k=En x.a.l x.a.n (Dd x.kd x.s):=hk;have hfl:=Lm (l:=x.a.l) (author:=Dd x.kd x.s) x.a.n 0;replace hfl:k<0∨((0:Nat)≤k∧k<(0+x.a.n:Nat)∧(x.a.l k.toNat).author=Dd x.kd x.s):=by rw[hk];exact hfl
 rw[←hk]at hR;conv=>whnf
 apply Ap<;>intro h1<;>conv=>whnf
 ·rw[if_pos (of_decide_eq_true h1)]at hR;rw[hR];exact Ld.two Ld.emp (by simp) rfl (by simp[C8]) rfl
 have hk0:¬k<0:=of_decide_eq_false h1;rw[if_neg hk0]at hR;obtain⟨m,rfl⟩:=Int.eq_ofNat_of_zero_le (Int.not_lt.1 hk0);conv=>whnf
 repeat' (apply An<;>conv=>whnf)
 all_goals try first|exact⟨Ah⟩|exact⟨fun _ _=>trivial⟩|exact⟨fun _ _=>rfl⟩
 refine⟨x.o,⟨AE.refl _,trivial⟩,⟨trivial⟩,?_⟩;intro q hq;replace hq:q=Fq x.o:=hq;rw[←hq]at hR;conv=>whnf
 apply Ap<;>intro h2<;>conv=>whnf
 ·have hq2:q=false:=by cases q<;>simp_all
  rw[if_pos hq2]at hR;rw[hR];exact Ld.two Ld.emp (by simp) rfl (by simp[C8]) rfl
 have hq2:q=true:=by cases q<;>simp_all
 rw[if_neg (by simp[hq2])]at hR;have ho:Fq x.o=true:=hq.symm.trans hq2;obtain⟨k1,k2,k3⟩:=hfl.resolve_left hk0;have hnk:x.nx.k=m:=by show(En x.a.l x.a.n (Dd x.kd x.s)).toNat=_;rw[←hk];simp
 have hm:m<x.a.n:=by omega
 replace k3:(x.nx.a.l x.nx.k).author=Dd x.nx.kd x.nx.s:=by rw[hnk];exact k3
 have hnx:uX x.nx:=⟨hkd,hs,hl,hf,by rw[hnk];exact hm,ho⟩;have hvm:∀c,c∈Dj x.a.n x.a.l→AE7 c:=fun c hc=>Ue hl hc;have hvl:=Ud x.a.n x.a.l;clear hq hq2 h1 h2 hk hk0 k1 k2;conv=>whnf
 apply Ap<;>intro h3<;>conv=>whnf
 ·replace h3:x.o.kind=2:=by simpa using h3
  conv=>whnf
  repeat' (apply An<;>conv=>whnf)
  all_goals try first|exact⟨Ah⟩|exact⟨fun _ _=>trivial⟩|exact⟨fun _ _=>rfl⟩
  refine⟨x.a,⟨AE.refl _,trivial⟩,⟨hl⟩,?_⟩;intro vw hvw;replace hvw:vw=Dj x.a.n x.a.l:=hvw;subst hvw;conv=>whnf
  repeat' (apply An<;>conv=>whnf)
  all_goals try first|exact⟨Ah⟩|exact⟨fun _ _=>trivial⟩|exact⟨fun _ _=>rfl⟩
  refine⟨x.gt,⟨AE.refl _,AE.refl _,trivial⟩,⟨by show(Dj x.a.n x.a.l).length≤1000000;omega,fun k hk=>?_⟩,?_⟩
  ·have:=(hvm _ (Rs hk)).val
   show(Dy (Dj x.a.n x.a.l) k).val.length≤1000000
   omega
  intro g hg;replace hg:g=Qk x.gt:=hg;rw[←hg]at hR;conv=>whnf
  apply Ap<;>intro h4<;>conv=>whnf
  ·have h6:g.2≠0:=by simpa using h4
   rw[if_pos ⟨h3,h6⟩]at hR;rw[hR];exact Ld.two Ld.emp (by simp) rfl (by simp[C8]) rfl
  have h6:g.2=0:=by simpa using h4
  rw[if_neg (fun h=>h.2 h6)]at hR;conv=>whnf
  repeat' (apply An<;>conv=>whnf)
  all_goals try first|exact⟨Ah⟩|exact⟨⟨by omega,by omega⟩⟩|exact⟨fun _ _=>trivial⟩|exact⟨fun _ _=>rfl⟩
  refine⟨x.nx,⟨AE.refl _,AE.refl _,AE.refl _,AE.of (congrArg (fun j:Nat=>V.int .i64 (j:Int)) hnk.symm),AE.refl _,trivial⟩,⟨hnx⟩,?_⟩;intro w hw;replace hw:w=Fg x.nx:=hw;rw[←hw]at hR;conv=>whnf
  apply Ap<;>intro h5<;>conv=>whnf
  ·rw[if_pos (by simpa using h5)]at hR;rw[hR];exact Ld.two Ld.emp (by simp) rfl (by simp[C8]) rfl
  have hw0:w.2=0:=by simpa using h5
  rw[if_neg (fun h=>h hw0)]at hR;have hps:=Wp hnx (by rw[←hw];exact hw0) k3;rw[←hw]at hps;clear h5;conv=>whnf
  repeat' (apply An<;>conv=>whnf)
  all_goals try first|exact⟨Ah⟩|exact⟨⟨by omega,by omega⟩⟩|exact⟨fun _ _=>trivial⟩|exact⟨fun _ _=>rfl⟩
  refine⟨⟨x.a.l m,w.1⟩,⟨AE.refl _,AE.refl _,trivial⟩,⟨by have:=hps;rw[hnk]at this;exact this⟩,?_⟩;intro f hf2;replace hf2:f=Bn (x.a.l m) w.1:=hf2;conv=>whnf
  repeat' (first|(apply Ap<;>intro hp<;>first|(exfalso;revert hp;simp;done)|conv=>whnf)|(apply An<;>conv=>whnf))
  all_goals try first|exact⟨Ah⟩|exact⟨⟨by omega,by omega⟩⟩|exact⟨fun _ _=>trivial⟩|exact⟨fun _ _=>rfl⟩
  refine⟨x.a,[],?_⟩;conv=>whnf
  repeat' (apply An<;>conv=>whnf)
  all_goals try first|exact⟨Ah⟩|exact⟨fun k hk=>Aa _ (Dq _)⟩|exact⟨⟨n1,by omega,fun k hk=>U1 (hl k hk) (hlook k hk)⟩⟩
  have hRm:R=(x.a.n,fun j=>if j=m then f else x.a.l j,0):=by rw[hR,hnk,hf2]
  have hrow:∀k,Fl (if k=m then f else x.a.l k)=if k=m then Fl f else Fl (x.a.l k):=fun k=>by split<;>rfl
  ·refine⟨fun k hk=>?_⟩
   by_cases hkm:k=m
   ·first
     |exact cast (congrArg own (if_pos (show k=0+Int.toNat (m:Int) by omega)).symm) (Cl f)
     |exact cast (congrArg own (if_pos (show 0+k=0+Int.toNat (m:Int) by omega)).symm) (Cl f)
   ·first
     |exact cast (congrArg own (if_neg (show¬k=0+Int.toNat (m:Int) by omega)).symm) (Cl _)
     |exact cast (congrArg own (if_neg (show¬0+k=0+Int.toNat (m:Int) by omega)).symm) (Cl _)
  rw[show R=(x.a.n,fun j=>if j=m then f else x.a.l j,0) by rw[hR,hnk,hf2]]
  refine Ld.two (Ld.imm fun k hk=>?_) (by simp) rfl (by simp[C8]) rfl
  show _=Fl (if k=m then f else x.a.l k)
  by_cases hkm:k=m
  ·rw[if_pos hkm]
   first
    |exact if_pos (show k=0+Int.toNat (m:Int) by omega)
    |exact if_pos (show 0+k=0+Int.toNat (m:Int) by omega)
  ·rw[if_neg hkm]
   first
    |exact if_neg (show¬k=0+Int.toNat (m:Int) by omega)
    |exact(if_neg (show¬0+k=0+Int.toNat (m:Int) by omega)).trans (congrArg (fun j=>Fl (x.a.l j)) (Nat.zero_add k))
 ·replace h3:¬x.o.kind=2:=by simpa using h3
  rw[if_neg (fun h=>h3 h.1)]at hR;conv=>whnf
  repeat' (apply An<;>conv=>whnf)
  all_goals try first|exact⟨Ah⟩|exact⟨⟨by omega,by omega⟩⟩|exact⟨fun _ _=>trivial⟩|exact⟨fun _ _=>rfl⟩
  refine⟨x.nx,⟨AE.refl _,AE.refl _,AE.refl _,AE.of (congrArg (fun j:Nat=>V.int .i64 (j:Int)) hnk.symm),AE.refl _,trivial⟩,⟨hnx⟩,?_⟩;intro w hw;replace hw:w=Fg x.nx:=hw;rw[←hw]at hR;conv=>whnf
  apply Ap<;>intro h5<;>conv=>whnf
  ·rw[if_pos (by simpa using h5)]at hR;rw[hR];exact Ld.two Ld.emp (by simp) rfl (by simp[C8]) rfl
  have hw0:w.2=0:=by simpa using h5
  rw[if_neg (fun h=>h hw0)]at hR;have hps:=Wp hnx (by rw[←hw];exact hw0) k3;rw[←hw]at hps;clear h5;conv=>whnf
  repeat' (apply An<;>conv=>whnf)
  all_goals try first|exact⟨Ah⟩|exact⟨⟨by omega,by omega⟩⟩|exact⟨fun _ _=>trivial⟩|exact⟨fun _ _=>rfl⟩
  refine⟨⟨x.a.l m,w.1⟩,⟨AE.refl _,AE.refl _,trivial⟩,⟨by have:=hps;rw[hnk]at this;exact this⟩,?_⟩;intro f hf2;replace hf2:f=Bn (x.a.l m) w.1:=hf2;conv=>whnf
  repeat' (first|(apply Ap<;>intro hp<;>first|(exfalso;revert hp;simp;done)|conv=>whnf)|(apply An<;>conv=>whnf))
  all_goals try first|exact⟨Ah⟩|exact⟨⟨by omega,by omega⟩⟩|exact⟨fun _ _=>trivial⟩|exact⟨fun _ _=>rfl⟩
  refine⟨x.a,[],?_⟩;conv=>whnf
  repeat' (apply An<;>conv=>whnf)
  all_goals try first|exact⟨Ah⟩|exact⟨fun k hk=>Aa _ (Dq _)⟩|exact⟨⟨n1,by omega,fun k hk=>U1 (hl k hk) (hlook k hk)⟩⟩
  have hRm:R=(x.a.n,fun j=>if j=m then f else x.a.l j,0):=by rw[hR,hnk,hf2]
  have hrow:∀k,Fl (if k=m then f else x.a.l k)=if k=m then Fl f else Fl (x.a.l k):=fun k=>by split<;>rfl
  ·refine⟨fun k hk=>?_⟩
   by_cases hkm:k=m
   ·first
     |exact cast (congrArg own (if_pos (show k=0+Int.toNat (m:Int) by omega)).symm) (Cl f)
     |exact cast (congrArg own (if_pos (show 0+k=0+Int.toNat (m:Int) by omega)).symm) (Cl f)
   ·first
     |exact cast (congrArg own (if_neg (show¬k=0+Int.toNat (m:Int) by omega)).symm) (Cl _)
     |exact cast (congrArg own (if_neg (show¬0+k=0+Int.toNat (m:Int) by omega)).symm) (Cl _)
  rw[show R=(x.a.n,fun j=>if j=m then f else x.a.l j,0) by rw[hR,hnk,hf2]]
  refine Ld.two (Ld.imm fun k hk=>?_) (by simp) rfl (by simp[C8]) rfl
  show _=Fl (if k=m then f else x.a.l k)
  by_cases hkm:k=m
  ·rw[if_pos hkm]
   first
    |exact if_pos (show k=0+Int.toNat (m:Int) by omega)
    |exact if_pos (show 0+k=0+Int.toNat (m:Int) by omega)
  ·rw[if_neg hkm]
   first
    |exact if_neg (show¬k=0+Int.toNat (m:Int) by omega)
    |exact(if_neg (show¬0+k=0+Int.toNat (m:Int) by omega)).trans (congrArg (fun j=>Fl (x.a.l j)) (Nat.zero_add k))
end Go.Proofs.YtaihjcpfjgpmoaaGreatDoor
