/- Part of the claim ModelPuts: M1. -/
import Derived.Test.YtaihjcpfjgpmoaaGreatDoorZA
set_option linter.unusedVariables false
set_option linter.unusedSimpArgs false
set_option maxRecDepth 100000
namespace Go.Proofs.YtaihjcpfjgpmoaaGreatDoor
open Go Go.DD
def Mf:Nat:=9223372036854775807
theorem gN:Mf=9223372036854775807:=rfl
def H9(a b:Nat):Nat:=if Mf - b<a then Mf else a+b
def hZ(n e:Nat):Nat:=H9 (H9 (H9 e e) (H9 n n)) 1
def zM(r:Nat):Nat:=H9 8 (H9 r r)
def oA(n e r:Nat):Nat:=if Mf<hZ n e*zM r then Mf else hZ n e*zM r
theorem ABs{x y:Nat}(hx:x<2^64)(hy:y<2^64):
  x/2^32*(y/2^32)+(x/2^32*(y%2^32)+x%2^32*(y%2^32)/2^32)/2^32+((x/2^32*(y%2^32)+x%2^32*(y%2^32)/2^32)%2^32+x%2^32*(y/2^32))/2^32=x*y/2^64:=by
 have hx1:x=2^32*(x/2^32)+x%2^32:=(Nat.div_add_mod x (2^32)).symm;have hy1:y=2^32*(y/2^32)+y%2^32:=(Nat.div_add_mod y (2^32)).symm;have hx3:x%2^32≤4294967295:=by omega
 have hy3:y%2^32≤4294967295:=by omega
 have hx4:x/2^32≤4294967295:=by omega
 have hy4:y/2^32≤4294967295:=by omega
 generalize x/2^32=a at*;generalize x%2^32=b at*;generalize y/2^32=c at*;generalize y%2^32=d at*
 have h:x*y=a*c*2^64+(a*d+b*c)*2^32+b*d:=by
  rw[hx1,hy1];simp only[Nat.add_mul,Nat.mul_add]
  have e1:2^32*a*(2^32*c)=a*c*2^64:=by
   rw[show(2^64:Nat)=2^32*2^32 by decide]
   ac_rfl
  have e2:2^32*a*d=a*d*2^32:=by ac_rfl
  have e3:b*(2^32*c)=b*c*2^32:=by ac_rfl
  omega
 rw[h];generalize a*c=p;generalize a*d=q;generalize b*c=s;generalize b*d=t;omega
def APq:A7:=Bf (fun(a:Nat×Nat)=>[.int .i64 (a.1:Nat), .int .i64 (a.2:Nat)]) (fun a=>a.1≤Mf∧a.2≤Mf) (fun a=>H9 a.1 a.2) (fun r=> .int .i64 (r:Nat))
theorem AAy:FOk Tryz.prog [] 19 APq:=A8 fun⟨a,b⟩ ⟨ha,hb⟩=>by
 replace ha:a≤9223372036854775807:=ha;replace hb:b≤9223372036854775807:=hb;have w1:IntKind.i64.wrap (9223372036854775807 - (b:Int))=((9223372036854775807 - b:Nat):Int):=by rw[A3 (by omega) (by omega)];omega
 have hΓ:=Ad Tryz.f19.ntmps _ _ (FL.all .nil) (HL.all .nil);refine Aw hΓ Tryz.func19 ?_;conv=>whnf
 repeat' ((first|apply Ap<;>intro _|apply An)<;>conv=>whnf)
 all_goals(try simp only[w1,decide_eq_true_eq,decide_eq_false_iff_not]at*)
 ·rename_i h;refine Ld.of (congrArg (V.int .i64) ?_)
  show(9223372036854775807:Int)=(H9 a b:Nat)
  rw[H9,if_pos (by rw[gN];omega)];rfl
 ·rename_i h;refine Ld.of (congrArg (V.int .i64) ?_)
  show IntKind.i64.wrap ((a:Int)+b)=(H9 a b:Nat)
  rw[H9,if_neg (by rw[gN];omega),A3 (by omega) (by omega)];omega
theorem ANd(x:Nat)(hx:x<2^64):Ag .and .u64 (x:Nat) 4294967295=((x%2^32:Nat):Int):=by
 have h:=Sl x 4294967295 hx (by decide);rw[show((4294967295:Nat):Int)=4294967295 from rfl]at h;rw[h]
 congr 1
 exact Nat.and_two_pow_sub_one_eq_mod x 32
theorem AN7(x:Nat):Bt .u64 (x:Nat) 32=((x/2^32:Nat):Int):=by
 rw[Bt,show(2:Int)^min (Int.toNat 32) IntKind.u64.bits=4294967296 from rfl,Int.fdiv_eq_ediv_of_nonneg _ (by decide)];omega
theorem sZ{a b:Nat}(ha:a≤4294967295)(hb:b≤4294967295):a*b≤18446744065119617025:=Nat.le_trans (Nat.mul_le_mul ha hb) (Nat.le_refl _)
def AUq:A7:=Bf (fun(a:Nat×Nat)=>[.int .u64 (a.1:Nat), .int .u64 (a.2:Nat)]) (fun a=>a.1<2^64∧a.2<2^64) (fun a=>(a.1*a.2/2^64,a.1*a.2%2^64)) (fun r=> .tup (.cons (.int .u64 (r.1:Nat)) (.cons (.int .u64 (r.2:Nat)) .nil)))
theorem Vz:FOk Tryz.prog [] 20 AUq:=A8 fun⟨x,y⟩ ⟨hx,hy⟩=>by
 replace hx:x<2^64:=hx;replace hy:y<2^64:=hy;have h0:=ABs hx hy;have e1:=ANd x hx;have e2:=ANd y hy;have e3:=AN7 x;have e4:=AN7 y;have bp:=sZ (a:=x/2^32) (b:=y/2^32) (by omega) (by omega);have bq:=sZ (a:=x/2^32) (b:=y%2^32) (by omega) (by omega);have bs:=sZ (a:=x%2^32) (b:=y/2^32) (by omega) (by omega);have bt:=sZ (a:=x%2^32) (b:=y%2^32) (by omega) (by omega)
 have ew:IntKind.u64.wrap (((x*y:Nat)):Int)=((x*y%2^64:Nat):Int):=by
  rw[IntKind.wrap_u64];omega
 have hΓ:=Ad Tryz.f20.ntmps _ _ (FL.all .nil) (HL.all .nil);refine Aw hΓ Tryz.func20 ?_;conv=>whnf
 repeat' ((first|apply Ap<;>intro _|apply An)<;>conv=>whnf)
 all_goals try exact⟨Bc⟩
 refine Ld.of ?_
 show V.tup (.cons (.int .u64 _) (.cons (.int .u64 (IntKind.u64.wrap ((x:Int)*(y:Int)))) .nil))=V.tup (.cons (.int .u64 ((x*y/2^64:Nat):Int)) (.cons (.int .u64 ((x*y%2^64:Nat):Int)) .nil))
 rw[←Int.natCast_mul,ew];refine congrArg (fun n=>V.tup (.cons (.int .u64 n) (.cons (.int .u64 ((x*y%2^64:Nat):Int)) .nil))) ?_;rw[←h0];simp only[e1,e2,e3,e4,←Int.natCast_mul];generalize x/2^32*(y/2^32)=p at*;generalize x/2^32*(y%2^32)=q at*;generalize x%2^32*(y/2^32)=s at*;generalize x%2^32*(y%2^32)=t at*;simp only[Ao p (by omega),Ao q (by omega),Ao s (by omega),Ao t (by omega),AN7,←Int.natCast_add,Ao (q+t/2^32) (by omega),ANd (q+t/2^32) (by omega),Ao ((q+t/2^32)%2^32+s) (by omega),Ao (p+(q+t/2^32)/2^32) (by omega)];rw[Ao _ (by omega)]
def AL5:A7:=Bf (fun(a:Int×Int×Int)=>[.int .i64 a.1, .int .i64 a.2.1, .int .i64 a.2.2]) (fun a=>a.1≤9223372036854775807∧a.2.1≤9223372036854775807∧a.2.2≤9223372036854775807) (fun a=>if a.1<0∨a.2.1<0∨a.2.2<0 then 0 else oA a.1.toNat a.2.1.toNat a.2.2.toNat) (fun r=> .int .i64 (r:Nat))
theorem vN:FOk Tryz.prog [] 6 AL5:=A8 fun⟨n,e,r⟩ ⟨hn,he,hr⟩=>by
 replace hn:n≤9223372036854775807:=hn;replace he:e≤9223372036854775807:=he;replace hr:r≤9223372036854775807:=hr;have hM:=gN;have hpl:∀a b,b≤Mf→H9 a b≤Mf:=fun a b hb=>by unfold H9;split<;>omega
 have hΓ:=Ad Tryz.f6.ntmps _ _ (FL.all (.cons AAy (.cons Vz .nil))) (HL.all .nil);refine Aw hΓ Tryz.func6 ?_;conv=>whnf
 repeat' ((first|apply Ap<;>intro _|apply An)<;>conv=>whnf)
 all_goals(try simp only[decide_eq_true_eq,decide_eq_false_iff_not]at*)
 ·rename_i h;refine Ld.of (congrArg (V.int .i64) ?_);rw[if_pos (.inl h)];rfl
 ·rename_i h;refine Ld.of (congrArg (V.int .i64) ?_);rw[if_pos (.inr (.inl h))];rfl
 ·rename_i h;refine Ld.of (congrArg (V.int .i64) ?_);rw[if_pos (.inr (.inr h))];rfl
 rename_i g1 g2 g3;obtain⟨n,rfl⟩:=Int.eq_ofNat_of_zero_le (Int.not_lt.1 g1);obtain⟨e,rfl⟩:=Int.eq_ofNat_of_zero_le (Int.not_lt.1 g2);obtain⟨r,rfl⟩:=Int.eq_ofNat_of_zero_le (Int.not_lt.1 g3);rw[if_neg (by simp only[not_or];exact⟨g1,g2,g3⟩)];refine⟨(e,e),⟨AE.refl _,AE.refl _,trivial⟩,⟨by show e≤Mf;omega,by show e≤Mf;omega⟩,?_⟩;intro r1 h1;conv=>whnf
 repeat' ((first|apply Ap<;>intro _|apply An)<;>conv=>whnf)
 refine⟨(n,n),⟨AE.refl _,AE.refl _,trivial⟩,⟨by show n≤Mf;omega,by show n≤Mf;omega⟩,?_⟩;intro r2 h2;replace h1:r1=H9 e e:=h1;replace h2:r2=H9 n n:=h2;have b1:=hpl e e (by omega);have b2:=hpl n n (by omega);conv=>whnf
 repeat' ((first|apply Ap<;>intro _|apply An)<;>conv=>whnf)
 refine⟨(r1,r2),⟨AE.refl _,AE.refl _,trivial⟩,⟨by rw[h1];exact b1,by rw[h2];exact b2⟩,?_⟩;intro r3 h3;replace h3:r3=H9 r1 r2:=h3;have b3:=hpl r1 r2 (by rw[h2];exact b2);conv=>whnf
 repeat' ((first|apply Ap<;>intro _|apply An)<;>conv=>whnf)
 refine⟨(r3,1),⟨AE.refl _,AE.refl _,trivial⟩,⟨by rw[h3];exact b3,by show 1≤Mf;omega⟩,?_⟩;intro r4 h4;replace h4:r4=H9 r3 1:=h4;have b4:=hpl r3 1 (by omega);conv=>whnf
 repeat' ((first|apply Ap<;>intro _|apply An)<;>conv=>whnf)
 refine⟨(r,r),⟨AE.refl _,AE.refl _,trivial⟩,⟨by show r≤Mf;omega,by show r≤Mf;omega⟩,?_⟩;intro r5 h5;replace h5:r5=H9 r r:=h5;have b5:=hpl r r (by omega);conv=>whnf
 repeat' ((first|apply Ap<;>intro _|apply An)<;>conv=>whnf)
 refine⟨(8,r5),⟨AE.refl _,AE.refl _,trivial⟩,⟨by show 8≤Mf;omega,by rw[h5];exact b5⟩,?_⟩;intro r6 h6;replace h6:r6=H9 8 r5:=h6;have b6:=hpl 8 r5 (by rw[h5];exact b5);have e4:r4=hZ n e:=by rw[h4,h3,h2,h1];rfl
 have e6:r6=zM r:=by rw[h6,h5];rfl
 have u4:IntKind.u64.wrap (r4:Int)=(r4:Nat):=Ao r4 (by omega);have u6:IntKind.u64.wrap (r6:Int)=(r6:Nat):=Ao r6 (by omega);rw[←h4]at b4;rw[←h6]at b6;clear h1 h2 h3 h4 h5 h6 b1 b2 b3 b5;conv=>whnf
 repeat' ((first|apply Ap<;>intro _|apply An)<;>conv=>whnf)
 refine⟨(r4,r6),⟨AE.of (congrArg (V.int .u64) u4),AE.of (congrArg (V.int .u64) u6),trivial⟩,⟨by show r4<2^64;omega,by show r6<2^64;omega⟩,?_⟩;intro q hq;replace hq:q=(r4*r6/2^64,r4*r6%2^64):=hq;have q1:q.1=r4*r6/2^64:=by rw[hq]
 have q2:q.2=r4*r6%2^64:=by rw[hq]
 have eb:oA n e r=if Mf<r4*r6 then Mf else r4*r6:=by rw[oA,←e4,←e6]
 generalize r4*r6=z at*;conv=>whnf
 repeat' ((first|apply Ap<;>intro _|apply An)<;>conv=>whnf)
 all_goals(try simp only[decide_eq_true_eq,decide_eq_false_iff_not]at*)
 all_goals
  refine Ld.of (congrArg (V.int .i64) ?_);simp only[Int.toNat_natCast];rw[eb]
 ·rename_i h;rw[if_pos (by omega),hM];rfl
 ·rename_i h1 h2;rw[if_pos (by omega),hM];rfl
 ·rename_i h1 h2;rw[if_neg (by omega),A3 (by omega) (by omega)];omega
end Go.Proofs.YtaihjcpfjgpmoaaGreatDoor
