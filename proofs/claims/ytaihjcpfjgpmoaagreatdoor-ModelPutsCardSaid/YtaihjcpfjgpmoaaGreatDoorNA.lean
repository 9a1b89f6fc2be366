/- Part of the claim ModelPuts: N1, N2, N3, N4, N5, N6, N7, N8, N9. -/
import Derived.Test.YtaihjcpfjgpmoaaGreatDoorDC
import Derived.Test.YtaihjcpfjgpmoaaGreatDoorE
import Derived.Test.YtaihjcpfjgpmoaaGreatDoorM1
set_option linter.unusedVariables false
set_option linter.unusedSimpArgs false
set_option maxRecDepth 100000
set_option maxHeartbeats 2000000
namespace Go.Proofs.YtaihjcpfjgpmoaaGreatDoor
open Go Go.DD
def nv(f:Nat→Nat):Nat→V:=fun k=> .int .u64 (f k:Nat)
def Ql(f:Nat→Nat):V:= .row 1 5 (nv f)
def AVs:A7:=Bf (fun(a:W3)=>[.int .u64 (a.x:Nat), .int .u64 (a.y:Nat), .int .u64 (a.c:Nat)]) W3.ok (fun a=>((a.x+a.y+a.c)%2^64,(a.x+a.y+a.c)/2^64)) (fun r=>lZ r.1 r.2)
theorem Vu:FOk Tryz.prog [] 242 AVs:=Ge (yL Tryz.func242 rfl (by decide) (by kernel_rfl) (by kernel_rfl))
def AWk:A7:=Bf (fun(a:W3)=>[.int .u64 (a.x:Nat), .int .u64 (a.y:Nat), .int .u64 (a.c:Nat)]) W3.ok (fun a=>((a.x+2^64 - a.y - a.c)%2^64,if a.x<a.y+a.c then 1 else 0)) (fun r=>lZ r.1 r.2)
theorem fY:FOk Tryz.prog [] 249 AWk:=Ge (ACz Tryz.func249 rfl (by decide) (by kernel_rfl) (by kernel_rfl))
def cw(a:Nat→Nat):Nat→Nat|0=>0|i+1=>(a i+cw a i)/2^51
def Eo(a:Nat→Nat)(k:Nat):Nat:=if k=0 then(a 0+cw a 0)%2^51+19*cw a 5 else(a k+cw a k)%2^51
theorem rT{a:Nat→Nat}(h:∀k,k<5→a k<2^63):∀i,i≤5→cw a i≤5000
 |0,_=>by simp[cw]
 |i+1,hi=>by
  have h1:=rT h i (by omega);have h2:=h i (by omega);simp only[cw];omega
theorem bG(x:Nat)(hx:x<2^64):Ag .and .u64 (x:Nat) 2251799813685247=((x%2^51:Nat):Int):=by
 have h:=Sl x 2251799813685247 hx (by decide);rw[show((2251799813685247:Nat):Int)=2251799813685247 from rfl]at h;rw[h]
 congr 1
 exact Nat.and_two_pow_sub_one_eq_mod x 51
theorem E0(x k:Nat)(hk:k≤64):Bt .u64 (x:Nat) (k:Nat)=((x/2^k:Nat):Int):=by
 rw[Bt,Int.toNat_natCast,show min k IntKind.u64.bits=k from Nat.min_eq_left hk,Int.fdiv_eq_ediv_of_nonneg _ (Int.le_of_lt (Int.pow_pos (by decide)))];rw[Int.natCast_ediv,Int.natCast_pow];rfl
theorem ACs(x:Nat):Bt .u64 (x:Nat) 51=((x/2^51:Nat):Int):=E0 x 51 (by decide)
def AVx:A7:=Bf (fun(a:Nat→Nat)=>[Ql a]) (fun a=>∀k,k<5→a k<2^63) Eo Ql
theorem Vv:FOk Tryz.prog [] 235 AVx:=A8 fun a ha=>by
 have hc:=rT ha
 have cs:∀k,k<5→Bt .u64 (IntKind.u64.wrap ((a k:Nat)+(cw a k:Nat))) 51=((cw a (k+1):Nat):Int):=fun k hk=>by
  have:=ha k hk
  have:=hc k (by omega)
  rw[←Int.natCast_add,Ao _ (by omega),ACs];rfl
 have ms:∀k,k<5→Ag .and .u64 (IntKind.u64.wrap ((a k:Nat)+(cw a k:Nat))) 2251799813685247=(((a k+cw a k)%2^51:Nat):Int):=fun k hk=>by
  have:=ha k hk
  have:=hc k (by omega)
  rw[←Int.natCast_add,Ao _ (by omega),bG _ (by omega)]
 have m19:IntKind.u64.wrap ((((a 0+cw a 0)%2^51:Nat):Int)+IntKind.u64.wrap (19*(cw a 5:Nat)))=((Eo a 0:Nat):Int):=by
  have:=hc 5 (by omega)
  rw[show(19:Int)*(cw a 5:Nat)=((19*cw a 5:Nat):Int) by omega,Ao _ (by omega),←Int.natCast_add,Ao _ (by omega)];rfl
 have hΓ:=Ad Tryz.f235.ntmps _ _ (FL.all .nil) (HL.all .nil);refine Aw hΓ Tryz.func235 ?_;conv=>whnf
 refine A4 (ι:=Nat) (fun i=>[(1, .ref 0 []),(2, .ref 1 []),(3, .int .u64 (cw a i:Nat)),(5, .int .i64 (i:Nat))]) (fun i=>[some (Ql fun k=>if k<i then(a k+cw a k)%2^51 else a k),some (.row 1 5 fun _=> .int .u64 0)]) (fun i=>i≤5) (fun i=>5 - i) 0 [some 0,some 1] ?_ (fun i hi=>vo hΓ ?_)
 ·conv=>whnf
  repeat' ((first|apply Ap<;>intro _|apply An)<;>conv=>whnf)
  all_goals try exact⟨Ba⟩
  all_goals skip
 ·rcases Nat.lt_or_ge i 5 with h5|h5
  ·obtain⟨y,hy⟩:∃y,y=i+1:=⟨_,rfl⟩;obtain rfl|rfl|rfl|rfl|rfl:i=0∨i=1∨i=2∨i=3∨i=4:=by omega
   all_goals
    conv=>whnf
    repeat' (first|(apply Ap<;>intro hp<;>first|(exfalso;revert hp;simp;done)|conv=>whnf)|(apply An<;>conv=>whnf))
    all_goals try exact⟨Bc⟩
    refine⟨y,[some 0,some 1],?_⟩;subst hy;conv=>whnf
    repeat' (apply An<;>conv=>whnf)
    all_goals try exact⟨Ba⟩
   all_goals first
    |exact⟨cs 0 (by decide)⟩
    |exact⟨cs 1 (by decide)⟩
    |exact⟨cs 2 (by decide)⟩
    |exact⟨cs 3 (by decide)⟩
    |exact⟨cs 4 (by decide)⟩
    |skip
   all_goals
    refine⟨?_⟩;refine(A0 ?_ (A0 ?_ (A0 ?_ (A0 ?_ (A0 ?_ A9)))))
   all_goals first
    |exact A5 rfl trivial
    |exact A5 (congrArg (V.int .u64) (ms 0 (by decide))) trivial
    |exact A5 (congrArg (V.int .u64) (ms 1 (by decide))) trivial
    |exact A5 (congrArg (V.int .u64) (ms 2 (by decide))) trivial
    |exact A5 (congrArg (V.int .u64) (ms 3 (by decide))) trivial
    |exact A5 (congrArg (V.int .u64) (ms 4 (by decide))) trivial
  ·obtain rfl:i=5:=by omega
   conv=>whnf
   repeat' (first|(apply Ap<;>intro hp<;>first|(exfalso;revert hp;simp;done)|conv=>whnf)|(apply An<;>conv=>whnf))
   refine vo hΓ ?_;conv=>whnf
   repeat' ((first|apply Ap<;>intro _|apply An)<;>conv=>whnf)
   all_goals try first|exact⟨Bc⟩|exact⟨⟨by decide,by decide⟩⟩|exact⟨by decide⟩
   ·refine⟨?_⟩;refine(A0 ?_ (A0 ?_ (A0 ?_ (A0 ?_ (A0 ?_ A9)))));all_goals exact trivial
   ·refine Ld.row ?_;refine(A0 ?_ (A0 ?_ (A0 ?_ (A0 ?_ (A0 ?_ A9)))))
    all_goals first
     |rfl
     |exact congrArg (V.int .u64) m19
theorem vM:FOk Tryz.prog [] 234 (Bf (fun(x:Nat)=>[.int .u64 (x:Nat)]) (fun x=>x<2^64) (fun x k=>if k=0 then x else 0) Ql):=A8 fun x hx=>by
 have hΓ:=Ad Tryz.f234.ntmps _ _ (FL.all .nil) (HL.all .nil);refine Aw hΓ Tryz.func234 ?_;conv=>whnf
 repeat' ((first|apply Ap<;>intro _|apply An)<;>conv=>whnf)
 ·refine⟨?_⟩;refine(A0 ?_ (A0 ?_ (A0 ?_ (A0 ?_ (A0 ?_ A9)))));all_goals exact trivial
 ·refine Ld.row ?_;refine(A0 ?_ (A0 ?_ (A0 ?_ (A0 ?_ (A0 ?_ A9)))));all_goals rfl
theorem L2(f g:Nat→Nat)(i k:Nat){v:V}(hv:v= .int .u64 (g i:Nat)):(if k=i then v else nv (fun k=>if k<i then g k else f k) k)=nv (fun k=>if k<i+1 then g k else f k) k:=by
 by_cases h:k=i
 ·subst h;rw[if_pos rfl,hv];simp only[nv,if_pos (Nat.lt_succ_self k)]
 ·rw[if_neg h]
  by_cases h2:k<i
  ·simp only[nv,if_pos h2,if_pos (show k<i+1 by omega)]
  ·simp only[nv,if_neg h2,if_neg (show¬k<i+1 by omega)]
def S3(a:Nat→Nat):Prop:=∀k,k<5→a k<2^52
structure Two where
 a:Nat→Nat
 b:Nat→Nat
def AEe(x:Two):Nat→Nat:=Eo fun k=>x.a k+x.b k
def pk(k:Nat):Nat:=if k=0 then 9007199254740916 else 9007199254740988
def AJh(x:Two):Nat→Nat:=Eo fun k=>x.a k+(pk k - x.b k)
def AQt:A7:=Bf (fun(x:Two)=>[Ql x.a,Ql x.b]) (fun x=>S3 x.a∧S3 x.b) AEe Ql
theorem AAc:FOk Tryz.prog [] 188 AQt:=A8 fun⟨a,b⟩ ⟨ha,hb⟩=>by
 replace ha:S3 a:=ha;replace hb:S3 b:=hb;have hΓ:=Ad Tryz.f188.ntmps _ _ (FL.all (.cons Vv .nil)) (HL.all .nil);refine Aw hΓ Tryz.func188 ?_;conv=>whnf
 refine A4 (ι:=Nat) (fun i=>[(2, .ref 0 []),(3, .ref 1 []),(4, .ref 2 []),(6, .int .i64 (i:Nat))]) (fun i=>[some (Ql fun k=>if k<i then a k+b k else a k),some (Ql b),some (.row 1 5 fun _=> .int .u64 0)]) (fun i=>i≤5) (fun i=>5 - i) 0 [some 0,some 1,some 2] ?_ (fun i hi=>vo hΓ ?_)
 ·conv=>whnf
  repeat' ((first|apply Ap<;>intro _|apply An)<;>conv=>whnf)
  all_goals try exact⟨Ba⟩
 ·conv=>whnf
  apply Ap<;>intro h3<;>conv=>whnf
  ·have hin:i<5:=by
    have:((i:Nat):Int)<5:=by simpa using h3
    omega
   have h1:=ha i hin;have h2:=hb i hin
   have hs:IntKind.u64.wrap (((if i<i then a i+b i else a i:Nat):Int)+(b i:Nat))=((a i+b i:Nat):Int):=by
    rw[if_neg (Nat.lt_irrefl i),←Int.natCast_add,Ao _ (by omega)]
   conv=>whnf
   repeat' ((first|apply Ap<;>intro _|apply An)<;>conv=>whnf)
   all_goals try exact⟨Ba⟩
   refine⟨i+1,[some 0,some 1,some 2],?_⟩;conv=>whnf
   repeat' (apply An<;>conv=>whnf)
   all_goals try exact⟨Ba⟩
   ·exact⟨by rw[A3 (by omega) (by omega)];rfl⟩
   exact⟨fun k _=>A5 (L2 a (fun k=>a k+b k) i k (congrArg (V.int .u64) hs)) trivial⟩
  ·have hin:i=5:=by
    have:¬((i:Nat):Int)<5:=by simpa using h3
    omega
   subst hin;refine vo hΓ ?_;conv=>whnf
   repeat' (apply An<;>conv=>whnf)
   all_goals try exact⟨B9⟩
   refine⟨fun k=>a k+b k,⟨AE.row ?_,trivial⟩,⟨fun k hk=>by have:=ha k hk;have:=hb k hk;show a k+b k<2^63;omega⟩,?_⟩
   ·refine(A0 ?_ (A0 ?_ (A0 ?_ (A0 ?_ (A0 ?_ A9)))));all_goals rfl
   intro r hr;replace hr:r=AEe ⟨a,b⟩:=hr;conv=>whnf
   repeat' ((first|apply Ap<;>intro _|apply An)<;>conv=>whnf)
   all_goals try exact⟨B9⟩
   rw[hr];exact Ld.refl _
def ARs:A7:=Bf (fun(x:Two)=>[Ql x.a,Ql x.b]) (fun x=>S3 x.a∧S3 x.b) AJh Ql
theorem AAn:FOk Tryz.prog [] 237 ARs:=A8 fun⟨a,b⟩ ⟨ha,hb⟩=>by
 replace ha:S3 a:=ha;replace hb:S3 b:=hb;have hΓ:=Ad Tryz.f237.ntmps _ _ (FL.all (.cons Vv .nil)) (HL.all .nil);refine Aw hΓ Tryz.func237 ?_;conv=>whnf
 refine A4 (ι:=Nat) (fun i=>[(2, .ref 0 []),(3, .ref 1 []),(4, .ref 2 []),(5, .ref 3 []),(8, .int .i64 (i:Nat))]) (fun i=>[some (Ql fun k=>if k<i then a k+(pk k - b k)else a k),some (Ql b),some (.row 1 5 fun _=> .int .u64 0),some (Ql pk)]) (fun i=>i≤5) (fun i=>5 - i) 0 [some 0,some 1,some 2,some 3] ?_ (fun i hi=>vo hΓ ?_)
 ·conv=>whnf
  repeat' ((first|apply Ap<;>intro _|apply An)<;>conv=>whnf)
  all_goals try exact⟨Ba⟩
  ·refine⟨?_⟩;refine(A0 ?_ (A0 ?_ (A0 ?_ (A0 ?_ (A0 ?_ A9)))));all_goals exact A5 rfl trivial
 ·conv=>whnf
  apply Ap<;>intro h3<;>conv=>whnf
  ·have hin:i<5:=by
    have:((i:Nat):Int)<5:=by simpa using h3
    omega
   have h1:=ha i hin;have h2:=hb i hin;have hp1:pk i<2^54:=by unfold pk;split<;>omega
   have hp2:b i≤pk i:=by unfold pk;split<;>omega
   have hs:IntKind.u64.wrap (((if i<i then a i+(pk i - b i)else a i:Nat):Int)+IntKind.u64.wrap ((pk i:Nat) - (b i:Nat)))=((a i+(pk i - b i):Nat):Int):=by
    rw[if_neg (Nat.lt_irrefl i),←Int.ofNat_sub hp2,Ao _ (by omega),←Int.natCast_add,Ao _ (by omega)]
   conv=>whnf
   repeat' ((first|apply Ap<;>intro _|apply An)<;>conv=>whnf)
   all_goals try exact⟨Ba⟩
   refine⟨i+1,[some 0,some 1,some 2,some 3],?_⟩;conv=>whnf
   repeat' (apply An<;>conv=>whnf)
   all_goals try exact⟨Ba⟩
   ·exact⟨by rw[A3 (by omega) (by omega)];rfl⟩
   exact⟨fun k _=>A5 (L2 a (fun k=>a k+(pk k - b k)) i k (congrArg (V.int .u64) hs)) trivial⟩
  ·have hin:i=5:=by
    have:¬((i:Nat):Int)<5:=by simpa using h3
    omega
   subst hin;refine vo hΓ ?_;conv=>whnf
   repeat' (apply An<;>conv=>whnf)
   all_goals try exact⟨B9⟩
   refine⟨fun k=>a k+(pk k - b k),⟨AE.row ?_,trivial⟩,⟨fun k hk=>by have:=ha k hk;have hp1:pk k<2^54:=(by unfold pk;split<;>omega);show a k+(pk k - b k)<2^63;omega⟩,?_⟩
   ·refine(A0 ?_ (A0 ?_ (A0 ?_ (A0 ?_ (A0 ?_ A9)))));all_goals rfl
   intro r hr;replace hr:r=AJh ⟨a,b⟩:=hr;conv=>whnf
   repeat' ((first|apply Ap<;>intro _|apply An)<;>conv=>whnf)
   all_goals try exact⟨B9⟩
   rw[hr];exact Ld.refl _
def xb(b:Nat→Nat)(i k:Nat):Nat:=if 5≤i+k then b k*19 else b k
def Sy(a b:Nat→Nat)(i:Nat)(S:Nat→Nat):Nat→Nat→Nat|0=>S|k+1=>fun j=>if j=(i+k)%5 then Sy a b i S k j+a i*xb b i k else Sy a b i S k j
def J4(a b:Nat→Nat):Nat→Nat→Nat|0=>fun _=>0|i+1=>Sy a b i (J4 a b i) 5
theorem tP{a b:Nat→Nat}(ha:S3 a)(hb:S3 b){i k:Nat}(hi:i<5)(hk:k<5):xb b i k<2^57∧a i*xb b i k≤2^109:=by
 have h1:=ha i hi;have h2:=hb k hk;have h3:xb b i k<2^57:=by unfold xb;split<;>omega
 exact⟨h3,Nat.le_trans (Nat.mul_le_mul (Nat.le_of_lt h1) (Nat.le_of_lt h3)) (by decide)⟩
theorem eC{a b:Nat→Nat}(ha:S3 a)(hb:S3 b){i:Nat}(hi:i<5){S:Nat→Nat}{m:Nat}(hS:∀j,S j≤m):∀k,k≤5→∀j,Sy a b i S k j≤m+k*2^109
 |0,_,j=>by rw[Nat.zero_mul,Nat.add_zero];exact hS j
 |k+1,hk,j=>by
  have h1:=eC ha hb hi hS k (by omega) j;have h2:=(tP ha hb hi (show k<5 by omega)).2;generalize 2^109=B at*;rw[Nat.succ_mul];simp only[Sy]
  split<;>omega
theorem eB{a b:Nat→Nat}(ha:S3 a)(hb:S3 b):∀i,i≤5→∀j,J4 a b i j≤i*(5*2^109)
 |0,_,j=>by rw[Nat.zero_mul];exact Nat.le_refl _
 |i+1,hi,j=>by
  have h1:=eC ha hb (show i<5 by omega) (eB ha hb i (by omega)) 5 (Nat.le_refl _) j;simp only[J4];generalize 2^109=B at*;rw[Nat.succ_mul];omega
theorem T0{f g:Nat→Nat}{z:Int}{m:Nat}(hz:z=(m:Nat)){v:V}(hv:v= .int .u64 (g m:Nat))(hg:∀j,j≠m→g j=f j)(j:Nat):(if j=z.toNat then v else nv f j)=nv g j:=by
 subst hz;rw[Int.toNat_natCast]
 by_cases h:j=m
 ·rw[if_pos h,hv,h];rfl
 ·rw[if_neg h];simp only[nv,hg j h]
def loV(S:Nat→Nat):V:=Ql fun j=>S j%2^64
def hiV(S:Nat→Nat):V:=Ql fun j=>S j/2^64
def cm(S:Nat→Nat):Nat→Nat|0=>0|i+1=>(S i+cm S i)/2^51
def Es(S:Nat→Nat)(k:Nat):Nat:=(S k+cm S k)%2^51
def Kr(S:Nat→Nat)(k:Nat):Nat:=if k=0 then(cm S 5*19+Es S 0)%2^51 else if k=1 then Es S 1+(cm S 5*19+Es S 0)/2^51 else Es S k
def ANk(x:Two):Nat→Nat:=Eo (Kr (J4 x.a x.b 5))
def ARb:A7:=Bf (fun(x:Two)=>[Ql x.a,Ql x.b]) (fun x=>S3 x.a∧S3 x.b) ANk Ql
theorem AQ8{i k:Nat}(hi:i<5)(hk:k<5):(IntKind.i64.wrap ((i:Int)+(k:Int))).tmod 5=(((i+k)%5:Nat):Int):=by
 rw[A3 (x:=(i:Int)+k) (by omega) (by omega),Int.tmod_eq_emod_of_nonneg (by omega)];omega
theorem cD{S S':Nat→Nat}{p m:Nat}(hnx:∀j,S' j=if j=m then S j+p else S j):(((S m%2^64+p%2^64+0)%2^64:Nat):Int)=((S' m%2^64:Nat):Int):=by
 rw[hnx,if_pos rfl];omega
theorem nH{S S':Nat→Nat}{p m:Nat}{z:Int}(hz:z=(m:Nat))(hnx:∀j,S' j=if j=m then S j+p else S j)(h1:S m/2^64<2^50)(h2:p/2^64<2^46):IntKind.u64.wrap (((S z.toNat/2^64:Nat):Int)+IntKind.u64.wrap (((p/2^64:Nat):Int)+(((S m%2^64+p%2^64+0)/2^64:Nat):Int)))=((S' m/2^64:Nat):Int):=by
 subst hz;rw[Int.toNat_natCast,hnx,if_pos rfl,←Int.natCast_add,Ao _ (by omega),←Int.natCast_add,Ao _ (by omega)];omega
theorem zE{S:Nat→Nat}(h:∀j,S j<2^114):∀i,cm S i<2^64
 |0=>by simp[cm]
 |i+1=>Nat.div_lt_of_lt_mul (Nat.lt_of_lt_of_le (Nat.add_lt_add (h i) (zE h i)) (by decide))
theorem ASc(x y:Nat)(hx:x<2^51)(hy:y<2^13):Ag .or .u64 (Ch .u64 (x:Nat) 13) (y:Nat)=((x*2^13+y:Nat):Int):=by
 have h1:Ch .u64 (x:Nat) 13=((x*2^13:Nat):Int):=by
  rw[Ch,show((13:Int).toNat)=13 from rfl,show min 13 IntKind.u64.bits=13 from rfl,show((x:Nat):Int)*2^13=((x*2^13:Nat):Int) by omega,Ao _ (by omega)]
 rw[h1,G2 _ _ (by omega) (by omega),←Nat.shiftLeft_eq,←Nat.shiftLeft_add_eq_or_of_lt hy]
theorem rQ{s c:Nat}(hs:s<2^114)(hc:c<2^64):Ag .or .u64 (Ch .u64 (IntKind.u64.wrap (((s/2^64:Nat):Int)+(((s%2^64+c+0)/2^64:Nat):Int))) 13) (Bt .u64 (((s%2^64+c+0)%2^64:Nat):Int) 51)=(((s+c)/2^51:Nat):Int):=by
 have h1:s/2^64<2^50:=Nat.div_lt_of_lt_mul (Nat.lt_of_lt_of_le hs (by decide));have h2:(s%2^64+c+0)/2^64<2:=by omega
 rw[←Int.natCast_add,Ao _ (by omega),ACs,ASc _ _ (by omega) (by omega)]
 congr 1
 clear hs;omega
theorem rR{s c:Nat}:Ag .and .u64 (((s%2^64+c+0)%2^64:Nat):Int) 2251799813685247=(((s+c)%2^51:Nat):Int):=by
 rw[bG _ (Nat.mod_lt _ (by decide))]
 congr 1
 omega
theorem AAh:FOk Tryz.prog [] 193 ARb:=A8 fun⟨a,b⟩ ⟨ha,hb⟩=>by
 replace ha:S3 a:=ha;replace hb:S3 b:=hb;have hI:=eB ha hb;have hΓ:=Ad Tryz.f193.ntmps _ _ (FL.all (.cons Vv (.cons Vz (.cons Vu .nil)))) (HL.all .nil);refine Aw hΓ Tryz.func193 ?_;conv=>whnf
 refine A4 (ι:=Nat) (fun i=>[(2, .ref 0 []),(3, .ref 1 []),(4, .ref 2 []),(5, .ref 3 []),(6, .ref 4 []),(22, .int .i64 (i:Nat))]) (fun i=>[some (Ql a),some (Ql b),some (.row 1 5 fun _=> .int .u64 0),some (hiV (J4 a b i)),some (loV (J4 a b i))]) (fun i=>i≤5) (fun i=>5 - i) 0 [some 0,some 1,some 2,some 3,some 4] ?_ (fun i hi=>vo hΓ ?_)
 ·conv=>whnf
  repeat' ((first|apply Ap<;>intro _|apply An)<;>conv=>whnf)
  all_goals try exact⟨Ba⟩
  all_goals exact⟨fun k _=>A5 (congrArg (V.int .u64) (show(0:Int)=((0/2^64:Nat):Int) by decide)) trivial⟩
 ·conv=>whnf
  apply Ap<;>intro h3<;>conv=>whnf
  ·have hin:i<5:=by
    have:((i:Nat):Int)<5:=by simpa using h3
    omega
   have hK:=eC ha hb hin (hI i hi);conv=>whnf
   repeat' ((first|apply Ap<;>intro _|apply An)<;>conv=>whnf)
   all_goals try exact⟨Bc⟩
   refine A4 (ι:=Nat) (fun k=>[(2, .ref 0 []),(3, .ref 1 []),(4, .ref 2 []),(5, .ref 3 []),(6, .ref 4 []),(7, .int .i64 (i:Nat)),(22, .int .i64 (i:Nat)),(25, .int .i64 (k:Nat))]) (fun k=>[some (Ql a),some (Ql b),some (.row 1 5 fun _=> .int .u64 0),some (hiV (Sy a b i (J4 a b i) k)),some (loV (Sy a b i (J4 a b i) k))]) (fun k=>k≤5) (fun k=>5 - k) 0 [some 0,some 1,some 2,some 3,some 4] ?_ (fun k hk=>vo hΓ ?_)
   ·conv=>whnf
    repeat' ((first|apply Ap<;>intro _|apply An)<;>conv=>whnf)
    all_goals try exact⟨Ba⟩
    all_goals skip
   ·conv=>whnf
    apply Ap<;>intro h4<;>conv=>whnf
    ·have hkn:k<5:=by
      have:((k:Nat):Int)<5:=by simpa using h4
      omega
     have hpl:=tP ha hb hin hkn;obtain⟨m,hm⟩:∃m,m=(i+k)%5:=⟨_,rfl⟩;have hat:=AQ8 hin hkn;rw[←hm]at hat;have hm5:m<5:=by omega
     have hbk:=hb k hkn
     have hx1:5≤IntKind.i64.wrap ((i:Int)+(k:Int))→IntKind.u64.wrap ((b k:Nat)*19)=((xb b i k:Nat):Int):=fun h=>by
      rw[A3 (by omega) (by omega)]at h;rw[xb,if_pos (by omega),show((b k:Nat):Int)*19=((b k*19:Nat):Int) by omega,Ao _ (by omega)]
     have hx2:¬5≤IntKind.i64.wrap ((i:Int)+(k:Int))→((b k:Nat):Int)=((xb b i k:Nat):Int):=fun h=>by
      rw[A3 (by omega) (by omega)]at h;rw[xb,if_neg (by omega)]
     have hS:=hK k hk m;have hnx:∀j,Sy a b i (J4 a b i) (k+1) j=if j=m then Sy a b i (J4 a b i) k j+a i*xb b i k else Sy a b i (J4 a b i) k j:=fun j=>by rw[hm];rfl
     have hSb:Sy a b i (J4 a b i) k m<2^114:=by
      have e1:i*(5*2^109)≤4*(5*2^109):=Nat.mul_le_mul_right _ (by omega);have e2:k*2^109≤4*2^109:=Nat.mul_le_mul_right _ (by omega);exact Nat.lt_of_le_of_lt (Nat.le_trans hS (Nat.add_le_add e1 e2)) (by decide)
     have hSd:=(show Sy a b i (J4 a b i) k m/2^64<2^50 from Nat.div_lt_of_lt_mul (Nat.lt_of_lt_of_le hSb (by decide)));have hpd:a i*xb b i k/2^64<2^46:=Nat.div_lt_of_lt_mul (Nat.lt_of_le_of_lt hpl.2 (by decide));clear hS hSb;generalize Sy a b i (J4 a b i) k=S at*;conv=>whnf
     repeat' ((first|apply Ap<;>intro _|apply An)<;>conv=>whnf)
     all_goals try exact⟨Bc⟩
     all_goals
      rename_i hcond;refine⟨(a i,xb b i k),⟨AE.refl _,AE.of (congrArg (V.int .u64) ?_),trivial⟩,⟨by have:=ha i hin;show a i<2^64;omega,by show xb b i k<2^64;omega⟩,?_⟩
      first
       |exact hx1 (of_decide_eq_true hcond)
       |exact hx2 (of_decide_eq_false hcond)
     all_goals
      intro r hr;obtain rfl:r=(a i*xb b i k/2^64,a i*xb b i k%2^64):=hr;generalize a i*xb b i k=p at*;conv=>whnf
      repeat' ((first|apply Ap<;>intro _|apply An)<;>conv=>whnf)
      all_goals try exact⟨Bc⟩
     all_goals first
      |exact⟨by rw[hat];omega⟩
      |skip
     all_goals
      refine⟨⟨S m%2^64,p%2^64,0⟩,⟨AE.of (congrArg (fun z:Int=>V.int .u64 ((S z.toNat%2^64:Nat):Int)) hat),AE.refl _,AE.refl _,trivial⟩,⟨Nat.mod_lt _ (by decide),Nat.mod_lt _ (by decide),Nat.zero_le _⟩,?_⟩
      intro q hq;replace hq:q=((S m%2^64+p%2^64+0)%2^64,(S m%2^64+p%2^64+0)/2^64):=hq;subst hq;conv=>whnf
      repeat' ((first|apply Ap<;>intro _|apply An)<;>conv=>whnf)
      all_goals try exact⟨Bc⟩
     all_goals first
      |exact⟨by rw[hat];omega⟩
      |skip
     all_goals
      refine⟨k+1,[some 0,some 1,some 2,some 3,some 4],?_⟩;conv=>whnf
      repeat' (apply An<;>conv=>whnf)
      all_goals try exact⟨Ba⟩
     all_goals first
      |exact⟨by rw[A3 (by omega) (by omega)];rfl⟩
      |exact⟨fun j _=>A5 (T0 hat (congrArg (V.int .u64) (cD hnx)) (fun j hj=>by rw[hnx,if_neg hj]) j) trivial⟩
      |exact⟨fun j _=>A5 (T0 hat (congrArg (V.int .u64) (nH hat hnx hSd hpd)) (fun j hj=>by rw[hnx,if_neg hj]) j) trivial⟩
      |skip
    ·have hkn:k=5:=by
      have:¬((k:Nat):Int)<5:=by simpa using h4
      omega
     subst hkn;refine vo hΓ ?_;conv=>whnf
     refine⟨i+1,[some 0,some 1,some 2,some 3,some 4],?_⟩;conv=>whnf
     repeat' (apply An<;>conv=>whnf)
     all_goals try exact⟨Ba⟩
     ·exact⟨by rw[A3 (by omega) (by omega)];rfl⟩
  ·have hin:i=5:=by
    have:¬((i:Nat):Int)<5:=by simpa using h3
    omega
   subst hin;have hSb:∀j,J4 a b 5 j<2^114:=fun j=>Nat.lt_of_le_of_lt (hI 5 hi j) (by decide)
   generalize hSe:J4 a b 5=S at*;have hc:=zE hSb;refine vo hΓ ?_;conv=>whnf
   repeat' ((first|apply Ap<;>intro _|apply An)<;>conv=>whnf)
   all_goals try exact⟨Bc⟩
   refine A4 (ι:=Nat) (fun i=>[(4, .ref 2 []),(5, .ref 3 []),(6, .ref 4 []),(14, .ref 5 []),(15, .int .u64 (cm S i:Nat)),(69, .int .i64 (i:Nat))]) (fun i=>[some (Ql a),some (Ql b),some (.row 1 5 fun _=> .int .u64 0),some (hiV S),some (loV S),some (Ql fun k=>if k<i then Es S k else 0)]) (fun i=>i≤5) (fun i=>5 - i) 0 [some 0,some 1,some 2,some 3,some 4,some 5] ?_ (fun i hi=>vo hΓ ?_)
   ·conv=>whnf
    repeat' ((first|apply Ap<;>intro _|apply An)<;>conv=>whnf)
    all_goals try exact⟨Ba⟩
    all_goals skip
   ·conv=>whnf
    apply Ap<;>intro h5<;>conv=>whnf
    ·have hin:i<5:=by
      have:((i:Nat):Int)<5:=by simpa using h5
      omega
     conv=>whnf
     repeat' ((first|apply Ap<;>intro _|apply An)<;>conv=>whnf)
     all_goals try exact⟨Bc⟩
     refine⟨⟨S i%2^64,cm S i,0⟩,⟨AE.refl _,AE.refl _,AE.refl _,trivial⟩,⟨Nat.mod_lt _ (by decide),hc i,Nat.zero_le _⟩,?_⟩;intro q hq;replace hq:q=((S i%2^64+cm S i+0)%2^64,(S i%2^64+cm S i+0)/2^64):=hq;subst hq;conv=>whnf
     repeat' ((first|apply Ap<;>intro _|apply An)<;>conv=>whnf)
     all_goals try exact⟨Bc⟩
     refine⟨i+1,[some 0,some 1,some 2,some 3,some 4,some 5],?_⟩;conv=>whnf
     repeat' (apply An<;>conv=>whnf)
     all_goals try exact⟨Ba⟩
     ·exact⟨rQ (hSb i) (hc i)⟩
     ·exact⟨by rw[A3 (by omega) (by omega)];rfl⟩
     ·exact⟨fun k _=>A5 (L2 (fun _=>0) (Es S) i k (congrArg (V.int .u64) rR)) trivial⟩
    ·have hin:i=5:=by
      have:¬((i:Nat):Int)<5:=by simpa using h5
      omega
     subst hin;have h5:=hc 5;have ho:∀k,Es S k<2^51:=fun k=>Nat.mod_lt _ (by decide)
     have ho0:=ho 0;have ho1:=ho 1;have hpl:cm S 5*19<2^114:=by omega
     have hpd:(cm S 5*19+Es S 0)/2^51<2^20:=by omega
     refine vo hΓ ?_;conv=>whnf
     repeat' ((first|apply Ap<;>intro _|apply An)<;>conv=>whnf)
     all_goals try exact⟨Bc⟩
     refine⟨(cm S 5,19),⟨AE.refl _,AE.refl _,trivial⟩,⟨by show cm S 5<2^64;omega,by show 19<2^64;decide⟩,?_⟩;intro r hr;obtain rfl:r=(cm S 5*19/2^64,cm S 5*19%2^64):=hr;conv=>whnf
     repeat' ((first|apply Ap<;>intro _|apply An)<;>conv=>whnf)
     all_goals try exact⟨Bc⟩
     refine⟨⟨cm S 5*19%2^64,Es S 0,0⟩,⟨AE.refl _,AE.refl _,AE.refl _,trivial⟩,⟨Nat.mod_lt _ (by decide),by show Es S 0<2^64;omega,Nat.zero_le _⟩,?_⟩;intro q hq;replace hq:q=((cm S 5*19%2^64+Es S 0+0)%2^64,(cm S 5*19%2^64+Es S 0+0)/2^64):=hq;subst hq;conv=>whnf
     repeat' ((first|apply Ap<;>intro _|apply An)<;>conv=>whnf)
     all_goals try exact⟨Bc⟩
     ·refine⟨?_⟩;refine(A0 ?_ (A0 ?_ (A0 ?_ (A0 ?_ (A0 ?_ A9)))));all_goals exact trivial
     ·refine⟨Kr S,⟨AE.row ?_,trivial⟩,⟨fun k hk=>?_⟩,fun r hr=>?_⟩
      ·refine(A0 ?_ (A0 ?_ (A0 ?_ (A0 ?_ (A0 ?_ A9)))))
       ·rfl
       ·rfl
       ·rfl
       ·refine congrArg (V.int .u64) ((congrArg IntKind.u64.wrap (congrArg (fun z:Int=>((Es S 1:Nat):Int)+z) (rQ hpl (by omega)))).trans ?_)
        rw[←Int.natCast_add,Ao _ (by omega)];rfl
       ·exact congrArg (V.int .u64) rR
      ·have:=ho k
       show Kr S k<2^63
       unfold Kr
       split
       ·omega
       ·split<;>omega
      ·subst hr;conv=>whnf
       repeat' ((first|apply Ap<;>intro _|apply An)<;>conv=>whnf)
       all_goals try exact⟨B9⟩
       subst hSe;exact Ld.row fun k _=>rfl
end Go.Proofs.YtaihjcpfjgpmoaaGreatDoor
namespace Go.Proofs.YtaihjcpfjgpmoaaGreatDoor
open Go Go.DD Go.EE
theorem Pq{Pg:Program}{gl:List (Nat×V)}{n:Nat}{α ρ β σ:Type}{args:α→List V}{pre:α→Prop}{f:α→ρ}{res:ρ→V}(h:FOk Pg gl n (Bf args pre f res)){args':β→List V}{pre':β→Prop}{f':β→σ}{res':σ→V}(g:β→α)(ha:∀b,args' b=args (g b))(hp:∀b,pre' b→pre (g b))(hr:∀b,pre' b→res (f (g b))=res' (f' b)):FOk Pg gl n (Bf args' pre' f' res') where
 sng:=fun xs Φ h=>by
  obtain⟨a,ha,hp,h⟩:=h;exact⟨_,h _ rfl,fun _ h'=>⟨a,ha,hp,fun r hr=>hr▸h'⟩⟩
 ok:=fun xs Φ h'=>by
  obtain⟨a,hxs,⟨hpa⟩,h'⟩:=h';refine h.ok xs Φ ⟨g a,ha a▸hxs,⟨hp a hpa⟩,fun r hr'=>?_⟩;subst hr';rw[hr a hpa];exact h' _ rfl
def C5(a:Nat→Nat):Nat:=a 0+2^51*a 1+2^102*a 2+2^153*a 3+2^204*a 4
theorem Nq{a:Nat→Nat}(h:∀k,k<5→a k<2^63):S3 (Eo a):=fun k hk=>by
 have h1:=rT h 5 (by omega);unfold Eo
 split<;>omega
theorem chain{B a c r c':Nat}(h1:c'=(a+c)/B)(h2:r=(a+c)%B):a+c=B*c'+r:=by
 subst h1 h2;exact(Nat.div_add_mod _ _).symm
theorem zC(a:Nat→Nat):C5 a=C5 (Eo a)+P*cw a 5:=by
 have h0:=chain (a:=a 0) (c:=cw a 0) (B:=2^51) (c':=cw a 1) rfl rfl;have h1:=chain (a:=a 1) (c:=cw a 1) (B:=2^51) (c':=cw a 2) rfl rfl;have h2:=chain (a:=a 2) (c:=cw a 2) (B:=2^51) (c':=cw a 3) rfl rfl;have h3:=chain (a:=a 3) (c:=cw a 3) (B:=2^51) (c':=cw a 4) rfl rfl;have h4:=chain (a:=a 4) (c:=cw a 4) (B:=2^51) (c':=cw a 5) rfl rfl;have hz:cw a 0=0:=rfl;have e0:Eo a 0=(a 0+cw a 0)%2^51+19*cw a 5:=rfl;have e1:Eo a 1=(a 1+cw a 1)%2^51:=rfl;have e2:Eo a 2=(a 2+cw a 2)%2^51:=rfl;have e3:Eo a 3=(a 3+cw a 3)%2^51:=rfl;have e4:Eo a 4=(a 4+cw a 4)%2^51:=rfl;have hP:P=2^255 - 19:=by decide
 unfold C5;rw[e0,e1,e2,e3,e4,hP];clear e0 e1 e2 e3 e4 hP
 generalize(a 0+cw a 0)%2^51=r0 at*
 generalize(a 1+cw a 1)%2^51=r1 at*
 generalize(a 2+cw a 2)%2^51=r2 at*
 generalize(a 3+cw a 3)%2^51=r3 at*
 generalize(a 4+cw a 4)%2^51=r4 at*
 generalize cw a 0=c0 at*;generalize cw a 1=c1 at*;generalize cw a 2=c2 at*;generalize cw a 3=c3 at*;generalize cw a 4=c4 at*;generalize cw a 5=c5 at*;omega
def ev(a:Nat→Nat):Fp:=Fin.ofNat P (C5 a)
theorem AK9{a b:Nat→Nat}{q:Nat}(h:C5 a=C5 b+P*q):ev a=ev b:=Fin.ext (by
 show C5 a%P=C5 b%P
 rw[h,Nat.add_mul_mod_self_left])
theorem Ta(a:Nat→Nat):ev (Eo a)=ev a:=(AK9 (zC a)).symm
theorem AM7(a b:Nat→Nat):ev (AEe ⟨a,b⟩)=ev a+ev b:=by
 show ev (Eo fun k=>a k+b k)=_
 rw[Ta];refine Fin.ext ?_
 show C5 (fun k=>a k+b k)%P=(C5 a%P+C5 b%P)%P
 rw[←Nat.add_mod]
 congr 1
 simp only[C5];omega
theorem AM9(a b:Nat→Nat)(hb:S3 b):ev (AJh ⟨a,b⟩)=ev a - ev b:=by
 show ev (Eo fun k=>a k+(pk k - b k))=_
 rw[Ta]
 have h1:ev (fun k=>a k+(pk k - b k))+ev b=ev a:=by
  refine Fin.ext ?_
  show(C5 (fun k=>a k+(pk k - b k))%P+C5 b%P)%P=C5 a%P
  rw[←Nat.add_mod]
  have h:C5 (fun k=>a k+(pk k - b k))+C5 b=C5 a+P*4:=by
   have b0:=hb 0 (by decide);have b1:=hb 1 (by decide);have b2:=hb 2 (by decide);have b3:=hb 3 (by decide);have b4:=hb 4 (by decide);have hP:P=2^255 - 19:=by decide
   have e0:pk 0=9007199254740916:=rfl;have e1:pk 1=9007199254740988:=rfl;have e2:pk 2=9007199254740988:=rfl;have e3:pk 3=9007199254740988:=rfl;have e4:pk 4=9007199254740988:=rfl;unfold C5;simp only[e0,e1,e2,e3,e4,hP];omega
  rw[h,Nat.add_mul_mod_self_left]
 rw[←h1];exact(sub_gen _ _).symm
where sub_gen {n:Nat} [NeZero n] (x y:Fin n):x+y - y=x:=by grind(splits:=0)
theorem AC7(S:Nat→Nat):C5 S=C5 (Es S)+2^255*cm S 5:=by
 have h0:=chain (a:=S 0) (c:=cm S 0) (B:=2^51) (c':=cm S 1) (r:=Es S 0) rfl rfl;have h1:=chain (a:=S 1) (c:=cm S 1) (B:=2^51) (c':=cm S 2) (r:=Es S 1) rfl rfl;have h2:=chain (a:=S 2) (c:=cm S 2) (B:=2^51) (c':=cm S 3) (r:=Es S 2) rfl rfl;have h3:=chain (a:=S 3) (c:=cm S 3) (B:=2^51) (c':=cm S 4) (r:=Es S 3) rfl rfl;have h4:=chain (a:=S 4) (c:=cm S 4) (B:=2^51) (c':=cm S 5) (r:=Es S 4) rfl rfl;have hz:cm S 0=0:=rfl;unfold C5;generalize cm S 0=c0 at*;generalize cm S 1=c1 at*;generalize cm S 2=c2 at*;generalize cm S 3=c3 at*;generalize cm S 4=c4 at*;generalize cm S 5=c5 at*;generalize Es S 0=r0 at*;generalize Es S 1=r1 at*;generalize Es S 2=r2 at*;generalize Es S 3=r3 at*;generalize Es S 4=r4 at*;omega
theorem wC(S:Nat→Nat):C5 S=C5 (Kr S)+P*cm S 5:=by
 have h0:=AC7 S;have h1:=chain (a:=cm S 5*19) (c:=Es S 0) (B:=2^51) (c':=(cm S 5*19+Es S 0)/2^51) (r:=Kr S 0) rfl rfl;have e1:Kr S 1=Es S 1+(cm S 5*19+Es S 0)/2^51:=rfl;have e2:Kr S 2=Es S 2:=rfl;have e3:Kr S 3=Es S 3:=rfl;have e4:Kr S 4=Es S 4:=rfl;have hP:P=2^255 - 19:=by decide
 unfold C5 at h0⊢;rw[e1,e2,e3,e4,hP,h0];clear h0 e1 e2 e3 e4 hP
 generalize(cm S 5*19+Es S 0)/2^51=q at*
 generalize cm S 5=c5 at*;generalize Es S 0=r0 at*;generalize Es S 1=r1 at*;generalize Es S 2=r2 at*;generalize Es S 3=r3 at*;generalize Es S 4=r4 at*;generalize Kr S 0=l0 at*;omega
theorem AHx{Q a0 a1 a2 a3 a4 b0 b1 b2 b3 b4 B:Int}(h:Q=B*B*B*B*B - 19):
 (a0+B*a1+B*B*a2+B*B*B*a3+B*B*B*B*a4)*(b0+B*b1+B*B*b2+B*B*B*b3+B*B*B*B*b4)=
 ((0+a0*b0+a1*(b4*19)+a2*(b3*19)+a3*(b2*19)+a4*(b1*19))+B*(0+a0*b1+a1*b0+a2*(b4*19)+a3*(b3*19)+a4*(b2*19))+B*B*(0+a0*b2+a1*b1+a2*b0+a3*(b4*19)+a4*(b3*19))+B*B*B*(0+a0*b3+a1*b2+a2*b1+a3*b0+a4*(b4*19))+B*B*B*B*(0+a0*b4+a1*b3+a2*b2+a3*b1+a4*b0))
 +Q*((a1*b4+a2*b3+a3*b2+a4*b1)+B*(a2*b4+a3*b3+a4*b2)+B*B*(a3*b4+a4*b3)+B*B*B*(a4*b4)):=by
 subst h
 grind(splits:=0) (ringSteps:=100000)
theorem yJ(a b:Nat→Nat):C5 a*C5 b=C5 (J4 a b 5)+P*((a 1*b 4+a 2*b 3+a 3*b 2+a 4*b 1)+2^51*(a 2*b 4+a 3*b 3+a 4*b 2)+2^51*2^51*(a 3*b 4+a 4*b 3)+2^51*2^51*2^51*(a 4*b 4)):=by
 have e0:J4 a b 5 0=0+a 0*b 0+a 1*(b 4*19)+a 2*(b 3*19)+a 3*(b 2*19)+a 4*(b 1*19):=rfl;have e1:J4 a b 5 1=0+a 0*b 1+a 1*b 0+a 2*(b 4*19)+a 3*(b 3*19)+a 4*(b 2*19):=rfl;have e2:J4 a b 5 2=0+a 0*b 2+a 1*b 1+a 2*b 0+a 3*(b 4*19)+a 4*(b 3*19):=rfl;have e3:J4 a b 5 3=0+a 0*b 3+a 1*b 2+a 2*b 1+a 3*b 0+a 4*(b 4*19):=rfl;have e4:J4 a b 5 4=0+a 0*b 4+a 1*b 3+a 2*b 2+a 3*b 1+a 4*b 0:=rfl;have h:=AHx (Q:=(P:Nat)) (a0:=(a 0:Nat)) (a1:=(a 1:Nat)) (a2:=(a 2:Nat)) (a3:=(a 3:Nat)) (a4:=(a 4:Nat)) (b0:=(b 0:Nat)) (b1:=(b 1:Nat)) (b2:=(b 2:Nat)) (b3:=(b 3:Nat)) (b4:=(b 4:Nat)) (B:=((2^51:Nat):Int)) (by decide);simp only[←Int.natCast_mul,←Int.natCast_add,show(0:Int)=((0:Nat):Int)from rfl,show(19:Int)=((19:Nat):Int)from rfl]at h;have h:=Int.ofNat.inj h;unfold C5;rw[e0,e1,e2,e3,e4,show(2:Nat)^102=2^51*2^51 by decide,show(2:Nat)^153=2^51*2^51*2^51 by decide,show(2:Nat)^204=2^51*2^51*2^51*2^51 by decide];exact h
theorem AM8(a b:Nat→Nat):ev (ANk ⟨a,b⟩)=ev a*ev b:=by
 show ev (Eo (Kr (J4 a b 5)))=_
 rw[Ta,←AK9 (wC _)];refine Fin.ext ?_
 show C5 (J4 a b 5)%P=(C5 a%P)*(C5 b%P)%P
 rw[←Nat.mul_mod,yJ,Nat.add_mul_mod_self_left]
def w4(m k:Nat):Nat:=m/2^(64*k)%2^64
def Iz(m:Nat):V:= .row 1 4 (nv (w4 m))
def Hh(m k:Nat):Nat:=m/2^(8*k)%256
def bv(m:Nat):Nat→V:=fun k=> .int .u8 (Hh m k:Nat)
def Cb(m:Nat):V:= .row 1 32 (bv m)
def wd(m i k:Nat):Nat:=m/2^(64*k)%2^(8*min 8 (i - 8*k))
theorem Wt(m k:Nat):wd m 0 k=0:=by
 unfold wd;rw[show 0 - 8*k=0 by omega];exact Nat.mod_one _
theorem iM(m k:Nat){n:Nat}(hk:8*k+8≤n):wd m n k=w4 m k:=by
 unfold wd;rw[show min 8 (n - 8*k)=8 by omega];rfl
theorem uQ(m i k:Nat)(hk:k≠i/8):wd m (i+1) k=wd m i k:=by
 unfold wd;rw[show min 8 (i+1 - 8*k)=min 8 (i - 8*k) by omega]
theorem ASy(m i:Nat):wd m (i+1) (i/8)=wd m i (i/8)+Hh m i*2^(8*(i%8)):=by
 unfold wd Hh;have h1:min 8 (i+1 - 8*(i/8))=i%8+1:=by omega
 have h2:min 8 (i - 8*(i/8))=i%8:=by omega
 have h3:8*i=64*(i/8)+8*(i%8):=by omega
 rw[h1,h2,h3,Nat.pow_add 2 (64*(i/8)),←Nat.div_div_eq_div_mul,show 8*(i%8+1)=8*(i%8)+8 by omega,Nat.pow_add];generalize m/2^(64*(i/8))=x;rw[show(2:Nat)^8=256 from rfl,Nat.mod_mul,Nat.mul_comm (2^_)]
theorem ASz(m i:Nat):wd m i (i/8)<2^(8*(i%8)):=by
 unfold wd;rw[show min 8 (i - 8*(i/8))=i%8 by omega];exact Nat.mod_lt _ (Nat.two_pow_pos _)
theorem Wi(m i:Nat):Ag .or .u64 (wd m i (i/8):Nat) (Ch .u64 (Hh m i:Nat) ((8*(i%8):Nat):Int))=((wd m (i+1) (i/8):Nat):Int):=by
 have h1:=ASz m i;have h2:Hh m i<256:=Nat.mod_lt _ (by decide);have h3:2^(8*(i%8))≤2^56:=Nat.pow_le_pow_right (by decide) (by omega);have h4:Hh m i*2^(8*(i%8))≤255*2^56:=Nat.mul_le_mul (by omega) h3;rw[L3 _ _ (by omega) h2,G2 _ _ (by omega) (Gg (by omega) h2),ASy,Nat.or_comm,←Nat.shiftLeft_add_eq_or_of_lt h1,Nat.shiftLeft_eq,Nat.add_comm]
theorem R5(m i:Nat):IntKind.u8.wrap (Bt .u64 (w4 m (i/8):Nat) ((8*(i%8):Nat):Int))=((Hh m i:Nat):Int):=by
 rw[E0 _ _ (by omega),IntKind.wrap_u8];unfold w4 Hh;have h3:8*i=64*(i/8)+8*(i%8):=by omega
 rw[h3,Nat.pow_add 2 (64*(i/8)),←Nat.div_div_eq_div_mul];generalize m/2^(64*(i/8))=x;have h:i%8=0∨i%8=1∨i%8=2∨i%8=3∨i%8=4∨i%8=5∨i%8=6∨i%8=7:=by omega
 rcases h with h|h|h|h|h|h|h|h<;>rw[h]<;>simp only[Nat.reduceMul,Nat.reducePow,Nat.div_one]<;>omega
theorem Fo{i:Nat}(h:i<1000):IntKind.i64.wrap (Int.tdiv (i:Int) 8)=((i/8:Nat):Int):=by
 rw[Int.tdiv_eq_ediv_of_nonneg (by omega),A3 (by omega) (by omega)];omega
theorem Hz{i:Nat}(h:i<1000):IntKind.i64.wrap (8*Int.tmod (i:Int) 8)=((8*(i%8):Nat):Int):=by
 rw[Int.tmod_eq_emod_of_nonneg (by omega),A3 (by omega) (by omega)];omega
theorem I7{i:Nat}(h:i<1000):IntKind.u64.wrap (IntKind.i64.wrap (8*Int.tmod (i:Int) 8))=((8*(i%8):Nat):Int):=by
 rw[Hz h,Ao _ (by omega)]
def ARf:A7:=Bf (fun(m:Nat)=>[Cb m]) (fun _=>True) (fun m=>m) Iz
theorem Pv:FOk Tryz.prog [] 116 ARf:=A8 fun m _=>by
 have hΓ:=Ad Tryz.f116.ntmps _ _ (FL.all .nil) (HL.all .nil);refine Aw hΓ Tryz.func116 ?_;conv=>whnf
 refine A4 (ι:=Nat) (fun i=>[(1, .ref 0 []),(2, .ref 1 []),(3, .ref 2 []),(4, .int .i64 (i:Nat))]) (fun i=>[some (Cb m),some (.row 1 4 fun _=> .int .u64 0),some (.row 1 4 (nv (wd m i)))]) (fun i=>i≤32) (fun i=>32 - i) 0 [some 0,some 1,some 2] ?_ (fun i hi=>vo hΓ ?_)
 ·conv=>whnf
  repeat' ((first|apply Ap<;>intro _|apply An)<;>conv=>whnf)
  all_goals try first|exact⟨Ba⟩|exact⟨fun k _=>A5 (congrArg (V.int .u64) (congrArg Nat.cast (Wt m k).symm)) trivial⟩
 ·conv=>whnf
  apply Ap<;>intro h3<;>conv=>whnf
  ·have hin:i<32:=by
    have:((i:Nat):Int)<32:=by simpa using h3
    omega
   have e1:=Fo (i:=i) (by omega);have e2:=Hz (i:=i) (by omega);have e3:=I7 (i:=i) (by omega);conv=>whnf
   repeat' ((first|apply Ap<;>intro _|apply An)<;>conv=>whnf)
   all_goals try first|exact⟨Ba⟩|exact⟨by rw[e1];omega⟩|exact⟨by rw[e3];omega⟩|exact⟨by rw[e2];omega⟩
   refine⟨i+1,[some 0,some 1,some 2],?_⟩;conv=>whnf
   repeat' (apply An<;>conv=>whnf)
   all_goals try exact⟨Ba⟩
   ·exact⟨by rw[A3 (by omega) (by omega)];rfl⟩
   refine⟨fun k _=>A5 (T0 e1 ?_ (fun j hj=>uQ m i j hj) k) trivial⟩;refine congrArg (V.int .u64) (Eq.trans ?_ (Wi m i));rw[←e3,←Int.toNat_natCast (i/8),←e1,←Ao (Hh m i) (Nat.lt_of_lt_of_le (Nat.mod_lt _ (by decide)) (by decide))];rfl
  ·have hin:i=32:=by
    have:¬((i:Nat):Int)<32:=by simpa using h3
    omega
   subst hin;refine vo hΓ ?_;conv=>whnf
   repeat' ((first|apply Ap<;>intro _|apply An)<;>conv=>whnf)
   all_goals try exact⟨B9⟩
   exact Ld.row fun k hk=>congrArg (V.int .u64) (congrArg Nat.cast (iM m k (by omega)))
theorem tW:FOk Tryz.prog [] 220 ARf:=A8 fun m _=>by
 have hΓ:=Ad Tryz.f220.ntmps _ _ (FL.all .nil) (HL.all .nil);refine Aw hΓ Tryz.func220 ?_;conv=>whnf
 refine A4 (ι:=Nat) (fun i=>[(1, .ref 0 []),(2, .ref 1 []),(3, .ref 2 []),(5, .int .i64 (i:Nat))]) (fun i=>[some (Cb m),some (.row 1 4 fun _=> .int .u64 0),some (.row 1 4 (nv (wd m i)))]) (fun i=>i≤32) (fun i=>32 - i) 0 [some 0,some 1,some 2] ?_ (fun i hi=>vo hΓ ?_)
 ·conv=>whnf
  repeat' ((first|apply Ap<;>intro _|apply An)<;>conv=>whnf)
  all_goals try first|exact⟨Ba⟩|exact⟨fun k _=>A5 (congrArg (V.int .u64) (congrArg Nat.cast (Wt m k).symm)) trivial⟩
 ·conv=>whnf
  apply Ap<;>intro h3<;>conv=>whnf
  ·have hin:i<32:=by
    have:((i:Nat):Int)<32:=by simpa using h3
    omega
   have e1:=Fo (i:=i) (by omega);have e2:=Hz (i:=i) (by omega);have e3:=I7 (i:=i) (by omega);conv=>whnf
   repeat' ((first|apply Ap<;>intro _|apply An)<;>conv=>whnf)
   all_goals try first|exact⟨Ba⟩|exact⟨by rw[e1];omega⟩|exact⟨by rw[e3];omega⟩|exact⟨by rw[e2];omega⟩
   refine⟨i+1,[some 0,some 1,some 2],?_⟩;conv=>whnf
   repeat' (apply An<;>conv=>whnf)
   all_goals try exact⟨Ba⟩
   ·exact⟨by rw[A3 (by omega) (by omega)];rfl⟩
   refine⟨fun k _=>A5 (T0 e1 ?_ (fun j hj=>uQ m i j hj) k) trivial⟩;refine congrArg (V.int .u64) (Eq.trans ?_ (Wi m i));rw[←e2,←Int.toNat_natCast (i/8),←e1,←Ao (Hh m i) (Nat.lt_of_lt_of_le (Nat.mod_lt _ (by decide)) (by decide))];rfl
  ·have hin:i=32:=by
    have:¬((i:Nat):Int)<32:=by simpa using h3
    omega
   subst hin;refine vo hΓ ?_;conv=>whnf
   repeat' ((first|apply Ap<;>intro _|apply An)<;>conv=>whnf)
   all_goals try exact⟨B9⟩
   exact Ld.row fun k hk=>congrArg (V.int .u64) (congrArg Nat.cast (iM m k (by omega)))
def bw(m i k:Nat):V:= .int .u8 ((if k<i then Hh m k else 0:Nat):Int)
def AR1:A7:=Bf (fun(m:Nat)=>[Iz m]) (fun _=>True) (fun m=>m) Cb
theorem uE(m i k:Nat){v:V}(hv:v=bv m i):(if k=i then v else bw m i k)=bw m (i+1) k:=by
 by_cases h:k=i
 ·subst h;rw[if_pos rfl,hv];simp only[bv,bw,if_pos (Nat.lt_succ_self k)]
 ·rw[if_neg h]
  by_cases h2:k<i
  ·simp only[bw,if_pos h2,if_pos (show k<i+1 by omega)]
  ·simp only[bw,if_neg h2,if_neg (show¬k<i+1 by omega)]
theorem Wj:FOk Tryz.prog [] 112 AR1:=A8 fun m _=>by
 have hΓ:=Ad Tryz.f112.ntmps _ _ (FL.all .nil) (HL.all .nil);refine Aw hΓ Tryz.func112 ?_;conv=>whnf
 refine A4 (ι:=Nat) (fun i=>[(1, .ref 0 []),(2, .ref 1 []),(3, .ref 2 []),(4, .int .i64 (i:Nat))]) (fun i=>[some (Iz m),some (.row 1 32 fun _=> .int .u8 0),some (.row 1 32 (bw m i))]) (fun i=>i≤32) (fun i=>32 - i) 0 [some 0,some 1,some 2] ?_ (fun i hi=>vo hΓ ?_)
 ·conv=>whnf
  repeat' ((first|apply Ap<;>intro _|apply An)<;>conv=>whnf)
  all_goals try exact⟨Ba⟩
 ·conv=>whnf
  apply Ap<;>intro h3<;>conv=>whnf
  ·have hin:i<32:=by
    have:((i:Nat):Int)<32:=by simpa using h3
    omega
   have e1:=Fo (i:=i) (by omega);have e2:=Hz (i:=i) (by omega);have e3:=I7 (i:=i) (by omega);conv=>whnf
   repeat' ((first|apply Ap<;>intro _|apply An)<;>conv=>whnf)
   all_goals try first|exact⟨Ba⟩|exact⟨by rw[e1];omega⟩|exact⟨by rw[e3];omega⟩|exact⟨by rw[e2];omega⟩
   refine⟨i+1,[some 0,some 1,some 2],?_⟩;conv=>whnf
   repeat' (apply An<;>conv=>whnf)
   all_goals try exact⟨Ba⟩
   ·exact⟨by rw[A3 (by omega) (by omega)];rfl⟩
   refine⟨fun k _=>A5 ?_ trivial⟩;refine uE m i k (congrArg (V.int .u8) (Eq.trans ?_ (R5 m i)));rw[←e3,←Int.toNat_natCast (i/8),←e1]
  ·have hin:i=32:=by
    have:¬((i:Nat):Int)<32:=by simpa using h3
    omega
   subst hin;refine vo hΓ ?_;conv=>whnf
   repeat' ((first|apply Ap<;>intro _|apply An)<;>conv=>whnf)
   all_goals try exact⟨B9⟩
   exact Ld.row fun k hk=>congrArg (V.int .u8) (congrArg Nat.cast (if_pos hk))
theorem tX:FOk Tryz.prog [] 248 AR1:=A8 fun m _=>by
 have hΓ:=Ad Tryz.f248.ntmps _ _ (FL.all .nil) (HL.all .nil);refine Aw hΓ Tryz.func248 ?_;conv=>whnf
 refine A4 (ι:=Nat) (fun i=>[(1, .ref 0 []),(2, .ref 1 []),(3, .ref 2 []),(5, .int .i64 (i:Nat))]) (fun i=>[some (Iz m),some (.row 1 32 fun _=> .int .u8 0),some (.row 1 32 (bw m i))]) (fun i=>i≤32) (fun i=>32 - i) 0 [some 0,some 1,some 2] ?_ (fun i hi=>vo hΓ ?_)
 ·conv=>whnf
  repeat' ((first|apply Ap<;>intro _|apply An)<;>conv=>whnf)
  all_goals try exact⟨Ba⟩
 ·conv=>whnf
  apply Ap<;>intro h3<;>conv=>whnf
  ·have hin:i<32:=by
    have:((i:Nat):Int)<32:=by simpa using h3
    omega
   have e1:=Fo (i:=i) (by omega);have e2:=Hz (i:=i) (by omega);have e3:=I7 (i:=i) (by omega);conv=>whnf
   repeat' ((first|apply Ap<;>intro _|apply An)<;>conv=>whnf)
   all_goals try first|exact⟨Ba⟩|exact⟨by rw[e1];omega⟩|exact⟨by rw[e3];omega⟩|exact⟨by rw[e2];omega⟩
   refine⟨i+1,[some 0,some 1,some 2],?_⟩;conv=>whnf
   repeat' (apply An<;>conv=>whnf)
   all_goals try exact⟨Ba⟩
   ·exact⟨by rw[A3 (by omega) (by omega)];rfl⟩
   refine⟨fun k _=>A5 ?_ trivial⟩;refine uE m i k (congrArg (V.int .u8) (Eq.trans ?_ (R5 m i)));rw[←e2,←Int.toNat_natCast (i/8),←e1]
  ·have hin:i=32:=by
    have:¬((i:Nat):Int)<32:=by simpa using h3
    omega
   subst hin;refine vo hΓ ?_;conv=>whnf
   repeat' ((first|apply Ap<;>intro _|apply An)<;>conv=>whnf)
   all_goals try exact⟨B9⟩
   exact Ld.row fun k hk=>congrArg (V.int .u8) (congrArg Nat.cast (if_pos hk))
structure NL where
 f:Nat→Nat
 h:S3 f
def l5(a:NL):V:=Ql a.f
def NL.e(a:NL):Fp:=ev a.f
theorem pN{a:Nat→Nat}(h:S3 a):∀k,k<5→a k<2^63:=fun k hk=>by have:=h k hk;omega
def F9(x:NL×NL):NL:=⟨AEe ⟨x.1.f,x.2.f⟩,Nq fun k hk=>by have:=x.1.h k hk;have:=x.2.h k hk;show x.1.f k+x.2.f k<_;omega⟩
def Gh(x:NL×NL):NL:=⟨AJh ⟨x.1.f,x.2.f⟩,Nq fun k hk=>by have:=x.1.h k hk;have h:pk k<2^54:=(by unfold pk;split<;>omega);show x.1.f k+(pk k - x.2.f k)<_;omega⟩
theorem ABi{S:Nat→Nat}(hc:cm S 5<2^64):∀k,k<5→Kr S k<2^63:=fun k hk=>by
 have ho:∀k,Es S k<2^51:=fun k=>Nat.mod_lt _ (by decide)
 have ho0:=ho 0;have ho1:=ho 1;have hpd:(cm S 5*19+Es S 0)/2^51<2^20:=by omega
 have:=ho k
 unfold Kr
 split
 ·omega
 ·split<;>omega
def Bm(x:NL×NL):NL:=⟨ANk ⟨x.1.f,x.2.f⟩,Nq (ABi (zE (fun j=>Nat.lt_of_le_of_lt (eB x.1.h x.2.h 5 (Nat.le_refl _) j) (by decide)) 5))⟩
def Ft(x:Fin (2^51)):NL:=⟨fun k=>if k=0 then x.val else 0,fun k _=>by
 by_cases h:k=0
 ·simp only[if_pos h]
  have:=x.isLt
  omega
 ·simp only[if_neg h]
  decide⟩
theorem zK(x:NL×NL):(F9 x).e=x.1.e+x.2.e:=AM7 _ _
theorem zL(x:NL×NL):(Gh x).e=x.1.e - x.2.e:=AM9 _ _ x.2.h
theorem Nu(x:NL×NL):(Bm x).e=x.1.e*x.2.e:=AM8 _ _
def ar2(x:NL×NL):List V:=[l5 x.1,l5 x.2]
def AQv:A7:=Bf ar2 (fun _=>True) F9 l5
theorem Rf:FOk Tryz.prog [] 188 AQv:=Pq AAc (fun x=>⟨x.1.f,x.2.f⟩) (fun _=>rfl) (fun x _=>⟨x.1.h,x.2.h⟩) (fun _ _=>rfl)
def ARu:A7:=Bf ar2 (fun _=>True) Gh l5
theorem kO:FOk Tryz.prog [] 237 ARu:=Pq AAn (fun x=>⟨x.1.f,x.2.f⟩) (fun _=>rfl) (fun x _=>⟨x.1.h,x.2.h⟩) (fun _ _=>rfl)
def ARc:A7:=Bf ar2 (fun _=>True) Bm l5
theorem Nz:FOk Tryz.prog [] 193 ARc:=Pq AAh (fun x=>⟨x.1.f,x.2.f⟩) (fun _=>rfl) (fun x _=>⟨x.1.h,x.2.h⟩) (fun _ _=>rfl)
def ARq:A7:=Bf (fun(x:Fin (2^51))=>[.int .u64 (x.val:Nat)]) (fun _=>True) Ft l5
theorem Rj:FOk Tryz.prog [] 234 ARq:=Pq vM (fun x=>x.val) (fun _=>rfl) (fun x _=>by show x.val<2^64;have:=x.isLt;omega) (fun _ _=>rfl)
theorem U2{x y t:Nat}(hx:x<2^t)(ht:t≤63):Ag .or .u64 (x:Nat) (Ch .u64 (y:Nat) (t:Nat))=(((x+2^t*y)%2^64:Nat):Int):=by
 have hs:(2:Nat)^64=2^t*2^(64 - t):=by rw[←Nat.pow_add];congr 1;omega
 have h1:Ch .u64 (y:Nat) (t:Nat)=((2^t*(y%2^(64 - t)):Nat):Int):=by
  rw[Ch,Int.toNat_natCast,show min t IntKind.u64.bits=t from Nat.min_eq_left (by show t≤64;omega),IntKind.wrap_u64,←Nat.mul_mod_mul_left,←hs,Nat.mul_comm,Int.natCast_emod,Int.natCast_mul,Int.natCast_pow];rfl
 have hp:=Nat.two_pow_pos t
 have h2:(x+2^t*y)%2^64=x+2^t*(y%2^(64 - t)):=by
  rw[hs,Nat.mod_mul,Nat.add_mul_mod_self_left,Nat.mod_eq_of_lt hx,Nat.add_mul_div_left _ _ hp,Nat.div_eq_of_lt hx,Nat.zero_add]
 have h3:2^t*(y%2^(64 - t))<2^64:=by
  rw[hs];exact Nat.mul_lt_mul_of_pos_left (Nat.mod_lt _ (Nat.two_pow_pos _)) hp
 have h4:2^t≤2^63:=Nat.pow_le_pow_right (by decide) ht;rw[h1,h2,G2 _ _ (by omega) h3,Nat.mul_comm (2^t),Nat.or_comm,←Nat.shiftLeft_eq,←Nat.shiftLeft_add_eq_or_of_lt hx,Nat.add_comm]
def nI(m k:Nat):Nat:=if k=0 then m%2^51+19*(m/2^255)else m/2^(51*k)%2^51
abbrev Av:=Fin (2^256)
def pQ(m:Av):NL:=⟨nI m.val,fun k _=>by
 have:=m.isLt
 unfold nI
 split
 ·have:m.val/2^255<2:=by omega
  omega
 ·exact Nat.lt_trans (Nat.mod_lt _ (by decide)) (by decide)⟩
theorem AQk(m:Av):(pQ m).e=Fin.ofNat P m.val:=by
 refine Fin.ext ?_
 show C5 (nI m.val)%P=m.val%P
 have h:m.val=C5 (nI m.val)+P*(m.val/2^255):=by
  have:=m.isLt
  have hP:P=2^255 - 19:=by decide
  have e0:nI m.val 0=m.val%2^51+19*(m.val/2^255):=rfl;have e1:nI m.val 1=m.val/2^51%2^51:=rfl;have e2:nI m.val 2=m.val/2^102%2^51:=rfl;have e3:nI m.val 3=m.val/2^153%2^51:=rfl;have e4:nI m.val 4=m.val/2^204%2^51:=rfl;have d2:m.val/2^102=m.val/2^51/2^51:=by rw[Nat.div_div_eq_div_mul]
  have d3:m.val/2^153=m.val/2^102/2^51:=by rw[Nat.div_div_eq_div_mul]
  have d4:m.val/2^204=m.val/2^153/2^51:=by rw[Nat.div_div_eq_div_mul]
  have d5:m.val/2^255=m.val/2^204/2^51:=by rw[Nat.div_div_eq_div_mul]
  unfold C5;rw[e0,e1,e2,e3,e4,hP];clear e0 e1 e2 e3 e4;generalize m.val/2^102=q2 at*;generalize m.val/2^153=q3 at*;generalize m.val/2^204=q4 at*;generalize m.val/2^255=q5 at*;omega
 conv=>rhs;rw[h]
 rw[Nat.add_mul_mod_self_left]
theorem mid{x y s t k m:Nat}(hs:s+t=64)(ht:t≤63)(hx:x<2^64)(h:(x/2^s+2^t*y)%2^64%2^51=nI m k):Ag .and .u64 (Ag .or .u64 (Bt .u64 (x:Nat) (s:Nat)) (Ch .u64 (y:Nat) (t:Nat))) 2251799813685247=((nI m k:Nat):Int):=by
 have h1:x/2^s<2^t:=Nat.div_lt_of_lt_mul (by rw[←Nat.pow_add,hs];exact hx);rw[E0 _ _ (by omega),U2 h1 ht,bG _ (Nat.mod_lt _ (by decide)),h]
def AWb:A7:=Bf (fun(m:Av)=>[Cb m.val]) (fun _=>True) pQ l5
theorem sK:FOk Tryz.prog [] 236 AWb:=A8 fun⟨m,hm⟩ _=>by
 have hw:∀k,k<4→wd m 32 k=m/2^(64*k)%2^64:=fun k hk=>iM m k (by omega)
 have hl:∀k,k<4→wd m 32 k<2^64:=fun k hk=>by rw[hw k hk];exact Nat.mod_lt _ (by decide)
 have f1:(wd m 32 0/2^51+2^13*wd m 32 1)%2^64%2^51=nI m 1:=by
  rw[hw 0 (by decide),hw 1 (by decide)]
  show _=m/2^51%2^51
  omega
 have f2:(wd m 32 1/2^38+2^26*wd m 32 2)%2^64%2^51=nI m 2:=by
  rw[hw 1 (by decide),hw 2 (by decide)]
  show _=m/2^102%2^51
  omega
 have f3:(wd m 32 2/2^25+2^39*wd m 32 3)%2^64%2^51=nI m 3:=by
  rw[hw 2 (by decide),hw 3 (by decide)]
  show _=m/2^153%2^51
  omega
 have f4:Ag .and .u64 (Bt .u64 (wd m 32 3:Nat) 12) 2251799813685247=((nI m 4:Nat):Int):=by
  rw[show Bt .u64 (wd m 32 3:Nat) 12=((wd m 32 3/2^12:Nat):Int)from E0 _ 12 (by decide),bG _ (by have:=hl 3 (by decide);omega),hw 3 (by decide)]
  congr 1
  show _=m/2^204%2^51
  omega
 have f0:IntKind.u64.wrap (Ag .and .u64 (wd m 32 0:Nat) 2251799813685247+IntKind.u64.wrap (19*Bt .u64 (wd m 32 3:Nat) 63))=((nI m 0:Nat):Int):=by
  rw[show Bt .u64 (wd m 32 3:Nat) 63=((wd m 32 3/2^63:Nat):Int)from E0 _ 63 (by decide),bG _ (hl 0 (by decide)),hw 3 (by decide),hw 0 (by decide),show(19:Int)=((19:Nat):Int)from rfl,←Int.natCast_mul,Ao _ (by omega),←Int.natCast_add,Ao _ (by omega)]
  congr 1
  show _=m%2^51+19*(m/2^255)
  omega
 have hΓ:=Ad Tryz.f236.ntmps _ _ (FL.all .nil) (HL.all .nil);refine Aw hΓ Tryz.func236 ?_;conv=>whnf
 refine A4 (ι:=Nat) (fun i=>[(1, .ref 0 []),(2, .ref 1 []),(3, .ref 2 []),(6, .int .i64 (i:Nat))]) (fun i=>[some (Cb m),some (.row 1 5 fun _=> .int .u64 0),some (.row 1 4 (nv (wd m i)))]) (fun i=>i≤32) (fun i=>32 - i) 0 [some 0,some 1,some 2] ?_ (fun i hi=>vo hΓ ?_)
 ·conv=>whnf
  repeat' ((first|apply Ap<;>intro _|apply An)<;>conv=>whnf)
  all_goals try first|exact⟨Ba⟩|exact⟨fun k _=>A5 (congrArg (V.int .u64) (congrArg Nat.cast (Wt m k).symm)) trivial⟩
 ·conv=>whnf
  apply Ap<;>intro h3<;>conv=>whnf
  ·have hin:i<32:=by
    have:((i:Nat):Int)<32:=by simpa using h3
    omega
   have e1:=Fo (i:=i) (by omega);have e2:=Hz (i:=i) (by omega);have e3:=I7 (i:=i) (by omega);conv=>whnf
   repeat' ((first|apply Ap<;>intro _|apply An)<;>conv=>whnf)
   all_goals try first|exact⟨Ba⟩|exact⟨by rw[e1];omega⟩|exact⟨by rw[e3];omega⟩|exact⟨by rw[e2];omega⟩
   refine⟨i+1,[some 0,some 1,some 2],?_⟩;conv=>whnf
   repeat' (apply An<;>conv=>whnf)
   all_goals try exact⟨Ba⟩
   ·exact⟨by rw[A3 (by omega) (by omega)];rfl⟩
   refine⟨fun k _=>A5 (T0 e1 ?_ (fun j hj=>uQ m i j hj) k) trivial⟩;refine congrArg (V.int .u64) (Eq.trans ?_ (Wi m i));rw[←e2,←Int.toNat_natCast (i/8),←e1,←Ao (Hh m i) (Nat.lt_of_lt_of_le (Nat.mod_lt _ (by decide)) (by decide))];rfl
  ·have hin:i=32:=by
    have:¬((i:Nat):Int)<32:=by simpa using h3
    omega
   subst hin;refine vo hΓ ?_;conv=>whnf
   repeat' ((first|apply Ap<;>intro _|apply An)<;>conv=>whnf)
   all_goals try exact⟨B9⟩
   skip
   ·refine⟨?_⟩;refine(A0 ?_ (A0 ?_ (A0 ?_ (A0 ?_ (A0 ?_ A9)))));all_goals exact trivial
   ·refine Ld.row ?_;refine(A0 ?_ (A0 ?_ (A0 ?_ (A0 ?_ (A0 ?_ A9)))))
    ·exact congrArg (V.int .u64) f4
    ·exact congrArg (V.int .u64) (mid (s:=25) (t:=39) rfl (by decide) (hl 2 (by decide)) f3)
    ·exact congrArg (V.int .u64) (mid (s:=38) (t:=26) rfl (by decide) (hl 1 (by decide)) f2)
    ·exact congrArg (V.int .u64) (mid (s:=51) (t:=13) rfl (by decide) (hl 0 (by decide)) f1)
    ·exact congrArg (V.int .u64) f0
theorem AK6{a:Nat→Nat}(ha:S3 a):∀k,k<5→Eo (Eo a) k<2^51:=by
 have key:∀{a:Nat→Nat},(∀k,k<5→a k<2^52)→Eo a 0<2^51+38∧∀k,k<5→k≠0→Eo a k<2^51:=fun{a} h=>by
  have c1:cw a 1=(a 0+0)/2^51:=rfl;have c2:cw a 2=(a 1+cw a 1)/2^51:=rfl;have c3:cw a 3=(a 2+cw a 2)/2^51:=rfl;have c4:cw a 4=(a 3+cw a 3)/2^51:=rfl;have c5:cw a 5=(a 4+cw a 4)/2^51:=rfl;have h0:=h 0 (by decide);have h1:=h 1 (by decide);have h2:=h 2 (by decide);have h3:=h 3 (by decide);have h4:=h 4 (by decide);refine⟨?_,fun k hk h0=>?_⟩
  ·show(a 0+0)%2^51+19*cw a 5<_
   omega
  ·unfold Eo;rw[if_neg h0];exact Nat.mod_lt _ (by decide)
 have⟨h0,hk⟩:=key ha
 generalize Eo a=b at*;have c1:cw b 1=(b 0+0)/2^51:=rfl;have c2:cw b 2=(b 1+cw b 1)/2^51:=rfl;have c3:cw b 3=(b 2+cw b 2)/2^51:=rfl;have c4:cw b 4=(b 3+cw b 3)/2^51:=rfl;have c5:cw b 5=(b 4+cw b 4)/2^51:=rfl;have h1:=hk 1 (by decide) (by decide);have h2:=hk 2 (by decide) (by decide);have h3:=hk 3 (by decide) (by decide);have h4:=hk 4 (by decide) (by decide);intro k hk
 by_cases hz:k=0
 ·subst hz
  show(b 0+0)%2^51+19*cw b 5<_
  omega
 ·unfold Eo;rw[if_neg hz];exact Nat.mod_lt _ (by decide)
theorem ALx{a:Nat→Nat}(ha:S3 a):∀k,k<5→Eo (Eo (Eo a)) k<2^51:=AK6 (Nq fun k hk=>by have:=ha k hk;omega)
def bb(B:Nat→Nat)(k:Nat):Nat:=if k=0 then B 0+19 else B k
def Ja(β:Nat→Nat)(k:Nat):Nat:=(β k+cw β k)%2^51
abbrev S7(B:Nat→Nat):Nat→Nat:=Ja (bb B)
def fJ(B:Nat→Nat):Nat→Nat:=if 0<cw (bb B) 5 then S7 B else B
theorem AF3{B:Nat→Nat}(h:∀k,k<5→B k<2^51):∀k,k<5→fJ B k<2^51:=fun k hk=>by
 unfold fJ
 split
 ·exact Nat.mod_lt _ (by decide)
 ·exact h k hk
theorem zP{B:Nat→Nat}(h:∀k,k<5→B k<2^51):C5 (fJ B)=C5 B%P:=by
 have h0:=chain (a:=B 0+19) (c:=0) (B:=2^51) (c':=cw (bb B) 1) (r:=S7 B 0) rfl rfl;have h1:=chain (a:=B 1) (c:=cw (bb B) 1) (B:=2^51) (c':=cw (bb B) 2) (r:=S7 B 1) rfl rfl;have h2:=chain (a:=B 2) (c:=cw (bb B) 2) (B:=2^51) (c':=cw (bb B) 3) (r:=S7 B 2) rfl rfl;have h3:=chain (a:=B 3) (c:=cw (bb B) 3) (B:=2^51) (c':=cw (bb B) 4) (r:=S7 B 3) rfl rfl;have h4:=chain (a:=B 4) (c:=cw (bb B) 4) (B:=2^51) (c':=cw (bb B) 5) (r:=S7 B 4) rfl rfl;have r0:S7 B 0<2^51:=Nat.mod_lt _ (by decide);have r1:S7 B 1<2^51:=Nat.mod_lt _ (by decide);have r2:S7 B 2<2^51:=Nat.mod_lt _ (by decide);have r3:S7 B 3<2^51:=Nat.mod_lt _ (by decide);have r4:S7 B 4<2^51:=Nat.mod_lt _ (by decide);have b0:=h 0 (by decide);have b1:=h 1 (by decide);have b2:=h 2 (by decide);have b3:=h 3 (by decide);have b4:=h 4 (by decide)
 have hv:C5 B+19=C5 (S7 B)+2^255*cw (bb B) 5:=by
  unfold C5;omega
 have hb:C5 B<2^255:=by
  unfold C5;omega
 have hr:C5 (S7 B)<2^255:=by
  unfold C5;omega
 have hP:P=2^255 - 19:=by decide
 clear h0 h1 h2 h3 h4 r0 r1 r2 r3 r4 b0 b1 b2 b3 b4 h;unfold fJ
 split
 ·have:cw (bb B) 5=1:=by omega
  have h5:C5 B=C5 (S7 B)+P:=by omega
  rw[h5,Nat.add_mod_right,Nat.mod_eq_of_lt (by omega)]
 ·rw[Nat.mod_eq_of_lt (by omega)]
def pkW(A:Nat→Nat)(k:Nat):Nat:=if k=0 then(A 0+2^51*A 1)%2^64 else if k=1 then(A 1/2^13+2^38*A 2)%2^64 else if k=2 then(A 2/2^26+2^25*A 3)%2^64 else(A 3/2^39+2^12*A 4)%2^64
theorem gW{A:Nat→Nat}(h:∀k,k<5→A k<2^51)(k:Nat)(hk:k<4):pkW A k=w4 (C5 A) k:=by
 have b0:=h 0 (by decide);have b1:=h 1 (by decide);have b2:=h 2 (by decide);have b3:=h 3 (by decide);have b4:=h 4 (by decide);have e:k=0∨k=1∨k=2∨k=3:=by omega
 rcases e with rfl|rfl|rfl|rfl
 ·show(A 0+2^51*A 1)%2^64=C5 A/2^0%2^64
  unfold C5;omega
 ·show(A 1/2^13+2^38*A 2)%2^64=C5 A/2^64%2^64
  unfold C5;omega
 ·show(A 2/2^26+2^25*A 3)%2^64=C5 A/2^128%2^64
  unfold C5;omega
 ·show(A 3/2^39+2^12*A 4)%2^64=C5 A/2^192%2^64
  unfold C5;omega
theorem ASd(B:Nat→Nat)(hB:∀k,k<5→B k<2^51){i:Nat}(hi:i<5):bb B i<2^63∧cw (bb B) i≤5000:=by
 have hb:∀k,k<5→bb B k<2^63:=fun k hk=>by
  have:=hB k hk
  have:=hB 0 (by decide)
  unfold bb
  split<;>omega
 exact⟨hb i hi,rT hb i (by omega)⟩
theorem Ow(f g:Nat→Nat)(i k:Nat){v w:V}(hv:v= .int .u64 (g i:Nat)):(if k=i then v else if k=i then w else nv (fun k=>if k<i then g k else f k) k)=nv (fun k=>if k<i+1 then g k else f k) k:=by
 rw[←L2 f g i k hv]
 by_cases h:k=i
 ·rw[if_pos h,if_pos h]
 ·rw[if_neg h,if_neg h,if_neg h]
structure Pk(A:Nat→Nat)(m:Nat):Prop where
 g0:Ag .or .u64 (A 0:Nat) (Ch .u64 (A 1:Nat) 51)=((w4 m 0:Nat):Int)
 g1:Ag .or .u64 (Bt .u64 (A 1:Nat) 13) (Ch .u64 (A 2:Nat) 38)=((w4 m 1:Nat):Int)
 g2:Ag .or .u64 (Bt .u64 (A 2:Nat) 26) (Ch .u64 (A 3:Nat) 25)=((w4 m 2:Nat):Int)
 g3:Ag .or .u64 (Bt .u64 (A 3:Nat) 39) (Ch .u64 (A 4:Nat) 12)=((w4 m 3:Nat):Int)
theorem ASf{A:Nat→Nat}{m:Nat}(h:∀k,k<5→A k<2^51)(hm:C5 A=m):Pk A m:=by
 subst hm;have b0:=h 0 (by decide);have b1:=h 1 (by decide);have b2:=h 2 (by decide);have b3:=h 3 (by decide)
 exact⟨(U2 (t:=51) b0 (by decide)).trans (congrArg Nat.cast (gW h 0 (by decide))),
  (congrArg (fun z=>Ag .or .u64 z (Ch .u64 (A 2:Nat) 38)) (E0 (A 1) 13 (by decide))).trans ((U2 (t:=38) (by omega) (by decide)).trans (congrArg Nat.cast (gW h 1 (by decide)))),
  (congrArg (fun z=>Ag .or .u64 z (Ch .u64 (A 3:Nat) 25)) (E0 (A 2) 26 (by decide))).trans ((U2 (t:=25) (by omega) (by decide)).trans (congrArg Nat.cast (gW h 2 (by decide)))),
  (congrArg (fun z=>Ag .or .u64 z (Ch .u64 (A 4:Nat) 12)) (E0 (A 3) 39 (by decide))).trans ((U2 (t:=12) (by omega) (by decide)).trans (congrArg Nat.cast (gW h 3 (by decide))))⟩
def AR2:A7:=Bf (fun(a:NL)=>[l5 a]) (fun _=>True) (fun a=>a.e.val) Cb
theorem Rg:FOk Tryz.prog [] 194 AR2:=A8 fun⟨a,ha⟩ _=>by
 show CP _ _ _ _ (fun v=>Ld v (Cb (ev a).val))
 generalize hm:(ev a).val=m;have hΓ:=Ad Tryz.f194.ntmps _ _ (FL.all (.cons Vv .nil)) (HL.all .nil);refine Aw hΓ Tryz.func194 ?_;conv=>whnf
 repeat' ((first|apply Ap<;>intro _|apply An)<;>conv=>whnf)
 all_goals try exact⟨B9⟩
 refine⟨a,⟨AE.refl _,trivial⟩,⟨pN ha⟩,fun r hr=>?_⟩;subst hr;conv=>whnf
 repeat' ((first|apply Ap<;>intro _|apply An)<;>conv=>whnf)
 all_goals try exact⟨B9⟩
 refine⟨Eo a,⟨AE.refl _,trivial⟩,⟨pN (Nq (pN ha))⟩,fun r hr=>?_⟩;subst hr;conv=>whnf
 repeat' ((first|apply Ap<;>intro _|apply An)<;>conv=>whnf)
 all_goals try exact⟨B9⟩
 have hB:=ALx ha
 have he:(C5 (Eo (Eo (Eo a))))%P=m:=by
  rw[←hm,←Ta a,←Ta (Eo a),←Ta (Eo (Eo a))];rfl
 refine⟨Eo (Eo a),⟨AE.refl _,trivial⟩,⟨fun k hk=>Nat.lt_trans (AK6 ha k hk) (by decide)⟩,fun r hr=>?_⟩
 subst hr;generalize Eo (Eo (Eo a))=B at*;conv=>whnf
 repeat' ((first|apply Ap<;>intro _|apply An)<;>conv=>whnf)
 all_goals try exact⟨B9⟩
 have hv:=zP hB;have hl:=AF3 hB;have hob:=fun{i} (hi:i<5)=>ASd B hB hi;have hb0:bb B 0=B 0+19:=rfl;have hbk:∀k,k≠0→bb B k=B k:=fun k hk=>if_neg hk;have hend:fJ B=if 0<cw (bb B) 5 then Ja (bb B)else B:=rfl;rw[he]at hv;have hkeep:Ob (C5 (fJ B)=m∧(∀k,k<5→fJ B k<2^51)∧fJ B=if 0<cw (bb B) 5 then Ja (bb B)else B):=⟨hv,hl,hend⟩;clear hv hl hend he;generalize fJ B=R at*;generalize bb B=β at*
 have cs:∀k,k<5→Bt .u64 (IntKind.u64.wrap ((β k:Nat)+(cw β k:Nat))) 51=((cw β (k+1):Nat):Int):=fun k hk=>by
  have:=hob hk
  rw[←Int.natCast_add,Ao _ (by omega),ACs];rfl
 have ms:∀k,k<5→Ag .and .u64 (IntKind.u64.wrap ((β k:Nat)+(cw β k:Nat))) 2251799813685247=((Ja β k:Nat):Int):=fun k hk=>by
  have:=hob hk
  rw[←Int.natCast_add,Ao _ (by omega),bG _ (by omega)];rfl
 generalize Ja β=O at*;refine A4 (ι:=Nat) (fun i=>[(1, .ref 0 []),(2, .ref 1 []),(3, .ref 2 []),(4, .int .u64 (cw β i:Nat)),(18, .int .i64 (i:Nat))]) (fun i=>[some (Ql B),some (.row 1 32 fun _=> .int .u8 0),some (Ql fun k=>if k<i then O k else β k)]) (fun i=>i≤5) (fun i=>5 - i) 0 [some 0,some 1,some 2] ?_ (fun i hi=>vo hΓ ?_)
 ·conv=>whnf
  repeat' ((first|apply Ap<;>intro _|apply An)<;>conv=>whnf)
  all_goals try exact⟨Ba⟩
  ·have h0:=hB 0 (by decide);refine⟨?_⟩;refine(A0 ?_ (A0 ?_ (A0 ?_ (A0 ?_ (A0 ?_ A9)))))
   all_goals first
    |exact A5 (congrArg (V.int .u64) ((Ao (B 0+19) (by omega)).trans (congrArg Nat.cast hb0.symm))) trivial
    |exact A5 (congrArg (V.int .u64) (congrArg Nat.cast (hbk _ (by decide)).symm)) trivial
 ·rcases Nat.lt_or_ge i 5 with h5|h5
  ·obtain⟨y,hy⟩:∃y,y=i+1:=⟨_,rfl⟩;obtain rfl|rfl|rfl|rfl|rfl:i=0∨i=1∨i=2∨i=3∨i=4:=by omega
   all_goals
    conv=>whnf
    repeat' (first|(apply Ap<;>intro hp<;>first|(exfalso;revert hp;simp;done)|conv=>whnf)|(apply An<;>conv=>whnf))
    all_goals try exact⟨Bc⟩
    refine⟨y,[some 0,some 1,some 2],?_⟩;subst hy;conv=>whnf
    repeat' (apply An<;>conv=>whnf)
    all_goals try exact⟨Ba⟩
   all_goals first
    |exact⟨cs _ (by decide)⟩
    |exact⟨fun k _=>A5 (Ow β O 0 k (congrArg (V.int .u64) (ms 0 (by decide)))) trivial⟩
    |exact⟨fun k _=>A5 (Ow β O 1 k (congrArg (V.int .u64) (ms 1 (by decide)))) trivial⟩
    |exact⟨fun k _=>A5 (Ow β O 2 k (congrArg (V.int .u64) (ms 2 (by decide)))) trivial⟩
    |exact⟨fun k _=>A5 (Ow β O 3 k (congrArg (V.int .u64) (ms 3 (by decide)))) trivial⟩
    |exact⟨fun k _=>A5 (Ow β O 4 k (congrArg (V.int .u64) (ms 4 (by decide)))) trivial⟩
  ·obtain rfl:i=5:=by omega
   conv=>whnf
   repeat' (first|(apply Ap<;>intro hp<;>first|(exfalso;revert hp;simp;done)|conv=>whnf)|(apply An<;>conv=>whnf))
   obtain⟨hv,hl,hend⟩:=hkeep.out;refine vo hΓ ?_;conv=>whnf
   apply Ap<;>intro hc
   ·rw[if_pos (by simpa using hc)]at hend;rw[hend]at hv hl;have hp:=ASf (A:=fun k=>if k<5 then O k else β k) (fun k hk=>by simp only[if_pos hk];exact hl k hk) (show C5 (fun k=>if k<5 then O k else β k)=m by rw[←hv];simp[C5])
    conv=>whnf
    repeat' ((first|apply Ap<;>intro _|apply An)<;>conv=>whnf)
    all_goals try exact⟨Bc⟩
    refine A4 (ι:=Nat) (fun i=>[(2, .ref 1 []),(6, .ref 3 []),(7, .ref 4 []),(68, .int .i64 (i:Nat))]) (fun i=>[some (.row 1 5 fun k=> .int .u64 ((if k<5 then O k else β k:Nat):Int)),some (.row 1 32 fun _=> .int .u8 0),some (.row 1 5 fun k=> .int .u64 ((if k<5 then O k else β k:Nat):Int)),some (Iz m),some (.row 1 32 (bw m i))]) (fun i=>i≤32) (fun i=>32 - i) 0 [some 0,some 1,some 2,some 3,some 4] ?_ (fun i hi=>vo hΓ ?_)
    ·conv=>whnf
     repeat' ((first|apply Ap<;>intro _|apply An)<;>conv=>whnf)
     all_goals try exact⟨Ba⟩
     ·refine⟨?_⟩;refine(A0 ?_ (A0 ?_ (A0 ?_ (A0 ?_ A9))))
      ·exact A5 (congrArg (V.int .u64) hp.g3) trivial
      ·exact A5 (congrArg (V.int .u64) hp.g2) trivial
      ·exact A5 (congrArg (V.int .u64) hp.g1) trivial
      ·exact A5 (congrArg (V.int .u64) hp.g0) trivial
    ·conv=>whnf
     apply Ap<;>intro h3<;>conv=>whnf
     ·have hin:i<32:=by
       have:((i:Nat):Int)<32:=by simpa using h3
       omega
      have e1:=Fo (i:=i) (by omega);have e2:=Hz (i:=i) (by omega);have e3:=I7 (i:=i) (by omega);conv=>whnf
      repeat' ((first|apply Ap<;>intro _|apply An)<;>conv=>whnf)
      all_goals try first|exact⟨Ba⟩|exact⟨by rw[e1];omega⟩|exact⟨by rw[e3];omega⟩|exact⟨by rw[e2];omega⟩
      refine⟨i+1,[some 0,some 1,some 2,some 3,some 4],?_⟩;conv=>whnf
      repeat' (apply An<;>conv=>whnf)
      all_goals try exact⟨Ba⟩
      ·exact⟨by rw[A3 (by omega) (by omega)];rfl⟩
      refine⟨fun k _=>A5 ?_ trivial⟩;refine uE m i k (congrArg (V.int .u8) (Eq.trans ?_ (R5 m i)));rw[←e2,←Int.toNat_natCast (i/8),←e1]
     ·have hin:i=32:=by
       have:¬((i:Nat):Int)<32:=by simpa using h3
       omega
      subst hin;refine vo hΓ ?_;conv=>whnf
      repeat' ((first|apply Ap<;>intro _|apply An)<;>conv=>whnf)
      all_goals try exact⟨B9⟩
      exact Ld.row fun k hk=>congrArg (V.int .u8) (congrArg Nat.cast (if_pos hk))
   ·rw[if_neg (by simpa using hc)]at hend;rw[hend]at hv hl;have hp:=ASf hl hv;conv=>whnf
    repeat' ((first|apply Ap<;>intro _|apply An)<;>conv=>whnf)
    all_goals try exact⟨Bc⟩
    refine A4 (ι:=Nat) (fun i=>[(2, .ref 1 []),(6, .ref 3 []),(7, .ref 4 []),(68, .int .i64 (i:Nat))]) (fun i=>[some (Ql B),some (.row 1 32 fun _=> .int .u8 0),some (.row 1 5 fun k=> .int .u64 ((if k<5 then O k else β k:Nat):Int)),some (Iz m),some (.row 1 32 (bw m i))]) (fun i=>i≤32) (fun i=>32 - i) 0 [some 0,some 1,some 2,some 3,some 4] ?_ (fun i hi=>vo hΓ ?_)
    ·conv=>whnf
     repeat' ((first|apply Ap<;>intro _|apply An)<;>conv=>whnf)
     all_goals try exact⟨Ba⟩
     ·refine⟨?_⟩;refine(A0 ?_ (A0 ?_ (A0 ?_ (A0 ?_ A9))))
      ·exact A5 (congrArg (V.int .u64) hp.g3) trivial
      ·exact A5 (congrArg (V.int .u64) hp.g2) trivial
      ·exact A5 (congrArg (V.int .u64) hp.g1) trivial
      ·exact A5 (congrArg (V.int .u64) hp.g0) trivial
    ·conv=>whnf
     apply Ap<;>intro h3<;>conv=>whnf
     ·have hin:i<32:=by
       have:((i:Nat):Int)<32:=by simpa using h3
       omega
      have e1:=Fo (i:=i) (by omega);have e2:=Hz (i:=i) (by omega);have e3:=I7 (i:=i) (by omega);conv=>whnf
      repeat' ((first|apply Ap<;>intro _|apply An)<;>conv=>whnf)
      all_goals try first|exact⟨Ba⟩|exact⟨by rw[e1];omega⟩|exact⟨by rw[e3];omega⟩|exact⟨by rw[e2];omega⟩
      refine⟨i+1,[some 0,some 1,some 2,some 3,some 4],?_⟩;conv=>whnf
      repeat' (apply An<;>conv=>whnf)
      all_goals try exact⟨Ba⟩
      ·exact⟨by rw[A3 (by omega) (by omega)];rfl⟩
      refine⟨fun k _=>A5 ?_ trivial⟩;refine uE m i k (congrArg (V.int .u8) (Eq.trans ?_ (R5 m i)));rw[←e2,←Int.toNat_natCast (i/8),←e1]
     ·have hin:i=32:=by
       have:¬((i:Nat):Int)<32:=by simpa using h3
       omega
      subst hin;refine vo hΓ ?_;conv=>whnf
      repeat' ((first|apply Ap<;>intro _|apply An)<;>conv=>whnf)
      all_goals try exact⟨B9⟩
      exact Ld.row fun k hk=>congrArg (V.int .u8) (congrArg Nat.cast (if_pos hk))
theorem eN{a b:Nat}:∀n,(∀k,k<n→Hh a k=Hh b k)→a%2^(8*n)=b%2^(8*n)
 |0,_=>by rw[Nat.mul_zero,Nat.pow_zero,Nat.mod_one,Nat.mod_one]
 |n+1,h=>by
  have h1:=eN n fun k hk=>h k (by omega)
  have h2:a/2^(8*n)%2^8=b/2^(8*n)%2^8:=h n (by omega);rw[Nat.mul_succ,Nat.pow_add,Nat.mod_mul,Nat.mod_mul,h1,h2]
theorem AEo{a b:Nat}(ha:a<2^256)(hb:b<2^256)(h:∀k,k<32→Hh a k=Hh b k):a=b:=by
 have:=eN 32 h
 rwa [Nat.mod_eq_of_lt ha,Nat.mod_eq_of_lt hb]at this
theorem Wn{a b:Nat}(ha:a<2^256)(hb:b<2^256):De 32 (bv a) (bv b)=decide (a=b):=by
 rw[Bool.eq_iff_iff,decide_eq_true_eq,De,List.all_eq_true]
 constructor
 ·intro h;exact AEo ha hb fun k hk=>Int.ofNat.inj (eq_of_beq (h k (List.mem_range.2 hk)))
 ·rintro rfl k _
  exact beq_self_eq_true _
theorem nJ:P<2^255:=by decide
theorem AF1(a:NL):a.e.val<2^256:=by have:=a.e.isLt;have:=nJ;omega
theorem AWx{m:Nat}:((Ag .and .u8 ((Hh m 0:Nat):Int) 1)==1)=decide (m%2=1):=by
 have h:Hh m 0%2=m%2:=by
  show m/2^0%256%2=m%2
  omega
 have hb:∀x:Fin 256,((Ag .and .u8 ((x.val:Nat):Int) 1)==1)=decide (x.val%2=1):=by decide
 rw[hb ⟨Hh m 0,Nat.mod_lt _ (by decide)⟩]
 show decide (Hh m 0%2=1)=_
 rw[h]
def ARo:A7:=Bf ar2 (fun _=>True) (fun x=>decide (x.1.e=x.2.e)) V.bool
theorem kN:FOk Tryz.prog [] 239 ARo:=A8 fun⟨a,b⟩ _=>by
 show CP _ _ _ [l5 a,l5 b] _
 have hΓ:=Ad Tryz.f239.ntmps _ _ (FL.all (.cons Rg .nil)) (HL.all .nil);refine Aw hΓ Tryz.func239 ?_;conv=>whnf
 repeat' ((first|apply Ap<;>intro _|apply An)<;>conv=>whnf)
 all_goals try exact⟨B9⟩
 refine⟨a,⟨AE.refl _,trivial⟩,⟨trivial⟩,fun r hr=>?_⟩;subst hr;conv=>whnf
 repeat' ((first|apply Ap<;>intro _|apply An)<;>conv=>whnf)
 all_goals try exact⟨B0⟩
 refine⟨b,⟨AE.refl _,trivial⟩,⟨trivial⟩,fun r hr=>?_⟩;subst hr;conv=>whnf
 repeat' ((first|apply Ap<;>intro _|apply An)<;>conv=>whnf)
 all_goals try exact⟨B0⟩
 ·exact⟨fun _ _=>rfl⟩
 ·exact⟨fun _ _=>rfl⟩
 ·refine Ld.of (congrArg V.bool ((Wn (AF1 a) (AF1 b)).trans (decide_eq_decide.2 ⟨fun h=>Fin.ext h,fun h=>congrArg Fin.val h⟩)))
def ARe:A7:=Bf (fun a=>[l5 a]) (fun _=>True) (fun x=>decide (x.e.val%2=1)) V.bool
theorem kH:FOk Tryz.prog [] 195 ARe:=A8 fun a _=>by
 have hΓ:=Ad Tryz.f195.ntmps _ _ (FL.all (.cons Rg .nil)) (HL.all .nil);refine Aw hΓ Tryz.func195 ?_;conv=>whnf
 repeat' ((first|apply Ap<;>intro _|apply An)<;>conv=>whnf)
 all_goals try exact⟨B9⟩
 refine⟨a,⟨AE.refl _,trivial⟩,⟨trivial⟩,fun r hr=>?_⟩;subst hr;conv=>whnf
 repeat' ((first|apply Ap<;>intro _|apply An)<;>conv=>whnf)
 all_goals try exact⟨B0⟩
 exact Ld.of (congrArg V.bool AWx)
def Jm(e i:Nat):Bool:=decide (e/2^i%2=1)
theorem ALt{e i:Nat}:((Ag .and .u8 (Bt .u8 ((Hh e (i/8):Nat):Int) ((i%8:Nat):Int)) 1)==1)=Jm e i:=by
 have hb:∀(x:Fin 256) (r:Fin 8),((Ag .and .u8 (Bt .u8 ((x.val:Nat):Int) ((r.val:Nat):Int)) 1)==1)=decide (x.val/2^r.val%2=1):=by decide+kernel
 rw[hb ⟨Hh e (i/8),Nat.mod_lt _ (by decide)⟩ ⟨i%8,Nat.mod_lt _ (by decide)⟩,Jm]
 show decide (Hh e (i/8)/2^(i%8)%2=1)=_
 have h:Hh e (i/8)/2^(i%8)%2=e/2^i%2:=by
  unfold Hh;have h2:(2:Nat)^i=2^(8*(i/8))*2^(i%8):=by rw[←Nat.pow_add];congr 1;omega
  rw[h2,←Nat.div_div_eq_div_mul];generalize e/2^(8*(i/8))=x;have h:i%8=0∨i%8=1∨i%8=2∨i%8=3∨i%8=4∨i%8=5∨i%8=6∨i%8=7:=by omega
  rcases h with h|h|h|h|h|h|h|h<;>rw[h]<;>simp only[Nat.reducePow,Nat.div_one]<;>omega
 rw[h]
def He(a:NL)(e:Nat):Nat→NL|0=>Ft 1|k+1=>if Jm e (255 - k)then Bm (Bm (He a e k,He a e k),a)else Bm (He a e k,He a e k)
theorem jL{e k:Nat}(hk:k<256):e/2^(256 - (k+1))=2*(e/2^(256 - k))+if Jm e (255 - k)then 1 else 0:=by
 have h2:(2:Nat)^(256 - k)=2^(255 - k)*2:=by rw[←Nat.pow_succ];congr 1;omega
 rw[show 256 - (k+1)=255 - k by omega,h2,←Nat.div_div_eq_div_mul,Jm];generalize e/2^(255 - k)=x
 by_cases h:x%2=1
 ·rw[decide_eq_true h,if_pos rfl];omega
 ·rw[decide_eq_false h,if_neg (by decide)];omega
theorem pU(a:NL){e:Nat}(he:e<2^256):∀k,k≤256→(He a e k).e.val=a.e.val^(e/2^(256 - k))%P
 |0,_=>by
  rw[Nat.div_eq_of_lt (by simpa using he),Nat.pow_zero];exact(by decide:(Fin.ofNat P 1).val=1%P)
 |k+1,hk=>by
  have ih:=pU a he k (by omega)
  have hsq:(Bm (He a e k,He a e k)).e.val=a.e.val^(2*(e/2^(256 - k)))%P:=by
   rw[Nu,val_mul,ih,←Nat.mul_mod,←Nat.pow_add]
   congr 2
   omega
  rw[jL (by omega),He]
  by_cases h:Jm e (255 - k)=true
  ·rw[if_pos h,if_pos h,Nu,val_mul,hsq,Nat.pow_succ,Nat.mod_mul_mod]
  ·rw[if_neg h,if_neg h,hsq,Nat.add_zero]
def ARl:A7:=Bf (fun(x:NL×Av)=>[l5 x.1,Cb x.2.val]) (fun _=>True) (fun x=>He x.1 x.2.val 256) l5
theorem kM:FOk Tryz.prog [] 240 ARl:=A8 fun⟨a,e,he⟩ _=>by
 show CP _ _ _ [l5 a,Cb e] _
 have hΓ:=Ad Tryz.f240.ntmps _ _ (FL.all (.cons Nz (.cons Rj .nil))) (HL.all .nil);refine Aw hΓ Tryz.func240 ?_;conv=>whnf
 repeat' ((first|apply Ap<;>intro _|apply An)<;>conv=>whnf)
 all_goals try exact⟨B9⟩
 refine⟨1,⟨AE.refl _,trivial⟩,⟨trivial⟩,fun r hr=>?_⟩;subst hr;conv=>whnf
 repeat' ((first|apply Ap<;>intro _|apply An)<;>conv=>whnf)
 all_goals try exact⟨B9⟩
 refine A4 (ι:=Nat) (fun k=>[(2, .ref 0 []),(3, .ref 1 []),(4, .ref 2 []),(5, .ref 3 []),(6, .int .i64 (255 - (k:Int)))]) (fun k=>[some (l5 a),some (Cb e),some (.row 1 5 fun _=> .int .u64 0),some (l5 (He a e k))]) (fun k=>k≤256) (fun k=>256 - k) 0 [some 0,some 1,some 2,some 3] ?_ (fun i hi=>vo hΓ ?_)
 ·conv=>whnf
  repeat' ((first|apply Ap<;>intro _|apply An)<;>conv=>whnf)
  all_goals try exact⟨Ba⟩
 ·conv=>whnf
  apply Ap<;>intro h3<;>conv=>whnf
  ·have hin:i<256:=by
    have:(0:Int)≤255 - (i:Int):=by simpa using h3
    omega
   have hn:(255:Int) - (i:Int)=((255 - i:Nat):Int):=by omega
   have hp:He a e (i+1)=if Jm e (255 - i)then Bm (Bm (He a e i,He a e i),a)else Bm (He a e i,He a e i):=rfl;have e1:IntKind.i64.wrap (Int.tdiv (255 - (i:Int)) 8)=(((255 - i)/8:Nat):Int):=by rw[hn];exact Fo (by omega)
   have e2:Int.tmod (255 - (i:Int)) 8=(((255 - i)%8:Nat):Int):=by rw[hn,Int.tmod_eq_emod_of_nonneg (by omega)];omega
   have hb:(Ag .and .u8 (Bt .u8 ((Hh e (IntKind.i64.wrap (Int.tdiv (255 - (i:Int)) 8)).toNat:Nat):Int) (Int.tmod (255 - (i:Int)) 8)) 1==1)=Jm e (255 - i):=by rw[e1,e2,Int.toNat_natCast];exact ALt
   generalize He a e i=p at*;conv=>whnf
   repeat' ((first|apply Ap<;>intro _|apply An)<;>conv=>whnf)
   all_goals try exact⟨B9⟩
   refine⟨(p,p),⟨AE.refl _,AE.refl _,trivial⟩,⟨trivial⟩,fun r hr=>?_⟩;subst hr;conv=>whnf
   repeat' ((first|apply Ap<;>intro _|apply An)<;>conv=>whnf)
   all_goals try exact⟨B0⟩
   ·rename_i hc;rw[if_pos (hb.symm.trans hc)]at hp;refine⟨(Bm (p,p),a),⟨AE.refl _,AE.refl _,trivial⟩,⟨trivial⟩,fun r hr=>?_⟩;subst hr;conv=>whnf
    repeat' ((first|apply Ap<;>intro _|apply An)<;>conv=>whnf)
    all_goals try exact⟨B0⟩
    rw[←hp];refine⟨i+1,[some 0,some 1,some 2,some 3],?_⟩;conv=>whnf
    repeat' (apply An<;>conv=>whnf)
    all_goals try exact⟨Ba⟩
    all_goals exact⟨by rw[A3 (by omega) (by omega)];omega⟩
   ·rename_i hc;rw[if_neg (by rw[hb.symm.trans hc];decide)]at hp;rw[←hp];refine⟨i+1,[some 0,some 1,some 2,some 3],?_⟩;conv=>whnf
    repeat' (apply An<;>conv=>whnf)
    all_goals try exact⟨Ba⟩
    all_goals exact⟨by rw[A3 (by omega) (by omega)];omega⟩
  ·have hin:i=256:=by
    have:¬(0:Int)≤255 - (i:Int):=by simpa using h3
    omega
   subst hin;refine vo hΓ ?_;conv=>whnf
   repeat' ((first|apply Ap<;>intro _|apply An)<;>conv=>whnf)
   all_goals try exact⟨B9⟩
   exact Ld.refl _
def nB(j:Fin 3):Nat:=if j=0 then 255 else if j=1 then 252 else 253
def kB(j:Fin 3):Nat:=if j=0 then 21 else if j=1 then 2 else 5
def xB(j:Fin 3):Av:=⟨2^nB j - kB j,by revert j;decide⟩
def bl(i k:Nat):Nat:=2^min 8 (i - 8*k) - 1
theorem AQd(i k:Nat)(hk:k≠i/8):bl (i+1) k=bl i k:=by
 unfold bl;rw[show min 8 (i+1 - 8*k)=min 8 (i - 8*k) by omega]
theorem AQc(i:Nat):Ag .or .u8 (bl i (i/8):Nat) (Ch .u8 1 ((i%8:Nat):Int))=((bl (i+1) (i/8):Nat):Int):=by
 have hb:∀r:Fin 8,Ag .or .u8 ((2^r.val - 1:Nat):Int) (Ch .u8 1 ((r.val:Nat):Int))=((2^(r.val+1) - 1:Nat):Int):=by decide
 unfold bl;rw[show min 8 (i - 8*(i/8))=i%8 by omega,show min 8 (i+1 - 8*(i/8))=i%8+1 by omega];exact hb ⟨i%8,Nat.mod_lt _ (by decide)⟩
def nb(f:Nat→Nat):Nat→V:=fun k=> .int .u8 (f k:Nat)
theorem qW{f g:Nat→Nat}{z:Int}{m:Nat}(hz:z=(m:Nat)){v:V}(hv:v= .int .u8 (g m:Nat))(hg:∀j,j≠m→g j=f j)(j:Nat):(if j=z.toNat then v else nb f j)=nb g j:=by
 subst hz;rw[Int.toNat_natCast]
 by_cases h:j=m
 ·rw[if_pos h,hv,h];rfl
 ·rw[if_neg h];simp only[nb,hg j h]
def AQz:A7:=Bf (fun(j:Fin 3)=>[.int .i64 (nB j:Nat), .int .u8 (kB j:Nat)]) (fun _=>True) (fun j=>(xB j).val) Cb
theorem kE:FOk Tryz.prog [] 241 AQz:=A8 fun j _=>by
 have hn:nB j≤255:=by revert j;decide
 have hfin:∀k,k<32→k≠0→bl (nB j) k=Hh (xB j).val k:=by
  have:∀j:Fin 3,∀k,k<32→k≠0→bl (nB j) k=Hh (xB j).val k:=by decide+kernel
  exact this j
 have hfin0:IntKind.u8.wrap (((bl (nB j) 0:Nat):Int) - IntKind.u8.wrap (((kB j:Nat):Int) - 1))=((Hh (xB j).val 0:Nat):Int):=by
  have:∀j:Fin 3,IntKind.u8.wrap (((bl (nB j) 0:Nat):Int) - IntKind.u8.wrap (((kB j:Nat):Int) - 1))=((Hh (xB j).val 0:Nat):Int):=by decide+kernel
  exact this j
 show CP _ _ _ [.int .i64 (nB j:Nat), .int .u8 (kB j:Nat)] (fun v=>Ld v (Cb (xB j).val))
 generalize(xB j).val=x at*
 generalize nB j=n at*;generalize kB j=c at*;have hΓ:=Ad Tryz.f241.ntmps _ _ (FL.all .nil) (HL.all .nil);refine Aw hΓ Tryz.func241 ?_;conv=>whnf
 refine A4 (ι:=Nat) (fun i=>[(1, .int .u8 (c:Nat)),(4, .ref 0 []),(5, .ref 1 []),(7, .int .i64 (n:Nat)),(8, .int .i64 (i:Nat))]) (fun i=>[some (.row 1 32 fun _=> .int .u8 0),some (.row 1 32 (nb (bl i)))]) (fun i=>i≤n) (fun i=>n - i) 0 [some 0,some 1] ?_ (fun i hi=>vo hΓ ?_)
 ·conv=>whnf
  repeat' ((first|apply Ap<;>intro _|apply An)<;>conv=>whnf)
  all_goals try first|exact⟨Ba⟩|exact⟨fun k _=>A5 (congrArg (V.int .u8) (congrArg Nat.cast (show 0=bl 0 k by unfold bl;rw[show 0 - 8*k=0 by omega];rfl))) trivial⟩
 ·conv=>whnf
  apply Ap<;>intro h3<;>conv=>whnf
  ·have hin:i<n:=by
    have:((i:Nat):Int)<(n:Nat):=by simpa using h3
    omega
   have e1:=Fo (i:=i) (by omega);have e2:Int.tmod (i:Int) 8=((i%8:Nat):Int):=by rw[Int.tmod_eq_emod_of_nonneg (by omega)];omega
   conv=>whnf
   repeat' ((first|apply Ap<;>intro _|apply An)<;>conv=>whnf)
   all_goals try first|exact⟨Ba⟩|exact⟨by rw[e1];omega⟩|exact⟨by rw[e2];omega⟩
   refine⟨i+1,[some 0,some 1],?_⟩;conv=>whnf
   repeat' (apply An<;>conv=>whnf)
   all_goals try exact⟨Ba⟩
   ·exact⟨by rw[A3 (by omega) (by omega)];rfl⟩
   refine⟨fun k _=>A5 (qW e1 ?_ (fun j hj=>AQd i j hj) k) trivial⟩;refine congrArg (V.int .u8) (Eq.trans ?_ (AQc i));rw[←e2,←Int.toNat_natCast (i/8),←e1]
  ·have hin:i=n:=by
    have:¬((i:Nat):Int)<(n:Nat):=by simpa using h3
    omega
   subst hin;refine vo hΓ ?_;conv=>whnf
   repeat' ((first|apply Ap<;>intro _|apply An)<;>conv=>whnf)
   all_goals try exact⟨B9⟩
   ·refine⟨fun k hk=>?_⟩
    by_cases h:k=0
    ·subst h;exact trivial
    ·show own (if k=Int.toNat 0 then _ else _)
     rw[if_neg (show¬k=Int.toNat 0 from h)];exact trivial
   ·refine Ld.row fun k hk=>?_
    by_cases h:k=0
    ·subst h;exact congrArg (V.int .u8) hfin0
    ·refine(if_neg h).trans ?_;exact congrArg (V.int .u8) (congrArg Nat.cast (hfin k hk h))
def gI(a:NL):NL:=He a (P - 2) 256
theorem AK7(a:NL):(gI a).e=inv a.e:=by
 refine Fin.ext ?_;rw[gI,pU a (by decide) 256 (Nat.le_refl _),Nat.sub_self,Nat.pow_zero,Nat.div_one]
 show _=Oh P 255 a.e.val (P - 2)
 rw[Jb P 255 _ _ (by decide+kernel)]
def AR6:A7:=Bf (fun a=>[l5 a]) (fun _=>True) gI l5
theorem kG:FOk Tryz.prog [] 192 AR6:=A8 fun a _=>by
 have hΓ:=Ad Tryz.f192.ntmps _ _ (FL.all (.cons kM (.cons kE .nil))) (HL.all .nil);refine Aw hΓ Tryz.func192 ?_;conv=>whnf
 repeat' ((first|apply Ap<;>intro _|apply An)<;>conv=>whnf)
 all_goals try exact⟨B9⟩
 refine⟨0,⟨AE.of rfl,AE.of rfl,trivial⟩,⟨trivial⟩,fun r hr=>?_⟩;subst hr;conv=>whnf
 repeat' ((first|apply Ap<;>intro _|apply An)<;>conv=>whnf)
 all_goals try exact⟨B9⟩
 refine⟨(a,xB 0),⟨AE.refl _,AE.refl _,trivial⟩,⟨trivial⟩,fun r hr=>?_⟩;subst hr;conv=>whnf
 repeat' ((first|apply Ap<;>intro _|apply An)<;>conv=>whnf)
 all_goals try exact⟨B0⟩
 exact Ld.refl _
theorem ACe(a:NL){e:Nat}(he:e<2^256):(He a e 256).e=La a.e e:=Fin.ext (by
 rw[pU a he 256 (Nat.le_refl _),Nat.sub_self,Nat.pow_zero,Nat.div_one,Lt _ he])
def Hm(a:NL):NL:=He a ((P+3)/8) 256
def Oq(a:NL):NL:=if decide ((Bm (Hm a,Hm a)).e=a.e)then Hm a else Bm (Hm a,He (Ft 2) ((P - 1)/4) 256)
theorem AM3(a:NL):(Oq a).e=Cv a.e:=by
 have h1:(Hm a).e=La a.e ((P+3)/8):=ACe a (by decide);have h2:(He (Ft 2) ((P - 1)/4) 256).e=i2:=ACe _ (by decide);unfold Oq Cv
 by_cases h:(Bm (Hm a,Hm a)).e=a.e
 ·rw[if_pos (decide_eq_true h),if_pos (by rw[←h1,←Nu (Hm a,Hm a)];exact h),h1]
 ·rw[if_neg (by simpa using h),if_neg (by rw[←h1,←Nu (Hm a,Hm a)];exact h),Nu,h1,h2]
def V1(a:NL):NL×Bool:=(Oq a,decide ((Bm (Oq a,Oq a)).e=a.e))
def ARn:A7:=Bf (fun a=>[l5 a]) (fun _=>True) V1 (fun r=> .tup (.cons (l5 r.1) (.cons (.bool r.2) .nil)))
theorem AT0(a:NL):He a (xB 1).val 256=Hm a:=congrArg (fun e=>He a e 256) (by decide+kernel)
theorem AT3(a:NL):He a (xB 2).val 256=He a ((P - 1)/4) 256:=congrArg (fun e=>He a e 256) (by decide+kernel)
theorem AAl:FOk Tryz.prog [] 238 ARn:=A8 fun a _=>by
 have hΓ:=Ad Tryz.f238.ntmps _ _ (FL.all (.cons kM (.cons kE (.cons Nz (.cons Rj (.cons kN .nil)))))) (HL.all .nil);refine Aw hΓ Tryz.func238 ?_;have h2:Oq a=if decide ((Bm (Hm a,Hm a)).e=a.e)then Hm a else Bm (Hm a,He (Ft 2) ((P - 1)/4) 256):=rfl;conv=>whnf
 repeat' ((first|apply Ap<;>intro _|apply An)<;>conv=>whnf)
 all_goals try exact⟨B9⟩
 refine⟨1,⟨AE.of rfl,AE.of rfl,trivial⟩,⟨trivial⟩,fun r hr=>?_⟩;subst hr;conv=>whnf
 repeat' ((first|apply Ap<;>intro _|apply An)<;>conv=>whnf)
 all_goals try exact⟨B9⟩
 refine⟨(a,xB 1),⟨AE.refl _,AE.refl _,trivial⟩,⟨trivial⟩,fun r hr=>?_⟩;replace hr:r=Hm a:=hr.trans (AT0 a);subst hr;conv=>whnf
 repeat' ((first|apply Ap<;>intro _|apply An)<;>conv=>whnf)
 all_goals try exact⟨B9⟩
 generalize Hm a=r1 at*;refine⟨(r1,r1),⟨AE.refl _,AE.refl _,trivial⟩,⟨trivial⟩,fun r hr=>?_⟩;subst hr;conv=>whnf
 repeat' ((first|apply Ap<;>intro _|apply An)<;>conv=>whnf)
 all_goals try exact⟨B0⟩
 refine⟨(Bm (r1,r1),a),⟨AE.refl _,AE.refl _,trivial⟩,⟨trivial⟩,fun r hr=>?_⟩;subst hr;conv=>whnf
 repeat' ((first|apply Ap<;>intro _|apply An)<;>conv=>whnf)
 all_goals try exact⟨B0⟩
 ·rename_i hc;replace hc:(!decide ((Bm (r1,r1)).e=a.e))=true:=hc;rw[if_neg (by simpa using hc)]at h2;refine⟨2,⟨AE.of rfl,trivial⟩,⟨trivial⟩,fun r hr=>?_⟩;subst hr;conv=>whnf
  repeat' ((first|apply Ap<;>intro _|apply An)<;>conv=>whnf)
  all_goals try exact⟨B9⟩
  refine⟨2,⟨AE.of rfl,AE.of rfl,trivial⟩,⟨trivial⟩,fun r hr=>?_⟩;subst hr;conv=>whnf
  repeat' ((first|apply Ap<;>intro _|apply An)<;>conv=>whnf)
  all_goals try exact⟨B9⟩
  refine⟨(Ft 2,xB 2),⟨AE.refl _,AE.refl _,trivial⟩,⟨trivial⟩,fun r hr=>?_⟩;replace hr:=hr.trans (AT3 (Ft 2));subst hr;conv=>whnf
  repeat' ((first|apply Ap<;>intro _|apply An)<;>conv=>whnf)
  all_goals try exact⟨B9⟩
  generalize He (Ft 2) ((P - 1)/4) 256=r2 at*;refine⟨(r1,r2),⟨AE.refl _,AE.refl _,trivial⟩,⟨trivial⟩,fun r hr=>?_⟩;subst hr;conv=>whnf
  repeat' ((first|apply Ap<;>intro _|apply An)<;>conv=>whnf)
  all_goals try exact⟨B0⟩
  generalize Bm (r1,r2)=r3 at*;rw[V1,h2];refine⟨(r3,r3),⟨AE.refl _,AE.refl _,trivial⟩,⟨trivial⟩,fun r hr=>?_⟩;subst hr;conv=>whnf
  repeat' ((first|apply Ap<;>intro _|apply An)<;>conv=>whnf)
  all_goals try exact⟨B0⟩
  refine⟨(Bm (r3,r3),a),⟨AE.refl _,AE.refl _,trivial⟩,⟨trivial⟩,fun r hr=>?_⟩;subst hr;conv=>whnf
  repeat' ((first|apply Ap<;>intro _|apply An)<;>conv=>whnf)
  all_goals try exact⟨B0⟩
  exact Ld.refl _
 ·rename_i hc;replace hc:(!decide ((Bm (r1,r1)).e=a.e))=false:=hc;rw[if_pos (by simpa using hc)]at h2;rw[V1,h2];refine⟨(r1,r1),⟨AE.refl _,AE.refl _,trivial⟩,⟨trivial⟩,fun r hr=>?_⟩;subst hr;conv=>whnf
  repeat' ((first|apply Ap<;>intro _|apply An)<;>conv=>whnf)
  all_goals try exact⟨B0⟩
  refine⟨(Bm (r1,r1),a),⟨AE.refl _,AE.refl _,trivial⟩,⟨trivial⟩,fun r hr=>?_⟩;subst hr;conv=>whnf
  repeat' ((first|apply Ap<;>intro _|apply An)<;>conv=>whnf)
  all_goals try exact⟨B0⟩
  exact Ld.refl _
structure PX where
 x:NL
 y:NL
 z:NL
 t:NL
def aD(p:PX):V:= .st (.cons (l5 p.x) (.cons (l5 p.y) (.cons (l5 p.z) (.cons (l5 p.t) .nil))))
def PX.e(p:PX):Ex P:=⟨p.x.e,p.y.e,p.z.e,p.t.e⟩
def bnN:Av:=⟨37095705934669439343138083508754565189542113879843219016388785533085940283555,by decide⟩
def jM:NL:=pQ bnN
theorem AQj:jM.e=dP:=(AQk _).trans (by decide)
def AR0:A7:=Bf (fun(_:Unit)=>[]) (fun _=>True) (fun _=>jM) l5
theorem Xs:FOk Tryz.prog [] 189 AR0:=A8 fun _ _=>by
 have hΓ:=Ad Tryz.f189.ntmps _ _ (FL.all (.cons sK .nil)) (HL.all .nil);refine Aw hΓ Tryz.func189 ?_;conv=>whnf
 repeat' ((first|apply Ap<;>intro _|apply An)<;>conv=>whnf)
 all_goals try exact⟨B9⟩
 ·refine⟨?_⟩;refine(A0 ?_ (A0 ?_ (A0 ?_ (A0 ?_ (A0 ?_ (A0 ?_ (A0 ?_ (A0 ?_ (A0 ?_ (A0 ?_ (A0 ?_ (A0 ?_ (A0 ?_ (A0 ?_ (A0 ?_ (A0 ?_ (A0 ?_ (A0 ?_ (A0 ?_ (A0 ?_ (A0 ?_ (A0 ?_ (A0 ?_ (A0 ?_ (A0 ?_ (A0 ?_ (A0 ?_ (A0 ?_ (A0 ?_ (A0 ?_ (A0 ?_ (A0 ?_ A9))))))))))))))))))))))))))))))));all_goals exact trivial
 refine⟨bnN,⟨AE.row ?_,trivial⟩,⟨trivial⟩,fun r hr=>?_⟩
 ·refine(A0 ?_ (A0 ?_ (A0 ?_ (A0 ?_ (A0 ?_ (A0 ?_ (A0 ?_ (A0 ?_ (A0 ?_ (A0 ?_ (A0 ?_ (A0 ?_ (A0 ?_ (A0 ?_ (A0 ?_ (A0 ?_ (A0 ?_ (A0 ?_ (A0 ?_ (A0 ?_ (A0 ?_ (A0 ?_ (A0 ?_ (A0 ?_ (A0 ?_ (A0 ?_ (A0 ?_ (A0 ?_ (A0 ?_ (A0 ?_ (A0 ?_ (A0 ?_ A9))))))))))))))))))))))))))))))));all_goals rfl
 subst hr;conv=>whnf
 repeat' ((first|apply Ap<;>intro _|apply An)<;>conv=>whnf)
 all_goals try exact⟨B9⟩
 exact Ld.refl _
def noX:PX:=⟨Ft 0,Ft 1,Ft 1,Ft 0⟩
theorem AVq:noX.e=S2:=by
 have h0:(Ft 0).e=0:=by decide
 have h1:(Ft 1).e=1:=by decide
 simp only[noX,PX.e,S2,h0,h1]
def ARd:A7:=Bf (fun(_:Unit)=>[]) (fun _=>True) (fun _=>noX) aD
theorem AAi:FOk Tryz.prog [] 187 ARd:=A8 fun _ _=>by
 have hΓ:=Ad Tryz.f187.ntmps _ _ (FL.all (.cons Rj .nil)) (HL.all .nil);refine Aw hΓ Tryz.func187 ?_;conv=>whnf
 repeat' ((first|apply Ap<;>intro _|apply An)<;>conv=>whnf)
 all_goals try exact⟨B9⟩
 refine⟨0,⟨AE.of rfl,trivial⟩,⟨trivial⟩,fun r hr=>?_⟩;subst hr;conv=>whnf
 repeat' ((first|apply Ap<;>intro _|apply An)<;>conv=>whnf)
 all_goals try exact⟨B0⟩
 refine⟨1,⟨AE.of rfl,trivial⟩,⟨trivial⟩,fun r hr=>?_⟩;subst hr;conv=>whnf
 repeat' ((first|apply Ap<;>intro _|apply An)<;>conv=>whnf)
 all_goals try exact⟨B0⟩
 refine⟨1,⟨AE.of rfl,trivial⟩,⟨trivial⟩,fun r hr=>?_⟩;subst hr;conv=>whnf
 repeat' ((first|apply Ap<;>intro _|apply An)<;>conv=>whnf)
 all_goals try exact⟨B0⟩
 refine⟨0,⟨AE.of rfl,trivial⟩,⟨trivial⟩,fun r hr=>?_⟩;subst hr;conv=>whnf
 repeat' ((first|apply Ap<;>intro _|apply An)<;>conv=>whnf)
 all_goals try exact⟨B0⟩
 exact Ld.refl _
def Ic(p q:PX)(k:NL):PX:=
 let a:=Bm (Gh (p.y,p.x),Gh (q.y,q.x))
 let b:=Bm (F9 (p.y,p.x),F9 (q.y,q.x))
 let c:=Bm (Bm (k,p.t),q.t)
 let d:=Bm (F9 (p.z,p.z),q.z)
 ⟨Bm (Gh (b,a),Gh (d,c)),Bm (F9 (d,c),F9 (b,a)),Bm (Gh (d,c),F9 (d,c)),Bm (Gh (b,a),F9 (b,a))⟩
theorem fG(p q:PX)(k:NL):(Ic p q k).e=H8 k.e p.e q.e:=by
 simp only[Ic,PX.e,H8,Nu,zK,zL]
def ARj:A7:=Bf (fun(x:PX×PX×NL)=>[aD x.1,aD x.2.1,l5 x.2.2]) (fun _=>True) (fun x=>Ic x.1 x.2.1 x.2.2) aD
theorem kK:FOk Tryz.prog G 190 ARj:=A8 fun⟨p,q,k⟩ _=>by
 show CP _ _ _ [aD p,aD q,l5 k] _
 have hΓ:=Ab Tryz.f190.ntmps _ _ [(5, .one 0 (.one 1 (.one 2 (.one 3 (.one 4 (.one 5 (.one 6 (.one 7 (.one 8 (.one 9 (.one 10 (.one 11 (.many (.cons 12 (.many (.cons 13 (.many (.cons 14 (.one 15 (.one 16 (.one 17 (.one 18 (.one 19 (.done)))))) (.cons 15 (.one 14 (.one 16 (.one 17 (.one 18 (.one 19 (.done)))))) (.nil)))) (.cons 14 (.many (.cons 13 (.one 15 (.one 16 (.one 17 (.one 18 (.one 19 (.done)))))) (.cons 15 (.one 13 (.one 16 (.one 17 (.one 18 (.one 19 (.done)))))) (.nil)))) (.cons 15 (.many (.cons 13 (.one 14 (.one 16 (.one 17 (.one 18 (.one 19 (.done)))))) (.cons 14 (.one 13 (.one 16 (.one 17 (.one 18 (.one 19 (.done)))))) (.nil)))) (.nil))))) (.cons 13 (.many (.cons 12 (.many (.cons 14 (.one 15 (.one 16 (.one 17 (.one 18 (.one 19 (.done)))))) (.cons 15 (.one 14 (.one 16 (.one 17 (.one 18 (.one 19 (.done)))))) (.nil)))) (.cons 14 (.many (.cons 12 (.one 15 (.one 16 (.one 17 (.one 18 (.one 19 (.done)))))) (.cons 15 (.one 12 (.one 16 (.one 17 (.one 18 (.one 19 (.done)))))) (.nil)))) (.cons 15 (.many (.cons 12 (.one 14 (.one 16 (.one 17 (.one 18 (.one 19 (.done)))))) (.cons 14 (.one 12 (.one 16 (.one 17 (.one 18 (.one 19 (.done)))))) (.nil)))) (.nil))))) (.cons 14 (.many (.cons 12 (.many (.cons 13 (.one 15 (.one 16 (.one 17 (.one 18 (.one 19 (.done)))))) (.cons 15 (.one 13 (.one 16 (.one 17 (.one 18 (.one 19 (.done)))))) (.nil)))) (.cons 13 (.many (.cons 12 (.one 15 (.one 16 (.one 17 (.one 18 (.one 19 (.done)))))) (.cons 15 (.one 12 (.one 16 (.one 17 (.one 18 (.one 19 (.done)))))) (.nil)))) (.cons 15 (.many (.cons 12 (.one 13 (.one 16 (.one 17 (.one 18 (.one 19 (.done)))))) (.cons 13 (.one 12 (.one 16 (.one 17 (.one 18 (.one 19 (.done)))))) (.nil)))) (.nil))))) (.cons 15 (.many (.cons 12 (.many (.cons 13 (.one 14 (.one 16 (.one 17 (.one 18 (.one 19 (.done)))))) (.cons 14 (.one 13 (.one 16 (.one 17 (.one 18 (.one 19 (.done)))))) (.nil)))) (.cons 13 (.many (.cons 12 (.one 14 (.one 16 (.one 17 (.one 18 (.one 19 (.done)))))) (.cons 14 (.one 12 (.one 16 (.one 17 (.one 18 (.one 19 (.done)))))) (.nil)))) (.cons 14 (.many (.cons 12 (.one 13 (.one 16 (.one 17 (.one 18 (.one 19 (.done)))))) (.cons 13 (.one 12 (.one 16 (.one 17 (.one 18 (.one 19 (.done)))))) (.nil)))) (.nil))))) (.nil))))))))))))))))))] (.cons (Nz.g) (.cons (Rf.g) (.cons (kO.g) .nil))) .nil;refine Aw hΓ Tryz.func190 ?_;conv=>whnf
 repeat' ((first|apply Ap<;>intro _|apply An)<;>conv=>whnf)
 all_goals try exact⟨B9⟩
 refine⟨(p.y,p.x),⟨AE.refl _,AE.refl _,trivial⟩,⟨trivial⟩,fun r hr=>?_⟩;subst hr;conv=>whnf
 repeat' ((first|apply Ap<;>intro _|apply An)<;>conv=>whnf)
 all_goals try exact⟨B0⟩
 refine⟨(q.y,q.x),⟨AE.refl _,AE.refl _,trivial⟩,⟨trivial⟩,fun r hr=>?_⟩;subst hr;conv=>whnf
 repeat' ((first|apply Ap<;>intro _|apply An)<;>conv=>whnf)
 all_goals try exact⟨B0⟩
 refine⟨(Gh (p.y,p.x),Gh (q.y,q.x)),⟨AE.refl _,AE.refl _,trivial⟩,⟨trivial⟩,fun r hr=>?_⟩;subst hr;conv=>whnf
 repeat' ((first|apply Ap<;>intro _|apply An)<;>conv=>whnf)
 all_goals try exact⟨B0⟩
 refine⟨(p.y,p.x),⟨AE.refl _,AE.refl _,trivial⟩,⟨trivial⟩,fun r hr=>?_⟩;subst hr;conv=>whnf
 repeat' ((first|apply Ap<;>intro _|apply An)<;>conv=>whnf)
 all_goals try exact⟨B0⟩
 refine⟨(q.y,q.x),⟨AE.refl _,AE.refl _,trivial⟩,⟨trivial⟩,fun r hr=>?_⟩;subst hr;conv=>whnf
 repeat' ((first|apply Ap<;>intro _|apply An)<;>conv=>whnf)
 all_goals try exact⟨B0⟩
 refine⟨(F9 (p.y,p.x),F9 (q.y,q.x)),⟨AE.refl _,AE.refl _,trivial⟩,⟨trivial⟩,fun r hr=>?_⟩;subst hr;conv=>whnf
 repeat' ((first|apply Ap<;>intro _|apply An)<;>conv=>whnf)
 all_goals try exact⟨B0⟩
 refine⟨(k,p.t),⟨AE.refl _,AE.refl _,trivial⟩,⟨trivial⟩,fun r hr=>?_⟩;subst hr;conv=>whnf
 repeat' ((first|apply Ap<;>intro _|apply An)<;>conv=>whnf)
 all_goals try exact⟨B0⟩
 refine⟨(Bm (k,p.t),q.t),⟨AE.refl _,AE.refl _,trivial⟩,⟨trivial⟩,fun r hr=>?_⟩;subst hr;conv=>whnf
 repeat' ((first|apply Ap<;>intro _|apply An)<;>conv=>whnf)
 all_goals try exact⟨B0⟩
 refine⟨(p.z,p.z),⟨AE.refl _,AE.refl _,trivial⟩,⟨trivial⟩,fun r hr=>?_⟩;subst hr;conv=>whnf
 repeat' ((first|apply Ap<;>intro _|apply An)<;>conv=>whnf)
 all_goals try exact⟨B0⟩
 refine⟨(F9 (p.z,p.z),q.z),⟨AE.refl _,AE.refl _,trivial⟩,⟨trivial⟩,fun r hr=>?_⟩;subst hr;conv=>whnf
 repeat' ((first|apply Ap<;>intro _|apply An)<;>conv=>whnf)
 all_goals try exact⟨B0⟩
 have hres:Ic p q k=⟨Bm (Gh (Bm (F9 (p.y,p.x),F9 (q.y,q.x)),Bm (Gh (p.y,p.x),Gh (q.y,q.x))),Gh (Bm (F9 (p.z,p.z),q.z),Bm (Bm (k,p.t),q.t))),Bm (F9 (Bm (F9 (p.z,p.z),q.z),Bm (Bm (k,p.t),q.t)),F9 (Bm (F9 (p.y,p.x),F9 (q.y,q.x)),Bm (Gh (p.y,p.x),Gh (q.y,q.x)))),Bm (Gh (Bm (F9 (p.z,p.z),q.z),Bm (Bm (k,p.t),q.t)),F9 (Bm (F9 (p.z,p.z),q.z),Bm (Bm (k,p.t),q.t))),Bm (Gh (Bm (F9 (p.y,p.x),F9 (q.y,q.x)),Bm (Gh (p.y,p.x),Gh (q.y,q.x))),F9 (Bm (F9 (p.y,p.x),F9 (q.y,q.x)),Bm (Gh (p.y,p.x),Gh (q.y,q.x))))⟩:=rfl;generalize Bm (Gh (p.y,p.x),Gh (q.y,q.x))=a at*;generalize Bm (F9 (p.y,p.x),F9 (q.y,q.x))=b at*;generalize Bm (Bm (k,p.t),q.t)=c at*;generalize Bm (F9 (p.z,p.z),q.z)=d at*;refine⟨(b,a),⟨AE.refl _,AE.refl _,trivial⟩,⟨trivial⟩,fun r hr=>?_⟩;subst hr;conv=>whnf
 repeat' ((first|apply Ap<;>intro _|apply An)<;>conv=>whnf)
 all_goals try exact⟨B0⟩
 refine⟨(d,c),⟨AE.refl _,AE.refl _,trivial⟩,⟨trivial⟩,fun r hr=>?_⟩;subst hr;conv=>whnf
 repeat' ((first|apply Ap<;>intro _|apply An)<;>conv=>whnf)
 all_goals try exact⟨B0⟩
 refine⟨(d,c),⟨AE.refl _,AE.refl _,trivial⟩,⟨trivial⟩,fun r hr=>?_⟩;subst hr;conv=>whnf
 repeat' ((first|apply Ap<;>intro _|apply An)<;>conv=>whnf)
 all_goals try exact⟨B0⟩
 refine⟨(b,a),⟨AE.refl _,AE.refl _,trivial⟩,⟨trivial⟩,fun r hr=>?_⟩;subst hr;conv=>whnf
 repeat' ((first|apply Ap<;>intro _|apply An)<;>conv=>whnf)
 all_goals try exact⟨B0⟩
 all_goals first
  |exact trivial
  |skip
 all_goals
  refine⟨(_,_),⟨AE.refl _,AE.refl _,trivial⟩,⟨trivial⟩,fun r hr=>?_⟩;subst hr;conv=>whnf
  repeat' ((first|apply Ap<;>intro _|apply An)<;>conv=>whnf)
  all_goals try exact⟨B0⟩
 all_goals
  refine⟨(_,_),⟨AE.refl _,AE.refl _,trivial⟩,⟨trivial⟩,fun r hr=>?_⟩;subst hr;conv=>whnf
  repeat' ((first|apply Ap<;>intro _|apply An)<;>conv=>whnf)
  all_goals try exact⟨B0⟩
 all_goals
  refine⟨(_,_),⟨AE.refl _,AE.refl _,trivial⟩,⟨trivial⟩,fun r hr=>?_⟩;subst hr;conv=>whnf
  repeat' ((first|apply Ap<;>intro _|apply An)<;>conv=>whnf)
  all_goals try exact⟨B0⟩
 all_goals
  refine⟨(_,_),⟨AE.refl _,AE.refl _,trivial⟩,⟨trivial⟩,fun r hr=>?_⟩;subst hr;conv=>whnf
  repeat' ((first|apply Ap<;>intro _|apply An)<;>conv=>whnf)
  all_goals try exact⟨B0⟩
 all_goals
  rw[hres];exact Ld.refl _
end Go.Proofs.YtaihjcpfjgpmoaaGreatDoor
