/- Part of the claim ModelPuts: W1, W2, W3, W4, W5, W6. -/
import Derived.Test.YtaihjcpfjgpmoaaGreatDoorNA
import Derived.Test.YtaihjcpfjgpmoaaGreatDoorZD
set_option linter.unusedVariables false
set_option linter.unusedSimpArgs false
set_option maxRecDepth 100000
set_option maxHeartbeats 2000000
namespace Go.Proofs.YtaihjcpfjgpmoaaGreatDoor.Wd
open Go Go.DD
def u64(x:UInt64):V:= .int .u64 (x.toNat:Nat)
theorem Qx(x:UInt64):IntKind.u64.wrap (x.toNat:Nat)=(x.toNat:Nat):=by
 have:=x.toNat_lt
 rw[IntKind.wrap_u64];omega
theorem Ly(x y:UInt64):IntKind.u64.wrap ((x.toNat:Nat)+(y.toNat:Nat))=((x+y).toNat:Nat):=by
 rw[IntKind.wrap_u64,UInt64.toNat_add];omega
theorem qM(x:UInt64):BitVec.ofInt 64 (x.toNat:Nat)=x.toBitVec:=by
 apply BitVec.eq_of_toNat_eq
 rw[BitVec.toNat_ofInt]
 have:=x.toNat_lt
 simp only[UInt64.toNat_toBitVec];omega
theorem P2(x y:UInt64):Ag .xor .u64 (x.toNat:Nat) (y.toNat:Nat)=((x^^^y).toNat:Nat):=by
 simp only[Ag,IntKind.bits,qM];exact Qx (x^^^y)
theorem mZ(x y:UInt64):Ag .and .u64 (x.toNat:Nat) (y.toNat:Nat)=((x&&&y).toNat:Nat):=by
 simp only[Ag,IntKind.bits,qM];exact Qx (x&&&y)
theorem ADe(x y:UInt64):Ag .or .u64 (x.toNat:Nat) (y.toNat:Nat)=((x|||y).toNat:Nat):=by
 simp only[Ag,IntKind.bits,qM];exact Qx (x|||y)
theorem ADd(x:UInt64):Ag .xor .u64 18446744073709551615 (x.toNat:Nat)=((~~~x).toNat:Nat):=by
 have h:(18446744073709551615:Int)=(((-1:UInt64).toNat:Nat):Int):=by decide
 rw[h,P2];rfl
theorem Q8(x:UInt64)(n:Nat)(h:n<64):Bt .u64 (x.toNat:Nat) n=((x>>>(UInt64.ofNat n)).toNat:Nat):=by
 simp only[Bt,IntKind.bits,Int.toNat_natCast,Nat.min_eq_left (Nat.le_of_lt h)];have h1:(UInt64.ofNat n).toNat%64=n:=by rw[UInt64.toNat_ofNat'];omega
 rw[UInt64.toNat_shiftRight,h1,Nat.shiftRight_eq_div_pow,Int.fdiv_eq_ediv_of_nonneg _ (by exact Int.le_of_lt (Int.pow_pos (by decide)))];simp
theorem Zw(x:UInt64):Ch .u64 (x.toNat:Nat) 8=((x<<<8).toNat:Nat):=by
 simp only[Ch,IntKind.bits];rw[IntKind.wrap_u64,UInt64.toNat_shiftLeft,Nat.shiftLeft_eq];have h1:(8:UInt64).toNat%64=8:=rfl;rw[h1];simp
def Yy(x k:Int):Int:=Ag BinOp.or IntKind.u64 (Ch IntKind.u64 x (Ag BinOp.and IntKind.u64 (IntKind.u64.wrap k) 63)) (Bt IntKind.u64 x (IntKind.u64.wrap (64 - Ag BinOp.and IntKind.u64 (IntKind.u64.wrap k) 63)))
def Gf(x:UInt64)(k:Int):UInt64:=UInt64.ofNat (Yy (x.toNat:Nat) k).toNat
theorem hU(x:UInt64)(k:Int):Yy (x.toNat:Nat) k=((Gf x k).toNat:Nat):=by
 have h:0≤Yy (x.toNat:Nat) k∧Yy (x.toNat:Nat) k<18446744073709551616:=by
  simp only[Yy,Ag];rw[IntKind.wrap_u64];omega
 simp only[Gf,UInt64.toNat_ofNat'];omega
theorem AQ7(k:Int):0≤Ag BinOp.and IntKind.u64 k 63:=by
 simp only[Ag];rw[IntKind.wrap_u64];omega
def AKy:A7:=Iq (fun(a:UInt64×Int)=>[u64 a.1, .int .i64 a.2]) (fun _=>True) (fun a=>u64 (Gf a.1 a.2))
theorem Mc:FOk Tryz.prog [] 200 AKy:=Bj fun a _ Φ h=>by
 have hΓ:=Ad Tryz.f200.ntmps _ _ (FL.all .nil) (HL.all .nil);refine Aw hΓ Tryz.func200 ?_;conv=>whnf
 repeat' ((first|apply Ap<;>intro _|apply An)<;>conv=>whnf)
 ·exact⟨AQ7 _⟩
 ·refine⟨?_⟩;rw[IntKind.wrap_u64];omega
 ·refine cast (congrArg Φ ?_) h;simp only[u64];rw[←hU];rfl
def Fe(l:List UInt8):UInt64:=l.foldl (fun x c=>x<<<8|||UInt64.ofNat c.toNat) 0
def AL2:A7:=Iq (fun(a:By)=>[a.v]) pR (fun a=>u64 (Fe a.l))
theorem fT:FOk Tryz.prog [] 258 AL2:=Bj fun a ⟨ha,hn⟩ Φ h=>by
 refine CP.by1 ha ?_;generalize a.l=l at h hn;have hΓ:=Ad Tryz.f258.ntmps _ _ (FL.all .nil) (HL.all .nil);refine Aw hΓ Tryz.func258 ?_;conv=>whnf
 refine A4 (ι:=Nat) (fun i=>[(3,u64 (Fe (l.take i))),(6,Bl a.b l),(7, .int .i64 (l.length:Nat)),(8, .int .i64 (i:Nat))]) (fun i=>[]) (fun i=>i≤l.length) (fun i=>l.length - i) 0 [] ?_ (fun i hi=>vo hΓ ?_)
 ·conv=>whnf
  repeat' ((first|apply Ap<;>intro _|apply An)<;>conv=>whnf)
  all_goals try exact⟨Ah⟩
 ·conv=>whnf
  repeat' ((first|apply Ap<;>intro _|apply An)<;>conv=>whnf)
  all_goals(try simp only[decide_eq_true_eq,decide_eq_false_iff_not,Int.toNat_natCast,Bool.not_eq_true,Bool.not_eq_false]at*)
  all_goals try exact⟨Ah⟩
  ·refine⟨i+1,[],?_⟩;conv=>whnf
   repeat' (apply An<;>conv=>whnf)
   all_goals try exact⟨Ah⟩
   ·refine⟨?_⟩;have hi':i<l.length:=by omega
    rw[List.take_succ_eq_append_getElem hi'];simp only[Fe,List.foldl_append,List.foldl_cons,List.foldl_nil];rw[←ADe,←Zw];have hc:=l[i].toNat_lt;have h1:(UInt64.ofNat l[i].toNat).toNat=l[i].toNat:=by rw[UInt64.toNat_ofNat'];omega
    have h2:l.getD i 0=l[i]:=by simp[List.getD_eq_getElem?_getD,hi']
    rw[h1,h2,IntKind.wrap_u64]
    congr 1
    omega
   ·exact⟨by rw[A3 (by omega) (by omega)];rfl⟩
  refine vo hΓ ?_;conv=>whnf
  obtain rfl:i=l.length:=by omega
  rw[List.take_length];exact h
def aP:List UInt64:=[0x428a2f98d728ae22,0x7137449123ef65cd,0xb5c0fbcfec4d3b2f,0xe9b5dba58189dbbc,0x3956c25bf348b538,0x59f111f1b605d019,0x923f82a4af194f9b,0xab1c5ed5da6d8118,
 0xd807aa98a3030242,0x12835b0145706fbe,0x243185be4ee4b28c,0x550c7dc3d5ffb4e2,0x72be5d74f27b896f,0x80deb1fe3b1696b1,0x9bdc06a725c71235,0xc19bf174cf692694,
 0xe49b69c19ef14ad2,0xefbe4786384f25e3,0x0fc19dc68b8cd5b5,0x240ca1cc77ac9c65,0x2de92c6f592b0275,0x4a7484aa6ea6e483,0x5cb0a9dcbd41fbd4,0x76f988da831153b5,
 0x983e5152ee66dfab,0xa831c66d2db43210,0xb00327c898fb213f,0xbf597fc7beef0ee4,0xc6e00bf33da88fc2,0xd5a79147930aa725,0x06ca6351e003826f,0x142929670a0e6e70,
 0x27b70a8546d22ffc,0x2e1b21385c26c926,0x4d2c6dfc5ac42aed,0x53380d139d95b3df,0x650a73548baf63de,0x766a0abb3c77b2a8,0x81c2c92e47edaee6,0x92722c851482353b,
 0xa2bfe8a14cf10364,0xa81a664bbc423001,0xc24b8b70d0f89791,0xc76c51a30654be30,0xd192e819d6ef5218,0xd69906245565a910,0xf40e35855771202a,0x106aa07032bbd1b8,
 0x19a4c116b8d2d0c8,0x1e376c085141ab53,0x2748774cdf8eeb99,0x34b0bcb5e19b48a8,0x391c0cb3c5c95a63,0x4ed8aa4ae3418acb,0x5b9cca4f7763e373,0x682e6ff3d6b2b8a3,
 0x748f82ee5defb2fc,0x78a5636f43172f60,0x84c87814a1f0ab72,0x8cc702081a6439ec,0x90befffa23631e28,0xa4506cebde82bde9,0xbef9a3f7b2c67915,0xc67178f2e372532b,
 0xca273eceea26619c,0xd186b8c721c0c207,0xeada7dd6cde0eb1e,0xf57d4f7fee6ed178,0x06f067aa72176fba,0x0a637dc5a2c898a6,0x113f9804bef90dae,0x1b710b35131c471b,
 0x28db77f523047d84,0x32caab7b40c72493,0x3c9ebe0a15c9bebc,0x431d67c49c100d4c,0x4cc5d4becb3e42b6,0x597f299cfc657e2a,0x5fcb6fab3ad6faec,0x6c44198c4a475817]
def J8:List UInt64:=[0x6a09e667f3bcc908,0xbb67ae8584caa73b,0x3c6ef372fe94f82b,0xa54ff53a5f1d36f1,0x510e527fade682d1,0x9b05688c2b3e6c1f,0x1f83d9abfb41bd6b,0x5be0cd19137e2179]
def wV(w:Nat→UInt64):Nat→V:=fun k=>u64 (w k)
def gw(l:List UInt64):Nat→UInt64:=fun k=>l.getD k 0
def AKz:A7:=Iq (fun(a:Unit)=>[]) (fun _=>True) (fun a=> .imm false 1 80 (wV (gw aP)))
theorem fO:FOk Tryz.prog [] 232 AKz:=Fz fun a _=>by
 have hΓ:=Ad Tryz.f232.ntmps _ _ (FL.all .nil) (HL.all .nil);refine Aw hΓ Tryz.func232 ?_;conv=>whnf
 repeat' ((first|apply Ap<;>intro _|apply An)<;>conv=>whnf)
 ·exact⟨by omega⟩
 ·refine⟨?_⟩;repeat(refine A0 trivial ?_)
  exact A9
 ·refine Ld.imm ?_;repeat(refine A0 rfl ?_)
  exact A9
def sg0(x:UInt64):UInt64:=Gf x (-1)^^^Gf x (-8)^^^x>>>7
def sg1(y:UInt64):UInt64:=Gf y (-19)^^^Gf y (-61)^^^y>>>6
def lP(w:Nat→UInt64)(i:Nat):UInt64:=w (i - 16)+sg0 (w (i - 15))+w (i - 7)+sg1 (w (i - 2))
def sp(p:List UInt8):Nat→Nat→UInt64
 |0=>fun _=>0
 |i+1=>fun k=>if k=i then(if i<16 then Fe ((p.drop (8*i)).take 8)else lP (sp p i) i)else sp p i k
theorem ADh(x:UInt64):Bt .u64 (x.toNat:Nat) 7=((x>>>7).toNat:Nat):=Q8 x 7 (by decide)
theorem ADg(x:UInt64):Bt .u64 (x.toNat:Nat) 6=((x>>>6).toNat:Nat):=Q8 x 6 (by decide)
def AL0:A7:=Iq (fun(a:By)=>[a.v]) (fun a=>a.ok∧a.l.length=128) (fun a=> .row 1 80 (wV (sp a.l 80)))
theorem fQ:FOk Tryz.prog [] 233 AL0:=Bj fun a ⟨ha,hn⟩ Φ h=>by
 refine CP.by1 ha ?_;generalize a.l=l at h hn;have hΓ:=Ad Tryz.f233.ntmps _ _ (FL.all (.cons Mc (.cons fT .nil))) (HL.all .nil);refine Aw hΓ Tryz.func233 ?_;conv=>whnf
 refine A4 (ι:=Nat) (fun i=>[(0,Bl a.b l),(2, .ref 0 []),(3, .ref 1 []),(9, .int .i64 (i:Nat))]) (fun i=>[some (.row 1 80 (wV (sp l 0))),some (.row 1 80 (wV (sp l i)))]) (fun i=>i≤80) (fun i=>80 - i) 0 [some 0,some 1] ?_ (fun i hi=>vo hΓ ?_)
 ·conv=>whnf
  repeat' ((first|apply Ap<;>intro _|apply An)<;>conv=>whnf)
  all_goals try first|exact⟨Ah⟩|exact⟨fun k _=>Aa _ trivial⟩
 ·conv=>whnf
  repeat' ((first|apply Ap<;>intro _|apply An)<;>conv=>whnf)
  all_goals(try simp only[decide_eq_true_eq,decide_eq_false_iff_not,Int.toNat_natCast,Bool.not_eq_true,Bool.not_eq_false]at*)
  all_goals try exact⟨Ah⟩
  ·exact⟨⟨by rw[IntKind.wrap_i64];omega,by rw[IntKind.wrap_i64,IntKind.wrap_i64];omega,by rw[IntKind.wrap_i64,IntKind.wrap_i64];omega⟩⟩
  ·have e1:(IntKind.i64.wrap (8*(i:Int))).toNat=8*i:=by rw[IntKind.wrap_i64];omega
   have e2:(IntKind.i64.wrap (IntKind.i64.wrap (8*(i:Int))+8)).toNat - (IntKind.i64.wrap (8*(i:Int))).toNat=8:=by rw[IntKind.wrap_i64,IntKind.wrap_i64];omega
   refine⟨.imm _ _ _,rfl,⟨fun k hk=>Dz _ _,?_⟩,?_⟩
   ·simp only[By.l,Eb];omega
   conv=>whnf
   repeat' ((first|apply Ap<;>intro _|apply An)<;>conv=>whnf)
   all_goals try exact⟨Ah⟩
   ·refine⟨i+1,[some 0,some 1],?_⟩;conv=>whnf
    repeat' (apply An<;>conv=>whnf)
    all_goals try first|exact⟨Ah⟩|exact⟨fun k _=>Aa _ trivial⟩
    ·exact⟨by rw[A3 (by omega) (by omega)];rfl⟩
    ·refine⟨fun k hk=>A5 ?_ trivial⟩
     by_cases hki:k=i
     ·refine(if_pos hki).trans ?_
      show V.int .u64 _=_
      simp only[wV,u64,sp,if_pos hki,By.l];rw[if_pos (by omega),e2,e1,Em _ _ _ (by omega)]
     ·refine(if_neg hki).trans ?_;simp only[wV,sp,if_neg hki]
  ·exact⟨⟨by rw[IntKind.wrap_i64];omega,by rw[IntKind.wrap_i64];omega⟩⟩
  ·exact⟨by rw[IntKind.wrap_i64];omega⟩
  ·exact⟨⟨by rw[IntKind.wrap_i64];omega,by rw[IntKind.wrap_i64];omega⟩⟩
  ·exact⟨by rw[IntKind.wrap_i64];omega⟩
  ·refine⟨(_,_),rfl,⟨trivial⟩,?_⟩;conv=>whnf
   refine⟨(_,_),rfl,⟨trivial⟩,?_⟩;conv=>whnf
   refine And.intro (show Ob (_≤_)from⟨by decide⟩) ?_;conv=>whnf
   refine⟨(_,_),rfl,⟨trivial⟩,?_⟩;conv=>whnf
   refine⟨(_,_),rfl,⟨trivial⟩,?_⟩;conv=>whnf
   repeat' ((first|apply Ap<;>intro _|apply An)<;>conv=>whnf)
   all_goals try exact⟨Ah⟩
   ·exact⟨⟨by rw[IntKind.wrap_i64];omega,by rw[IntKind.wrap_i64];omega⟩⟩
   ·exact⟨by rw[IntKind.wrap_i64];omega⟩
   ·exact⟨⟨by rw[IntKind.wrap_i64];omega,by rw[IntKind.wrap_i64];omega⟩⟩
   ·exact⟨by rw[IntKind.wrap_i64];omega⟩
   refine⟨i+1,[some 0,some 1],?_⟩;conv=>whnf
   repeat' (apply An<;>conv=>whnf)
   all_goals try first|exact⟨Ah⟩|exact⟨fun k _=>Aa _ trivial⟩
   ·exact⟨by rw[A3 (by omega) (by omega)];rfl⟩
   ·refine⟨fun k hk=>A5 ?_ trivial⟩
    by_cases hki:k=i
    ·refine(if_pos hki).trans ?_
     show V.int .u64 _=_
     have e2:(IntKind.i64.wrap ((i:Int) - 2)).toNat=i - 2:=by rw[IntKind.wrap_i64];omega
     have e7:(IntKind.i64.wrap ((i:Int) - 7)).toNat=i - 7:=by rw[IntKind.wrap_i64];omega
     have e15:(IntKind.i64.wrap ((i:Int) - 15)).toNat=i - 15:=by rw[IntKind.wrap_i64];omega
     have e16:(IntKind.i64.wrap ((i:Int) - 16)).toNat=i - 16:=by rw[IntKind.wrap_i64];omega
     simp only[e2,e7,e15,e16,P2,ADh,ADg,Ly,wV,u64,sp,if_pos hki];rw[if_neg (by omega)];rfl
    ·refine(if_neg hki).trans ?_;simp only[wV,sp,if_neg hki]
  refine vo hΓ ?_;conv=>whnf
  repeat' (apply An<;>conv=>whnf)
  ·exact⟨fun k _=>trivial⟩
  obtain rfl:i=80:=by omega
  exact h
theorem Zv(x:UInt64):Ag .xor .u64 (if IntKind.u64.signed=true then -1 else IntKind.u64.max) (x.toNat:Nat)=((~~~x).toNat:Nat):=ADd x
def AC1(v:Nat→UInt64)(k w:UInt64):UInt64:=
 v 7+(Gf (v 4) (-14)^^^Gf (v 4) (-18)^^^Gf (v 4) (-41))+((v 4&&&v 5)^^^(~~~(v 4)&&&v 6))+k+w
def AOs(v:Nat→UInt64):UInt64:=
 (Gf (v 0) (-28)^^^Gf (v 0) (-34)^^^Gf (v 0) (-39))+((v 0&&&v 1)^^^(v 0&&&v 2)^^^(v 1&&&v 2))
def ACx(v:Nat→UInt64)(k w:UInt64):Nat→UInt64
 |0=>AC1 v k w+AOs v
 |1=>v 0
 |2=>v 1
 |3=>v 2
 |4=>v 3+AC1 v k w
 |5=>v 4
 |6=>v 5
 |_=>v 6
def wS(w h:Nat→UInt64):Nat→Nat→UInt64
 |0=>h
 |i+1=>ACx (wS w h i) (gw aP i) (w i)
def Ho(h:Nat→UInt64)(p:List UInt8):Nat→UInt64:=fun k=>h k+wS (sp p 80) h 80 k
def F87:A7:=Iq (fun(a:(Nat→UInt64)×By)=>[.row 1 8 (wV a.1),a.2.v]) (fun a=>a.2.ok∧a.2.l.length=128) (fun a=> .row 1 8 (wV (Ho a.1 a.2.l)))
theorem fW:FOk Tryz.prog [] 186 F87:=Fz fun a ⟨ha,hn⟩=>by
 refine CP.by2 ha ?_;generalize a.2.l=l at hn;obtain⟨h,a⟩:=a;have hΓ:=Ad Tryz.f186.ntmps _ _ (FL.all (.cons fO (.cons fQ (.cons Mc .nil)))) (HL.all .nil);refine Aw hΓ Tryz.func186 ?_;conv=>whnf
 repeat' ((first|apply Ap<;>intro _|apply An)<;>conv=>whnf)
 all_goals try exact⟨Ah⟩
 refine⟨(),rfl,⟨trivial⟩,?_⟩;conv=>whnf
 refine⟨.of _ _,rfl,⟨trivial,hn⟩,?_⟩;conv=>whnf
 refine A4 (ι:=Nat) (fun i=>[(2, .ref 0 []),(4, .ref 1 []),(5, .ref 2 []),(6, .imm false 1 80 (wV (gw aP))),(19, .row 1 80 (wV (sp l 80))),(20, .int .i64 (i:Nat))]) (fun i=>[some (.row 1 8 (wV h)),some (.row 1 8 fun _=>u64 0),some (.row 1 8 (wV (wS (sp l 80) h i)))]) (fun i=>i≤80) (fun i=>80 - i) 0 [some 0,some 1,some 2] ?_ (fun i hi=>vo hΓ ?_)
 ·conv=>whnf
  repeat' ((first|apply Ap<;>intro _|apply An)<;>conv=>whnf)
  all_goals try first|exact⟨Ah⟩|exact⟨fun k _=>Aa _ trivial⟩
 ·conv=>whnf
  repeat' ((first|apply Ap<;>intro _|apply An)<;>conv=>whnf)
  all_goals(try simp only[decide_eq_true_eq,decide_eq_false_iff_not,Int.toNat_natCast,Bool.not_eq_true,Bool.not_eq_false]at*)
  all_goals try exact⟨Ah⟩
  ·refine⟨(_,_),rfl,⟨trivial⟩,?_⟩;conv=>whnf
   refine⟨(_,_),rfl,⟨trivial⟩,?_⟩;conv=>whnf
   refine⟨(_,_),rfl,⟨trivial⟩,?_⟩;conv=>whnf
   repeat' ((first|apply Ap<;>intro _|apply An)<;>conv=>whnf)
   all_goals try exact⟨Ah⟩
   refine⟨(_,_),rfl,⟨trivial⟩,?_⟩;conv=>whnf
   refine⟨(_,_),rfl,⟨trivial⟩,?_⟩;conv=>whnf
   refine⟨(_,_),rfl,⟨trivial⟩,?_⟩;conv=>whnf
   repeat' ((first|apply Ap<;>intro _|apply An)<;>conv=>whnf)
   all_goals try exact⟨Ah⟩
   refine⟨i+1,[some 0,some 1,some 2],?_⟩;conv=>whnf
   repeat' (apply An<;>conv=>whnf)
   all_goals try exact⟨Ah⟩
   all_goals try exact⟨fun k _=>Aa _ trivial⟩
   ·exact⟨by rw[A3 (by omega) (by omega)];rfl⟩
   ·refine⟨lt8 ?_ ?_ ?_ ?_ ?_ ?_ ?_ ?_⟩;all_goals refine A5 ?_ trivial
    all_goals show V.int .u64 _=V.int .u64 _
    all_goals(try simp only[P2,mZ,Zv,Ly])
    all_goals exact rfl
  refine vo hΓ ?_;conv=>whnf
  refine A4 (ι:=Nat) (fun j=>[(2, .ref 0 []),(4, .ref 1 []),(5, .ref 2 []),(102, .int .i64 (j:Nat))]) (fun j=>[some (.row 1 8 (wV fun k=>if k<j then Ho h l k else h k)),some (.row 1 8 fun _=>u64 0),some (.row 1 8 (wV (wS (sp l 80) h 80)))]) (fun j=>j≤8) (fun j=>8 - j) 0 [some 0,some 1,some 2] ?_ (fun i hi=>vo hΓ ?_)
  ·conv=>whnf
   repeat' ((first|apply Ap<;>intro _|apply An)<;>conv=>whnf)
   all_goals try exact⟨Ah⟩
   ·obtain rfl:i=80:=by omega
    exact⟨fun k _=>Aa _ trivial⟩
  ·rename_i hi0;clear hi hi0;conv=>whnf
   repeat' ((first|apply Ap<;>intro _|apply An)<;>conv=>whnf)
   all_goals(try simp only[decide_eq_true_eq,decide_eq_false_iff_not,Int.toNat_natCast,Bool.not_eq_true,Bool.not_eq_false]at*)
   all_goals try exact⟨Ah⟩
   ·refine⟨i+1,[some 0,some 1,some 2],?_⟩;conv=>whnf
    repeat' (apply An<;>conv=>whnf)
    all_goals try exact⟨Ah⟩
    all_goals try exact⟨fun k _=>Aa _ trivial⟩
    ·exact⟨by rw[A3 (by omega) (by omega)];rfl⟩
    ·refine⟨fun k hk=>A5 ?_ trivial⟩
     by_cases hki:k=i
     ·refine(if_pos hki).trans ?_
      show V.int .u64 _=_
      simp only[Ly,if_neg (Nat.lt_irrefl i),wV,if_pos (show k<i+1 by omega)];subst hki;rfl
     ·refine(if_neg hki).trans ?_;simp only[wV]
      by_cases h2:k<i
      ·rw[if_pos h2,if_pos (by omega)]
      ·rw[if_neg h2,if_neg (by omega)]
   refine vo hΓ ?_;conv=>whnf
   repeat' (apply An<;>conv=>whnf)
   ·exact⟨fun k _=>trivial⟩
   refine Ld.row fun k hk=>?_;simp only[wV];rw[if_pos (by omega)]
def F84:A7:=Bf (fun(a:UInt64×Int)=>[u64 a.1, .int .i64 a.2]) (fun _=>True) (fun a=>Gf a.1 (IntKind.i64.wrap (0 - a.2))) u64
def xP:A7:=Bf (fun(a:UInt64×Int)=>[u64 a.1, .int .i64 a.2]) (fun _=>True) (fun a=>Gf a.1 a.2) u64
theorem Xq:FOk Tryz.prog [] 200 xP:=Ge Mc
theorem oS:FOk Tryz.prog [] 153 F84:=A8 fun a _=>by
 have hΓ:=Ad Tryz.f153.ntmps _ _ (FL.all (.cons Xq .nil)) (HL.all .nil);refine Aw hΓ Tryz.func153 ?_;conv=>whnf
 repeat' ((first|apply Ap<;>intro _|apply An)<;>conv=>whnf)
 refine⟨(a.1,IntKind.i64.wrap (0 - a.2)),⟨AE.refl _,AE.refl _,trivial⟩,⟨trivial⟩,?_⟩;intro r hr;conv=>whnf
 repeat' ((first|apply Ap<;>intro _|apply An)<;>conv=>whnf)
 rw[hr];exact Ld.refl _
def F82:A7:=Bf (fun(a:Unit)=>[]) (fun _=>True) (fun _=>aP) (fun r=> .row 1 80 (wV (gw r)))
theorem oQ:FOk Tryz.prog [] 152 F82:=A8 fun a _=>by
 have hΓ:=Ad Tryz.f152.ntmps _ _ (FL.all .nil) (HL.all .nil);refine Aw hΓ Tryz.func152 ?_;conv=>whnf
 repeat' ((first|apply Ap<;>intro _|apply An)<;>conv=>whnf)
 ·refine⟨?_⟩;repeat(refine A0 trivial ?_)
  exact A9
 ·refine Ld.row ?_;repeat(refine A0 rfl ?_)
  exact A9
def Hy(h:Nat→UInt64)(l:List UInt8):Nat→Nat→UInt64|0=>h|j+1=>Ho (Hy h l j) ((l.drop (128*j)).take 128)
def Ac(n:Nat):Nat:=(239 - n%128)%128
def Vc(n k:Nat):UInt8:=UInt8.ofNat (n*8/2^(8*k))
def G7(n:Nat):Nat→List UInt8|0=>[]|k+1=>G7 n k++[Vc n (15 - k)]
def Cg(rest:List UInt8)(n:Nat):List UInt8:=rest++[128]++List.replicate (Ac rest.length) 0++G7 n 16
def Vd(h:Nat→UInt64)(k:Nat):UInt8:=UInt8.ofNat (h (k/8)>>>UInt64.ofNat (56 - 8*(k%8))).toNat
def Og(h:Nat→UInt64):List UInt8:=(List.range 64).map (Vd h)
theorem Co(n:Nat):∀k,(G7 n k).length=k
 |0=>rfl
 |k+1=>by simp[G7,Co n k]
theorem Ck(rest:List UInt8)(n:Nat):(Cg rest n).length=rest.length+1+Ac rest.length+16:=by
 simp[Cg,Co];omega
theorem Ps(h:Nat→UInt64){k:Nat}(hk:k<64):bf (Og h) k= .int .u8 ((Vd h k).toNat:Nat):=by
 simp[bf,Og,List.getD_eq_getElem?_getD,hk]
def ob(h:Nat→UInt64)(j k:Nat):UInt8:=if k<j then Vd h k else 0
theorem S8(l:List UInt8):(Cg l l.length).length=128*((Cg l l.length).length/128):=by
 rw[Ck];simp only[Ac];omega
def sha(l:List UInt8):List UInt8:=Og (Hy (gw J8) (Cg l l.length) ((Cg l l.length).length/128))
theorem Wo(l:List UInt8)(q:Nat)(hq:(Cg l l.length).length=128*q):sha l=Og (Hy (gw J8) (Cg l l.length) q):=by
 rw[sha,hq,Nat.mul_div_cancel_left _ (by decide)]
theorem sha_length(l:List UInt8):(sha l).length=64:=by simp[sha,Og]
def F83:A7:=Bf (fun(a:By)=>[a.v, .int .i64 128, .int .i64 16]) pR (fun a=>Cg a.l a.l.length) (Bl false)
theorem Tv{n i:Nat}(hn:n≤1000000)(h8:8≤i)(hi:i<16):IntKind.u8.wrap (Bt .u64 (n*8:Nat) (IntKind.u64.wrap (8*IntKind.u64.wrap (15 - (i:Int)))))=((Vc n (15 - i)).toNat:Nat):=by
 have h3:(IntKind.u64.wrap (8*IntKind.u64.wrap (15 - (i:Int)))).toNat=8*(15 - i):=by rw[IntKind.wrap_u64,IntKind.wrap_u64];omega
 simp only[Bt,h3,IntKind.bits];rw[Nat.min_eq_left (by omega),Int.fdiv_eq_ediv_of_nonneg _ (by exact Int.le_of_lt (Int.pow_pos (by decide))),IntKind.wrap_u8,Vc,UInt8.toNat_ofNat']
 have:(((n*8:Nat):Int)/2^(8*(15 - i)))=((n*8/2^(8*(15 - i)):Nat):Int):=by simp
 rw[this];omega
theorem lK{n i:Nat}(hn:n≤1000000)(h8:i<8):Vc n (15 - i)=0:=by
 have h:(2:Nat)^64≤2^(8*(15 - i)):=Nat.pow_le_pow_right (by decide) (by omega);rw[Vc,Nat.div_eq_of_lt (by omega)];rfl
theorem Gs(n:Nat):Ac n<128:=Nat.mod_lt _ (by decide)
theorem oR:FOk Tryz.prog [] 74 F83:=A8 fun a ⟨ha,hn⟩=>by
 refine CP.by1 ha ?_;generalize a.l=l at hn;generalize a.b=b;have hΓ:=Ad Tryz.f74.ntmps _ _ (FL.all .nil) (HL.all .nil);refine Aw hΓ Tryz.func74 ?_;conv=>whnf
 repeat' ((first|apply Ap<;>intro _|apply An)<;>conv=>whnf)
 all_goals try exact⟨Bc⟩
 refine Or.inl ?_;conv=>whnf
 repeat' ((first|apply Ap<;>intro _|apply An)<;>conv=>whnf)
 all_goals try first|exact⟨Bc⟩|exact⟨⟨by show l.length*1≤_;omega,by omega⟩⟩
 refine Or.inl ?_;conv=>whnf
 repeat' ((first|apply Ap<;>intro _|apply An)<;>conv=>whnf)
 ·exact⟨rfl⟩
 ·exact⟨⟨by show(l.length+1)*1≤_;omega,by omega⟩⟩
 have hz:=Gs l.length;refine A4 (ι:=Nat) (fun i=>[(0,Bl b l),(1, .int .i64 128),(2, .int .i64 16),(7, .sl 0 [] 1 0 (l.length+1+i) (l.length+1+i))]) (fun i=>[some (.row 1 (l.length+1+i) (bf (l++[128]++List.replicate i 0)))]) (fun i=>i≤Ac l.length) (fun i=>Ac l.length - i) 0 [some 2] ?_ (fun i hi=>vo hΓ ?_)
 ·conv=>whnf
  repeat' ((first|apply Ap<;>intro _|apply An)<;>conv=>whnf)
  all_goals try exact⟨Ah⟩
  ·refine⟨?_⟩;simp only[List.replicate_zero,List.append_nil];refine F0 (fun k hk=>?_) ?_
   ·refine(if_pos hk).trans ?_;rfl
   ·exact(if_neg (Nat.lt_irrefl _)).trans (by rw[Nat.sub_self];rfl)
 ·have hll:(l++[128]++List.replicate i 0).length=l.length+1+i:=by simp;omega
  have wl:IntKind.i64.wrap (((l.length+1+i:Nat):Int)+16)=((l.length+1+i+16:Nat):Int):=by rw[A3 (by omega) (by omega)];omega
  have wm:IntKind.i64.wrap (((l.length+1+i+16:Nat):Int).tmod 128)=(((l.length+1+i+16)%128:Nat):Int):=by rw[Int.tmod_eq_emod_of_nonneg (by omega),A3 (by omega) (by omega)];omega
  conv=>whnf
  repeat' ((first|apply Ap<;>intro _|apply An)<;>conv=>whnf)
  ·exact⟨by decide⟩
  ·exact⟨by omega⟩
  ·rename_i g1
   have hi2:i<Ac l.length:=by
    rcases Nat.lt_or_ge i (Ac l.length)with h|h
    ·exact h
    ·exfalso
     have:i=Ac l.length:=by omega
     rw[wl,Int.tmod_eq_emod_of_nonneg (by omega)]at g1;simp only[bne_iff_ne,ne_eq]at g1;simp only[Ac]at this;omega
   refine Or.inl ?_;conv=>whnf
   repeat' ((first|apply Ap<;>intro _|apply An)<;>conv=>whnf)
   all_goals try first|exact⟨Bc⟩|exact⟨⟨by show(l.length+1+i+1)*1≤_;omega,by omega⟩⟩
   refine⟨i+1,[some 2],?_⟩;conv=>whnf
   repeat' (apply An<;>conv=>whnf)
   all_goals try exact⟨Ah⟩
   ·refine⟨?_⟩
    show∀k,k<l.length+1+i+1→_
    rw[Fj,←List.append_assoc,←hll];refine F0 (fun k hk=>?_) ?_
    ·exact if_pos (by omega)
    ·exact(if_neg (by omega)).trans (by rw[hll,Nat.sub_self];rfl)
   all_goals exact⟨⟨by omega,by omega⟩⟩
  ·rename_i g1
   have hi2:i=Ac l.length:=by
    rw[wl,Int.tmod_eq_emod_of_nonneg (by omega)]at g1;simp only[bne_eq_false_iff_eq]at g1;have h:=hi;simp only[Ac]at h⊢;omega
   subst hi2;have hM:(Cg l l.length).length=l.length+1+Ac l.length+16:=Ck _ _;refine vo hΓ ?_;conv=>whnf
   refine A4 (ι:=Nat) (fun j=>[(7, .sl 0 [] 1 0 (l.length+1+Ac l.length+j) (l.length+1+Ac l.length+j)),(8, .int .u64 (l.length*8:Nat)),(9, .int .i64 (15 - (j:Nat)))]) (fun j=>[some (.row 1 (l.length+1+Ac l.length+j) (bf (l++[128]++List.replicate (Ac l.length) 0++G7 l.length j)))]) (fun j=>j≤16) (fun j=>16 - j) 0 [some 0] ?_ (fun i hi=>vo hΓ ?_)
   ·conv=>whnf
    repeat' ((first|apply Ap<;>intro _|apply An)<;>conv=>whnf)
    all_goals try exact⟨Ah⟩
    ·refine⟨?_⟩;rw[IntKind.wrap_u64,IntKind.wrap_u64];omega
    ·refine⟨fun k hk=>A5 ?_ trivial⟩;simp only[G7,List.append_nil]
   ·rename_i hi0;have hll2:(l++[128]++List.replicate (Ac l.length) 0++G7 l.length i).length=l.length+1+Ac l.length+i:=by simp[Co];omega
    conv=>whnf
    apply Ap<;>intro h1<;>conv=>whnf
    ·have hi8:i<16:=by
      have:(0:Int)≤15 - (i:Nat):=by simpa using h1
      omega
     conv=>whnf
     apply Ap<;>intro h2<;>conv=>whnf
     ·have hi7:i<8:=by
       have:(8:Int)≤15 - (i:Nat):=by simpa using h2
       omega
      conv=>whnf
      repeat' ((first|apply Ap<;>intro _|apply An)<;>conv=>whnf)
      ·exact⟨by omega⟩
      refine Or.inl ?_;conv=>whnf
      repeat' ((first|apply Ap<;>intro _|apply An)<;>conv=>whnf)
      all_goals try first|exact⟨Bc⟩|exact⟨⟨by show(l.length+1+Ac l.length+i+1)*1≤_;omega,by omega⟩⟩
      refine⟨i+1,[some 2],?_⟩;conv=>whnf
      repeat' (apply An<;>conv=>whnf)
      all_goals try exact⟨Ah⟩
      ·exact⟨by rw[A3 (by omega) (by omega)];omega⟩
      ·refine⟨?_⟩
       show∀k,k<l.length+1+Ac l.length+i+1→_
       simp only[G7];rw[←List.append_assoc,←hll2];refine F0 (fun k hk=>?_) ?_
       ·exact if_pos (by omega)
       ·refine(if_neg (by omega)).trans ?_;rw[hll2,Nat.sub_self]
        show V.int .u8 _=_
        rw[lK hn hi7];rfl
     ·have hi7:8≤i:=by
       have:¬(8:Int)≤15 - (i:Nat):=by simpa using h2
       omega
      conv=>whnf
      repeat' ((first|apply Ap<;>intro _|apply An)<;>conv=>whnf)
      ·exact⟨by rw[IntKind.wrap_u64];omega⟩
      ·exact⟨by omega⟩
      refine Or.inl ?_;conv=>whnf
      repeat' ((first|apply Ap<;>intro _|apply An)<;>conv=>whnf)
      all_goals try first|exact⟨Bc⟩|exact⟨⟨by show(l.length+1+Ac l.length+i+1)*1≤_;omega,by omega⟩⟩
      refine⟨i+1,[some 2],?_⟩;conv=>whnf
      repeat' (apply An<;>conv=>whnf)
      all_goals try exact⟨Ah⟩
      ·exact⟨by rw[A3 (by omega) (by omega)];omega⟩
      ·refine⟨?_⟩
       show∀k,k<l.length+1+Ac l.length+i+1→_
       simp only[G7];rw[←List.append_assoc,←hll2];refine F0 (fun k hk=>?_) ?_
       ·exact if_pos (by omega)
       ·refine(if_neg (by omega)).trans ?_;rw[hll2,Nat.sub_self]
        show V.int .u8 _=_
        rw[Tv hn hi7 hi8]
    ·have hi8:i=16:=by
      have:¬(0:Int)≤15 - (i:Nat):=by simpa using h1
      omega
     subst hi8;refine vo hΓ ?_;conv=>whnf
     repeat' (apply An<;>conv=>whnf)
     ·exact⟨by omega⟩
     ·exact⟨fun k _=>Bg _ _⟩
     ·rw[Bl,hM];exact Ld.imm fun k hk=>by rw[Nat.zero_add];rfl
theorem Si(p:List UInt8):∀i k,i≤k→sp p i k=0
 |0,k,_=>rfl
 |i+1,k,h=>by
  simp only[sp];rw[if_neg (by omega)];exact Si p i k (by omega)
theorem Th(l:List UInt8)(c:UInt8):Fe (l++[c])=Fe l<<<8|||UInt64.ofNat c.toNat:=by
 simp[Fe]
theorem Uf(x:UInt64)(c:UInt8):Ag .or .u64 (Ch .u64 (x.toNat:Nat) 8) (IntKind.u64.wrap (c.toNat:Nat))=((x<<<8|||UInt64.ofNat c.toNat).toNat:Nat):=by
 have hc:=c.toNat_lt;have h1:(UInt64.ofNat c.toNat).toNat=c.toNat:=by rw[UInt64.toNat_ofNat'];omega
 rw[←ADe,←Zw,h1,IntKind.wrap_u64]
 congr 1
 omega
theorem Ti(P:List UInt8){i t m q:Nat}(hP:P.length=128*q)(hi:i<q)(hm:m<8)(ht:t<16):
  Fe ((((P.drop (128*i)).take 128).drop (8*t)).take (m+1))=Fe ((((P.drop (128*i)).take 128).drop (8*t)).take m)<<<8|||UInt64.ofNat (P.getD (128*i+8*t+m) 0).toNat:=by
 have hl:m<(((P.drop (128*i)).take 128).drop (8*t)).length:=by simp;omega
 rw[List.take_succ_eq_append_getElem hl,Th]
 congr 2
 have hl2:128*i+(8*t+m)<P.length:=by omega
 simp[List.getD_eq_getElem?_getD,hl2,Nat.add_assoc]
theorem ALn(a b c d:UInt64):a+b+c+d=a+c+b+d:=by rw[UInt64.add_assoc a b c,UInt64.add_comm b c,←UInt64.add_assoc]
def I5(P:List UInt8)(j:Nat):List UInt8:=(P.drop (128*j)).take 128
def F50:A7:=Bf (fun(a:By)=>[a.v]) pR (fun a=>sha a.l) (arrV 64)
set_option maxHeartbeats 4000000 in
theorem f50_ok:FOk Tryz.prog [] 111 F50:=A8 fun a ⟨ha,hn⟩=>by
 refine CP.by1 ha ?_;generalize a.l=l at hn;generalize a.b=b
 show CP _ _ _ [Bl b l] fun v=>Ld v (arrV 64 (sha l))
 obtain⟨q,hq⟩:∃q,(Cg l l.length).length=128*q:=⟨_,S8 l⟩;have hz:=Gs l.length;have hq2:q≤10000:=by rw[Ck]at hq;omega
 rw[Wo l q hq];have hΓ:=Ad Tryz.f111.ntmps _ _ (FL.all (.cons oQ (.cons oR (.cons oS .nil)))) (HL.all .nil);refine Aw hΓ Tryz.func111 ?_;conv=>whnf
 refine⟨(),trivial,⟨trivial⟩,?_⟩;intro kk hkk;replace hkk:kk=aP:=hkk;subst hkk;conv=>whnf
 repeat' ((first|apply Ap<;>intro _|apply An)<;>conv=>whnf)
 all_goals try exact⟨Ah⟩
 refine⟨.of b l,⟨AE.refl _,AE.refl _,AE.refl _,trivial⟩,⟨trivial,hn⟩,?_⟩;intro P hP;replace hP:P=Cg l l.length:=hP;rw[←hP]at hq⊢;conv=>whnf
 refine A4 (ι:=Nat) (fun j=>[(2, .ref 0 []),(3, .ref 1 []),(4, .ref 2 []),(5,Bl false P),(6, .int .i64 (128*j:Nat))]) (fun j=>[some (arrV 64 []),some (.row 1 80 (wV (gw aP))),some (.row 1 8 (wV (Hy (gw J8) P j)))]) (fun j=>j≤q) (fun j=>q - j) 0 [some 0,some 1,some 2] ?_ (fun i hi=>vo hΓ ?_)
 ·conv=>whnf
  repeat' ((first|apply Ap<;>intro _|apply An)<;>conv=>whnf)
  all_goals try exact⟨Ba⟩
  ·exact⟨lt8 (A5 rfl trivial) (A5 rfl trivial) (A5 rfl trivial) (A5 rfl trivial) (A5 rfl trivial) (A5 rfl trivial) (A5 rfl trivial) (A5 rfl trivial)⟩
 conv=>whnf
 apply Ap<;>intro h1<;>conv=>whnf
 ·have hj:i<q:=by
   have:((128*i:Nat):Int)<(P.length:Nat):=by simpa using h1
   omega
  refine A4 (ι:=Nat) (fun t=>[(2, .ref 0 []),(3, .ref 1 []),(4, .ref 2 []),(5,Bl false P),(6, .int .i64 (128*i:Nat)),(7, .ref 3 []),(8, .int .i64 (t:Nat))]) (fun t=>[some (arrV 64 []),some (.row 1 80 (wV (gw aP))),some (.row 1 8 (wV (Hy (gw J8) P i))),some (.row 1 80 (wV (sp (I5 P i) t)))]) (fun t=>t≤80) (fun t=>80 - t) 0 [some 0,some 1,some 2,some 3] ?_ (fun t ht=>vo hΓ ?_)
  ·conv=>whnf
   repeat' ((first|apply Ap<;>intro _|apply An)<;>conv=>whnf)
   all_goals try exact⟨Ba⟩
  ·conv=>whnf
   apply Ap<;>intro h2<;>conv=>whnf
   ·have ht2:t<80:=by
     have:((t:Nat):Int)<80:=of_decide_eq_true h2
     omega
    conv=>whnf
    apply Ap<;>intro h3<;>conv=>whnf
    ·have ht3:t<16:=by
      have:((t:Nat):Int)<16:=of_decide_eq_true h3
      omega
     refine A4 (ι:=Nat) (fun m=>[(2, .ref 0 []),(3, .ref 1 []),(4, .ref 2 []),(5,Bl false P),(6, .int .i64 (128*i:Nat)),(7, .ref 3 []),(8, .int .i64 (t:Nat)),(9, .int .i64 (m:Nat))]) (fun m=>[some (arrV 64 []),some (.row 1 80 (wV (gw aP))),some (.row 1 8 (wV (Hy (gw J8) P i))),some (.row 1 80 (wV fun k=>if k=t then Fe (((I5 P i).drop (8*t)).take m)else sp (I5 P i) t k))]) (fun m=>m≤8) (fun m=>8 - m) 0 [some 0,some 1,some 2,some 3] ?_ (fun m hm=>vo hΓ ?_)
     ·conv=>whnf
      repeat' ((first|apply Ap<;>intro _|apply An)<;>conv=>whnf)
      all_goals try first|exact⟨Bc⟩|exact⟨fun _ _=>rfl⟩
      ·refine⟨fun k _=>A5 ?_ trivial⟩
       show u64 (sp (I5 P i) t k)=u64 (if k=t then Fe (((I5 P i).drop (8*t)).take 0)else sp (I5 P i) t k)
       by_cases hkt:k=t
       ·rw[if_pos hkt,hkt,Si _ _ _ (Nat.le_refl _)];rfl
       ·rw[if_neg hkt]
     ·have hidx:m<8→IntKind.i64.wrap (IntKind.i64.wrap (((128*i:Nat):Int)+IntKind.i64.wrap (8*(t:Nat)))+(m:Nat))=((128*i+8*t+m:Nat):Int):=fun hm4=>by
       rw[A3 (x:=8*((t:Nat):Int)) (by omega) (by omega),A3 (x:=((128*i:Nat):Int)+8*(t:Nat)) (by omega) (by omega),A3 (by omega) (by omega)];omega
      conv=>whnf
      apply Ap<;>intro h4<;>conv=>whnf
      ·have hm4:m<8:=by
        have:((m:Nat):Int)<8:=of_decide_eq_true h4
        omega
       replace hidx:=hidx hm4;conv=>whnf
       repeat' ((first|apply Ap<;>intro _|apply An)<;>conv=>whnf)
       ·exact⟨by omega⟩
       ·exact⟨by omega⟩
       ·exact⟨by decide⟩
       ·exact⟨by rw[hidx];omega⟩
       ·exact⟨by omega⟩
       ·exact⟨by omega⟩
       refine⟨m+1,[some 0,some 1,some 2,some 3],?_⟩;conv=>whnf
       repeat' (apply An<;>conv=>whnf)
       all_goals try first|exact⟨Ba⟩|exact⟨by rw[A3 (by omega) (by omega)];rfl⟩
       refine⟨fun k hk=>A5 ?_ trivial⟩
       by_cases hkt:k=t
       ·refine(if_pos hkt).trans ?_
        show V.int .u64 (Ag .or .u64 (Ch .u64 (((if t=t then Fe (((I5 P i).drop (8*t)).take m)else sp (I5 P i) t t).toNat:Nat):Int) 8) (IntKind.u64.wrap (((P.getD (IntKind.i64.wrap (IntKind.i64.wrap (((128*i:Nat):Int)+IntKind.i64.wrap (8*(t:Nat)))+(m:Nat))).toNat 0).toNat:Nat):Int)))=u64 (if k=t then Fe (((I5 P i).drop (8*t)).take (m+1))else sp (I5 P i) t k)
        rw[if_pos rfl,if_pos hkt,hidx,Int.toNat_natCast,show Fe (((I5 P i).drop (8*t)).take (m+1))=_ from Ti P hq hj hm4 ht3];exact congrArg (V.int .u64) (Uf _ _)
       ·refine(if_neg hkt).trans ?_
        show u64 (if k=t then Fe (((I5 P i).drop (8*t)).take m)else sp (I5 P i) t k)=u64 (if k=t then Fe (((I5 P i).drop (8*t)).take (m+1))else sp (I5 P i) t k)
        rw[if_neg hkt,if_neg hkt]
      ·have hm4:m=8:=by
        have:¬((m:Nat):Int)<8:=of_decide_eq_false h4
        omega
       subst hm4;refine vo hΓ ?_;conv=>whnf
       refine vo hΓ ?_;conv=>whnf
       refine⟨t+1,[some 0,some 1,some 2,some 3],?_⟩;conv=>whnf
       repeat' (apply An<;>conv=>whnf)
       all_goals try first|exact⟨Ba⟩|exact⟨by rw[A3 (by omega) (by omega)];rfl⟩
       refine⟨fun k hk=>A5 ?_ trivial⟩
       show u64 (if k=t then Fe (((I5 P i).drop (8*t)).take 8)else sp (I5 P i) t k)=u64 (sp (I5 P i) (t+1) k)
       simp only[sp]
       by_cases hkt:k=t
       ·rw[if_pos hkt,if_pos hkt,if_pos ht3]
       ·rw[if_neg hkt,if_neg hkt]
    ·have ht3:¬t<16:=by
      have:¬((t:Nat):Int)<16:=of_decide_eq_false h3
      omega
     have e2:IntKind.i64.wrap ((t:Int) - 2)=((t - 2:Nat):Int):=by rw[IntKind.wrap_i64];omega
     have e7:IntKind.i64.wrap ((t:Int) - 7)=((t - 7:Nat):Int):=by rw[IntKind.wrap_i64];omega
     have e15:IntKind.i64.wrap ((t:Int) - 15)=((t - 15:Nat):Int):=by rw[IntKind.wrap_i64];omega
     have e16:IntKind.i64.wrap ((t:Int) - 16)=((t - 16:Nat):Int):=by rw[IntKind.wrap_i64];omega
     conv=>whnf
     repeat' ((first|apply Ap<;>intro _|apply An)<;>conv=>whnf)
     all_goals try exact⟨by rw[e15];omega⟩
     all_goals try exact⟨by rw[e2];omega⟩
     all_goals try exact⟨by omega⟩
     refine⟨(_,1),⟨AE.refl _,AE.refl _,trivial⟩,⟨trivial⟩,?_⟩;intro r1 g1;conv=>whnf
     repeat' ((first|apply Ap<;>intro _|apply An)<;>conv=>whnf)
     all_goals try exact⟨by omega⟩
     refine⟨(_,8),⟨AE.refl _,AE.refl _,trivial⟩,⟨trivial⟩,?_⟩;intro r2 g2;conv=>whnf
     repeat' ((first|apply Ap<;>intro _|apply An)<;>conv=>whnf)
     all_goals try exact⟨by omega⟩
     refine⟨(_,19),⟨AE.refl _,AE.refl _,trivial⟩,⟨trivial⟩,?_⟩;intro r3 g3;conv=>whnf
     repeat' ((first|apply Ap<;>intro _|apply An)<;>conv=>whnf)
     all_goals try exact⟨by omega⟩
     refine⟨(_,61),⟨AE.refl _,AE.refl _,trivial⟩,⟨trivial⟩,?_⟩;intro r4 g4;conv=>whnf
     repeat' ((first|apply Ap<;>intro _|apply An)<;>conv=>whnf)
     all_goals try exact⟨by omega⟩
     refine⟨t+1,[some 0,some 1,some 2,some 3],?_⟩;conv=>whnf
     repeat' (apply An<;>conv=>whnf)
     all_goals try first|exact⟨Ba⟩|exact⟨by rw[A3 (by omega) (by omega)];rfl⟩
     refine⟨fun k hk=>A5 ?_ trivial⟩
     by_cases hki:k=t
     ·refine(if_pos hki).trans ?_
      show V.int .u64 _=u64 (sp (I5 P i) (t+1) k)
      simp only[P2,ADh,ADg,Ly,u64];refine congrArg (fun x:UInt64=>V.int .u64 (x.toNat:Nat)) ?_;simp only[e2,e15,Int.toNat_natCast]at g1 g2 g3 g4;simp only[sp,if_pos hki,if_neg ht3,lP,g1,g2,g3,g4,e2,e7,e15,e16,Int.toNat_natCast];exact ALn _ _ _ _
     ·refine(if_neg hki).trans ?_
      show u64 (sp (I5 P i) t k)=u64 (sp (I5 P i) (t+1) k)
      simp only[sp,if_neg hki]
   ·have ht2:t=80:=by
     have:¬((t:Nat):Int)<80:=of_decide_eq_false h2
     omega
    subst ht2;refine vo hΓ ?_;conv=>whnf
    refine A4 (ι:=Nat) (fun t=>[(2, .ref 0 []),(3, .ref 1 []),(4, .ref 2 []),(5,Bl false P),(6, .int .i64 (128*i:Nat)),(7, .ref 3 []),(12, .ref 4 []),(13, .int .i64 (t:Nat))]) (fun t=>[some (arrV 64 []),some (.row 1 80 (wV (gw aP))),some (.row 1 8 (wV (Hy (gw J8) P i))),some (.row 1 80 (wV (sp (I5 P i) 80))),some (.row 1 8 (wV (wS (sp (I5 P i) 80) (Hy (gw J8) P i) t)))]) (fun t=>t≤80) (fun t=>80 - t) 0 [some 0,some 1,some 2,some 3,some 4] ?_ (fun t ht=>vo hΓ ?_)
    ·conv=>whnf
     repeat' ((first|apply Ap<;>intro _|apply An)<;>conv=>whnf)
     all_goals try exact⟨Ba⟩
    ·conv=>whnf
     apply Ap<;>intro h5<;>conv=>whnf
     ·have ht5:t<80:=by
       have:((t:Nat):Int)<80:=of_decide_eq_true h5
       omega
      conv=>whnf
      repeat' ((first|apply Ap<;>intro _|apply An)<;>conv=>whnf)
      all_goals try exact⟨by omega⟩
      refine⟨(_,14),⟨AE.refl _,AE.refl _,trivial⟩,⟨trivial⟩,?_⟩;intro r1 g1;conv=>whnf
      repeat' ((first|apply Ap<;>intro _|apply An)<;>conv=>whnf)
      all_goals try exact⟨by omega⟩
      refine⟨(_,18),⟨AE.refl _,AE.refl _,trivial⟩,⟨trivial⟩,?_⟩;intro r2 g2;conv=>whnf
      repeat' ((first|apply Ap<;>intro _|apply An)<;>conv=>whnf)
      all_goals try exact⟨by omega⟩
      refine⟨(_,41),⟨AE.refl _,AE.refl _,trivial⟩,⟨trivial⟩,?_⟩;intro r3 g3;conv=>whnf
      repeat' ((first|apply Ap<;>intro _|apply An)<;>conv=>whnf)
      all_goals try exact⟨by omega⟩
      refine⟨(_,28),⟨AE.refl _,AE.refl _,trivial⟩,⟨trivial⟩,?_⟩;intro r4 g4;conv=>whnf
      repeat' ((first|apply Ap<;>intro _|apply An)<;>conv=>whnf)
      all_goals try exact⟨by omega⟩
      refine⟨(_,34),⟨AE.refl _,AE.refl _,trivial⟩,⟨trivial⟩,?_⟩;intro r5 g5;conv=>whnf
      repeat' ((first|apply Ap<;>intro _|apply An)<;>conv=>whnf)
      all_goals try exact⟨by omega⟩
      refine⟨(_,39),⟨AE.refl _,AE.refl _,trivial⟩,⟨trivial⟩,?_⟩;intro r6 g6;conv=>whnf
      repeat' ((first|apply Ap<;>intro _|apply An)<;>conv=>whnf)
      all_goals try exact⟨by omega⟩
      refine⟨t+1,[some 0,some 1,some 2,some 3,some 4],?_⟩;conv=>whnf
      repeat' (apply An<;>conv=>whnf)
      all_goals try first|exact⟨Ba⟩|exact⟨by rw[A3 (by omega) (by omega)];rfl⟩
      refine⟨lt8 ?_ ?_ ?_ ?_ ?_ ?_ ?_ ?_⟩;all_goals refine A5 ?_ trivial
      all_goals show V.int .u64 _=V.int .u64 _
      all_goals(try simp only[P2,mZ,Zv,Ly])
      ·simp only[g1,g2,g3,g4,g5,g6];exact rfl
      ·exact rfl
      ·exact rfl
      ·exact rfl
      ·simp only[g1,g2,g3];exact rfl
      ·exact rfl
      ·exact rfl
      ·exact rfl
     ·have ht5:t=80:=by
       have:¬((t:Nat):Int)<80:=of_decide_eq_false h5
       omega
      subst ht5;refine vo hΓ ?_;conv=>whnf
      refine A4 (ι:=Nat) (fun t=>[(2, .ref 0 []),(3, .ref 1 []),(4, .ref 2 []),(5,Bl false P),(6, .int .i64 (128*i:Nat)),(12, .ref 3 []),(18, .int .i64 (t:Nat))]) (fun t=>[some (arrV 64 []),some (.row 1 80 (wV (gw aP))),some (.row 1 8 (wV fun k=>if k<t then Ho (Hy (gw J8) P i) (I5 P i) k else Hy (gw J8) P i k)),some (.row 1 8 (wV (wS (sp (I5 P i) 80) (Hy (gw J8) P i) 80)))]) (fun t=>t≤8) (fun t=>8 - t) 0 [some 0,some 1,some 2,some 4] ?_ (fun t ht=>vo hΓ ?_)
      ·conv=>whnf
       repeat' ((first|apply Ap<;>intro _|apply An)<;>conv=>whnf)
       all_goals try exact⟨Ba⟩
      ·conv=>whnf
       apply Ap<;>intro h6<;>conv=>whnf
       ·have ht6:t<8:=by
         have:((t:Nat):Int)<8:=of_decide_eq_true h6
         omega
        conv=>whnf
        repeat' ((first|apply Ap<;>intro _|apply An)<;>conv=>whnf)
        all_goals try exact⟨by omega⟩
        refine⟨t+1,[some 0,some 1,some 2,some 3],?_⟩;conv=>whnf
        repeat' (apply An<;>conv=>whnf)
        all_goals try first|exact⟨Ba⟩|exact⟨by rw[A3 (by omega) (by omega)];rfl⟩
        refine⟨fun k hk=>A5 ?_ trivial⟩
        by_cases hki:k=t
        ·refine(if_pos hki).trans ?_
         show V.int .u64 _=_
         simp only[Ly,Int.toNat_natCast,if_neg (Nat.lt_irrefl t),wV,if_pos (show k<t+1 by omega)];subst hki;rfl
        ·refine(if_neg hki).trans ?_;simp only[wV]
         by_cases h2:k<t
         ·rw[if_pos h2,if_pos (by omega)]
         ·rw[if_neg h2,if_neg (by omega)]
       ·have ht6:t=8:=by
         have:¬((t:Nat):Int)<8:=of_decide_eq_false h6
         omega
        subst ht6;refine vo hΓ ?_;conv=>whnf
        refine⟨i+1,[some 0,some 1,some 2],?_⟩;conv=>whnf
        repeat' (apply An<;>conv=>whnf)
        all_goals try first|exact⟨Ba⟩|exact⟨by rw[A3 (by omega) (by omega)];omega⟩
        refine⟨fun k hk=>A5 ?_ trivial⟩
        show u64 (if k<8 then Ho (Hy (gw J8) P i) (I5 P i) k else Hy (gw J8) P i k)=u64 (Hy (gw J8) P (i+1) k)
        rw[if_pos hk];rfl
 ·have hj:i=q:=by
   have:¬((128*i:Nat):Int)<(P.length:Nat):=by simpa using h1
   omega
  subst hj;refine vo hΓ ?_;conv=>whnf
  refine A4 (ι:=Nat) (fun j=>[(2, .ref 0 []),(4, .ref 1 []),(19, .ref 2 []),(20, .int .i64 (j:Nat))]) (fun j=>[some (arrV 64 []),some (.row 1 8 (wV (Hy (gw J8) P i))),some (.row 1 64 (fun k=> .int .u8 ((ob (Hy (gw J8) P i) j k).toNat:Nat)))]) (fun j=>j≤64) (fun j=>64 - j) 0 [some 0,some 2,some 3] ?_ (fun j hj=>vo hΓ ?_)
  ·conv=>whnf
   repeat' ((first|apply Ap<;>intro _|apply An)<;>conv=>whnf)
   all_goals try exact⟨Ba⟩
  ·conv=>whnf
   apply Ap<;>intro h2<;>conv=>whnf
   ·have hj2:j<64:=by
     have:((j:Nat):Int)<64:=of_decide_eq_true h2
     omega
    have t1:IntKind.i64.wrap ((j:Int).tdiv 8)=((j/8:Nat):Int):=by rw[Int.tdiv_eq_ediv_of_nonneg (by omega),A3 (by omega) (by omega)];omega
    have t2:IntKind.u64.wrap (IntKind.i64.wrap (56 - IntKind.i64.wrap (8*(j:Int).tmod 8)))=((56 - 8*(j%8):Nat):Int):=by
     rw[Int.tmod_eq_emod_of_nonneg (by omega),A3 (x:=8*_) (by omega) (by omega),A3 (by omega) (by omega),IntKind.wrap_u64];omega
    conv=>whnf
    repeat' ((first|apply Ap<;>intro _|apply An)<;>conv=>whnf)
    all_goals try exact⟨by omega⟩
    all_goals try exact⟨by decide⟩
    all_goals try exact⟨by rw[t1];omega⟩
    all_goals try exact⟨by rw[t2];omega⟩
    refine⟨j+1,[some 0,some 1,some 2],?_⟩;conv=>whnf
    repeat' (apply An<;>conv=>whnf)
    all_goals try first|exact⟨Ba⟩|exact⟨by rw[A3 (by omega) (by omega)];rfl⟩
    refine⟨fun k hk=>A5 ?_ trivial⟩
    by_cases hki:k=j
    ·refine(if_pos hki).trans ?_
     show V.int .u8 _=V.int .u8 ((ob (Hy (gw J8) P i) (j+1) k).toNat:Nat)
     rw[t1,t2,Int.toNat_natCast,Q8 _ _ (by omega),hki,ob,if_pos (by omega),Vd,UInt8.toNat_ofNat',IntKind.wrap_u8]
     congr 1
    ·refine(if_neg hki).trans ?_;simp only[ob]
     by_cases hk2:k<j
     ·rw[if_pos hk2,if_pos (by omega)]
     ·rw[if_neg hk2,if_neg (by omega)]
   ·have hj2:j=64:=by
     have:¬((j:Nat):Int)<64:=of_decide_eq_false h2
     omega
    subst hj2;refine vo hΓ ?_;conv=>whnf
    repeat' (apply An<;>conv=>whnf)
    ·exact⟨fun k _=>trivial⟩
    refine Ld.row fun k hk=>?_;rw[Ps _ hk,ob,if_pos (by omega)]
theorem Vp:Aj Tryz.prog (Ka Tryz.f231.ntmps [] []):=Ad Tryz.f231.ntmps [] [] (FL.all .nil) (HL.all .nil)
def AVj:Ai:=fun xs h κ=>xs.length=2∧B4 Tryz.prog (Ka Tryz.f231.ntmps [] []) (Bd Tryz.f231) Tryz.f231.results.toList xs h κ
theorem AJ5:Af Tryz.prog [] 231 AVj:=Q6 2 Vp Tryz.func231
def Su(x:Nat):Nat→List UInt8|0=>[]|k+1=>Su x k++[UInt8.ofNat (x/2^(8*(7 - k)))]
theorem Jl(x:Nat):∀k,(Su x k).length=k
 |0=>rfl
 |k+1=>by simp[Su,Jl x k]
structure Nb where
 b:List UInt8
 x:Nat
def nbT(b:List UInt8)(i:Nat):V:=match i with|0=>U5 0 b|j+1=> .sl 1 [] 1 0 (b.length+(j+1)) (b.length+(j+1))
def nbH(b:List UInt8)(x i:Nat):Ae:=match i with|0=>[some (G1 b)]|j+1=>[none,some (.row 1 (b.length+(j+1)) (bf (b++Su x (j+1))))]
def AUv:Ai:=L8 (fun(a:Nb)=>[U5 0 a.b, .int .u64 (a.x:Nat)]) (fun a=>[some (G1 a.b)]) (fun a=>a.b.length≤1001000∧a.x<2^64) (fun a=>U5 1 (a.b++Su a.x 8)) (fun a=>[none,some (G1 (a.b++Su a.x 8))])
theorem AQa{x i:Nat}(hi:i<8):IntKind.u8.wrap (Bt .u64 (x:Nat) (IntKind.i64.wrap (8*(7 - (i:Int)))))=((UInt8.ofNat (x/2^(8*(7 - i)))).toNat:Nat):=by
 rw[show(8:Int)*(7 - (i:Int))=((8*(7 - i):Nat):Int) by omega,A3 (by omega) (by omega),E0 _ _ (by omega),IntKind.wrap_u8,UInt8.toNat_ofNat'];omega
theorem AH5:Af Tryz.prog [] 231 AUv:=Cq AJ5 (fun⟨b,x⟩ κ ⟨hb,hx⟩ h=>by
 replace hb:b.length≤1001000:=hb;refine⟨rfl,?_⟩;refine vj Vp ?_;conv=>whnf
 refine A4 (ι:=Nat) (fun i=>[(0,nbT b i),(1, .int .u64 (x:Nat)),(5, .int .i64 (7 - (i:Int)))]) (nbH b x) (fun i=>i≤8) (fun i=>8 - i) 0 [some 0] ?_ (fun i hi=>vj Vp ?_)
 ·conv=>whnf
  repeat' ((first|apply Ap<;>intro _|apply An)<;>conv=>whnf)
  all_goals try first|exact⟨Ah⟩|exact⟨fun k _=>Aa _ trivial⟩
 ·have hll2:(b++Su x i).length=b.length+i:=by simp[Jl]
  rcases i with _|i
  ·have hi8:0<8:=by decide
   conv=>whnf
   apply Ap<;>intro h1<;>conv=>whnf
   ·conv=>whnf
    repeat' ((first|apply Ap<;>intro _|apply An)<;>conv=>whnf)
    ·exact⟨by decide⟩
    ·exact⟨by decide⟩
    refine Or.inl ?_;conv=>whnf
    repeat' ((first|apply Ap<;>intro _|apply An)<;>conv=>whnf)
    all_goals try first|exact⟨Bc⟩|exact⟨⟨by show(b.length+0+1)*1≤_;omega,by omega⟩⟩
    refine⟨0+1,[some 0,some 2],?_⟩;conv=>whnf
    repeat' (apply An<;>conv=>whnf)
    all_goals try first|exact⟨Ah⟩|exact⟨fun k _=>Aa _ trivial⟩
    all_goals try exact⟨by rw[A3 (by omega) (by omega)];omega⟩
    ·refine⟨?_⟩
     show∀k,k<b.length+0+1→_
     rw[show Su x (0+1)=Su x (0)++[UInt8.ofNat (x/2^(8*(7 - (0))))]from rfl,←List.append_assoc,←hll2];refine F0 (fun k hk=>?_) ?_
     ·exact(if_pos (show k<b.length by omega)).trans (congrArg (fun l=>bf l k) (List.append_nil b).symm)
     ·refine(if_neg (show¬_<b.length by omega)).trans ?_;rw[hll2,show b.length+0 - (b.length)=0 by omega];exact congrArg (V.int .u8) (AQa hi8)
   ·exact absurd h1 (by decide)
  ·conv=>whnf
   apply Ap<;>intro h1<;>conv=>whnf
   ·have hi8:i+1<8:=by
     have:(0:Int)≤7 - ((i+1:Nat):Int):=by simpa using h1
     omega
    conv=>whnf
    repeat' ((first|apply Ap<;>intro _|apply An)<;>conv=>whnf)
    ·exact⟨by rw[A3 (by omega) (by omega)];omega⟩
    ·exact⟨by omega⟩
    refine Or.inl ?_;conv=>whnf
    repeat' ((first|apply Ap<;>intro _|apply An)<;>conv=>whnf)
    all_goals try first|exact⟨Bc⟩|exact⟨⟨by show(b.length+(i+1)+1)*1≤_;omega,by omega⟩⟩
    refine⟨i+1+1,[some 0,some 3],?_⟩;conv=>whnf
    repeat' (apply An<;>conv=>whnf)
    all_goals try first|exact⟨Ah⟩|exact⟨fun k _=>Aa _ trivial⟩
    all_goals try exact⟨by rw[A3 (by omega) (by omega)];omega⟩
    ·refine⟨?_⟩
     show∀k,k<b.length+(i+1)+1→_
     rw[show Su x (i+1+1)=Su x (i+1)++[UInt8.ofNat (x/2^(8*(7 - (i+1))))]from rfl,←List.append_assoc,←hll2];refine F0 (fun k hk=>?_) ?_
     ·exact(if_pos (show k<(b++Su x (i+1)).length by omega)).trans rfl
     ·refine(if_neg (show¬_<(b++Su x (i+1)).length by omega)).trans ?_;rw[hll2,show b.length+(i+1) - (b.length+(i+1))=0 by omega];exact congrArg (V.int .u8) (AQa hi8)
   ·have hi8:i=7:=by
     have:¬(0:Int)≤7 - ((i+1:Nat):Int):=by simpa using h1
     omega
    subst hi8;refine vj Vp ?_;conv=>whnf
    refine⟨[some 0,some 1],U5 1 (b++Su x 8),[none,some (G1 (b++Su x 8))],?_⟩;have hl:(b++Su x 8).length=b.length+(7+1):=by simp[Jl]
    conv=>whnf
    repeat' (apply An<;>conv=>whnf)
    all_goals try exact⟨Bc⟩
    all_goals first
     |exact⟨fun k _=>Aa _ trivial⟩
     |exact h
     |exact⟨⟨rfl,hl.symm,hl.symm⟩⟩
     |exact⟨hl.symm⟩) (fun _=>by simp) (fun _=>by simp[U5,Hf,Ie]) (fun l u hu=>by simp at hu;subst hu;exact Oo _)
def AUa:A7:=Bf (fun(a:By)=>[a.v]) pR (fun a=>Cg a.l a.l.length) (Bl false)
theorem ASm{n:Nat}(hn:n≤1000000):Ch .u64 (IntKind.u64.wrap (n:Nat)) 3=((n*8:Nat):Int):=by
 have h1:IntKind.u64.wrap (n:Nat)=(n:Nat):=by rw[IntKind.wrap_u64];omega
 rw[h1];simp only[Ch,IntKind.bits];rw[IntKind.wrap_u64]
 have:min (Int.toNat 3) 64=3:=by decide
 rw[this];omega
theorem AKo{n:Nat}(hn:n≤1000000):Bt .u64 (IntKind.u64.wrap (n:Nat)) 61=0:=by
 have h1:IntKind.u64.wrap (n:Nat)=(n:Nat):=by rw[IntKind.wrap_u64];omega
 rw[h1,show(61:Int)=((61:Nat):Int)from rfl,E0 _ _ (by decide),Nat.div_eq_of_lt (by omega)];rfl
theorem qY:∀k,Su 0 k=List.replicate k 0
 |0=>rfl
 |k+1=>by rw[Su,qY k,Nat.zero_div,List.replicate_succ'];rfl
theorem ABm{n:Nat}(hn:n≤1000000):G7 n 16=Su 0 8++Su (n*8) 8:=by
 have h:∀i,i<8→Vc n (15 - i)=0:=fun i hi=>lK hn hi;have h0:=h 0 (by decide);have h1:=h 1 (by decide);have h2:=h 2 (by decide);have h3:=h 3 (by decide);have h4:=h 4 (by decide);have h5:=h 5 (by decide);have h6:=h 6 (by decide);have h7:=h 7 (by decide);simp only[G7,h0,h1,h2,h3,h4,h5,h6,h7,qY];rfl
theorem AFm:FOk Tryz.prog [] 185 AUa:=A8 fun a ⟨ha,hn⟩=>by
 refine CP.by1 ha ?_;generalize a.l=l at hn;generalize a.b=b
 show CP _ _ _ [Bl b l] fun v=>Ld v (Bl false (Cg l l.length))
 have hΓ:=Ad Tryz.f185.ntmps _ _ (FL.all .nil) (HL.all (.cons qA (.cons AH5 .nil)));refine Aw hΓ Tryz.func185 ?_;conv=>whnf
 repeat' ((first|apply Ap<;>intro _|apply An)<;>conv=>whnf)
 all_goals try exact⟨Ah⟩
 ·exact rfl
 refine vj eW ?_;conv=>whnf
 intro b hb;conv=>whnf
 apply Ap<;>intro h1<;>conv=>whnf
 ·have hl:l.length=0:=hb h1;conv=>whnf
  repeat' ((first|apply Ap<;>intro _|apply An)<;>conv=>whnf)
  all_goals try exact⟨Ah⟩
  refine Or.inl ?_;conv=>whnf
  repeat' ((first|apply Ap<;>intro _|apply An)<;>conv=>whnf)
  all_goals try first|exact⟨Ah⟩|exact⟨⟨by simp only[];omega,by omega⟩⟩
  have hz:=Gs l.length;refine A4 (ι:=Nat) (fun i=>[(3, .int .u64 (IntKind.u64.wrap (l.length:Nat))),(4, .sl 0 [] 1 0 (l.length+1+i) (l.length+1+i))]) (fun i=>[some (.row 1 (l.length+1+i) (bf (l++[128]++List.replicate i 0)))]) (fun i=>i≤Ac l.length) (fun i=>Ac l.length - i) 0 [some 1] ?_ (fun i hi=>vo hΓ ?_)
  ·conv=>whnf
   repeat' ((first|apply Ap<;>intro _|apply An)<;>conv=>whnf)
   all_goals try exact⟨Ah⟩
   ·refine⟨?_⟩;simp only[List.replicate_zero,List.append_nil];refine F0 (fun k hk=>?_) ?_
    ·exact absurd hk (by omega)
    ·rw[hl];rfl
  ·have hll:(l++[128]++List.replicate i 0).length=l.length+1+i:=by simp;omega
   have wm:IntKind.i64.wrap (((l.length+1+i:Nat):Int).tmod 128)=(((l.length+1+i)%128:Nat):Int):=by rw[Int.tmod_eq_emod_of_nonneg (by omega),A3 (by omega) (by omega)];omega
   conv=>whnf
   repeat' ((first|apply Ap<;>intro _|apply An)<;>conv=>whnf)
   all_goals try exact⟨Ah⟩
   ·rename_i g1
    have hi2:i<Ac l.length:=by
     rcases Nat.lt_or_ge i (Ac l.length)with h|h
     ·exact h
     ·exfalso
      have:i=Ac l.length:=by omega
      simp only[bne_iff_ne,ne_eq]at g1;rw[Int.tmod_eq_emod_of_nonneg (by omega)]at g1;simp only[Ac]at this;omega
    refine Or.inl ?_;conv=>whnf
    repeat' ((first|apply Ap<;>intro _|apply An)<;>conv=>whnf)
    all_goals try first|exact⟨Ah⟩|exact⟨⟨by show(l.length+1+i+1)*1≤_;omega,by omega⟩⟩
    refine⟨i+1,[some 2],?_⟩;conv=>whnf
    repeat' (apply An<;>conv=>whnf)
    all_goals try exact⟨Ah⟩
    ·refine⟨?_⟩
     show∀k,k<l.length+1+i+1→_
     rw[Fj,←List.append_assoc,←hll];refine F0 (fun k hk=>?_) ?_
     ·exact if_pos (by omega)
     ·exact(if_neg (by omega)).trans (by rw[hll,Nat.sub_self];rfl)
    all_goals exact⟨⟨by omega,by omega⟩⟩
   ·rename_i g1
    have hi2:i=Ac l.length:=by
     simp only[bne_eq_false_iff_eq]at g1;rw[Int.tmod_eq_emod_of_nonneg (by omega)]at g1;have h:=hi;simp only[Ac]at h⊢;omega
    subst hi2;refine vo hΓ ?_;conv=>whnf
    repeat' ((first|apply Ap<;>intro _|apply An)<;>conv=>whnf)
    ·exact⟨by decide⟩
    obtain⟨B,hB⟩:∃B,B=l++[128]++List.replicate (Ac l.length) 0:=⟨_,rfl⟩;have hBl:B.length=l.length+1+Ac l.length:=by rw[hB];simp;omega
    have hL:Cg l l.length=B++Su 0 8++Su (l.length*8) 8:=by rw[Cg,ABm hn,hB,List.append_assoc,List.append_assoc,List.append_assoc];simp[List.append_assoc]
    rw[hL];refine⟨⟨B,0⟩,[some 0],?_⟩;conv=>whnf
    repeat' ((first|apply Ap<;>intro _|apply An)<;>conv=>whnf)
    all_goals try first|exact⟨Bc⟩|exact⟨⟨rfl,hBl.symm,hBl.symm⟩⟩|exact⟨hBl.symm⟩|exact⟨AKo hn⟩|exact⟨fun k _=>A5 (by rw[hB]) trivial⟩|exact⟨by decide⟩
    ·exact⟨⟨by show B.length≤_;omega,by show 0<2^64;decide⟩⟩
    refine⟨⟨B++Su 0 8,l.length*8⟩,[some 2],?_⟩;conv=>whnf
    repeat' ((first|apply Ap<;>intro _|apply An)<;>conv=>whnf)
    all_goals try first|exact⟨Bc⟩|exact⟨fun k _=>Aa _ trivial⟩|exact⟨ASm hn⟩|exact⟨by decide⟩
    ·exact⟨⟨by show(B++Su 0 8).length≤_;simp[Jl];omega,by show l.length*8<_;omega⟩⟩
    conv=>whnf
    repeat' (apply An<;>conv=>whnf)
    ·exact⟨fun k _=>Bg _ _⟩
    ·exact Ld.imm fun k hk=>by rw[Nat.zero_add]
 ·refine Or.inl ?_;conv=>whnf
  repeat' ((first|apply Ap<;>intro _|apply An)<;>conv=>whnf)
  all_goals try first|exact⟨Ah⟩|exact⟨⟨by simp only[];omega,by omega⟩⟩
  refine Or.inl ?_;conv=>whnf
  repeat' ((first|apply Ap<;>intro _|apply An)<;>conv=>whnf)
  all_goals try first|exact⟨Ah⟩|exact⟨⟨by simp only[];omega,by omega⟩⟩
  have hz:=Gs l.length;refine A4 (ι:=Nat) (fun i=>[(3, .int .u64 (IntKind.u64.wrap (l.length:Nat))),(4, .sl 0 [] 1 0 (l.length+1+i) (l.length+1+i))]) (fun i=>[some (.row 1 (l.length+1+i) (bf (l++[128]++List.replicate i 0)))]) (fun i=>i≤Ac l.length) (fun i=>Ac l.length - i) 0 [some 3] ?_ (fun i hi=>vo hΓ ?_)
  ·conv=>whnf
   repeat' ((first|apply Ap<;>intro _|apply An)<;>conv=>whnf)
   all_goals try exact⟨Ah⟩
   ·refine⟨?_⟩;simp only[List.replicate_zero,List.append_nil];refine F0 (fun k hk=>?_) ?_
    ·exact(if_pos (by omega)).trans (if_neg (Nat.not_lt_zero _))
    ·exact(if_neg (by omega)).trans (by rw[show l.length - (0+l.length)=0 by omega];rfl)
  ·have hll:(l++[128]++List.replicate i 0).length=l.length+1+i:=by simp;omega
   have wm:IntKind.i64.wrap (((l.length+1+i:Nat):Int).tmod 128)=(((l.length+1+i)%128:Nat):Int):=by rw[Int.tmod_eq_emod_of_nonneg (by omega),A3 (by omega) (by omega)];omega
   conv=>whnf
   repeat' ((first|apply Ap<;>intro _|apply An)<;>conv=>whnf)
   all_goals try exact⟨Ah⟩
   ·rename_i g1
    have hi2:i<Ac l.length:=by
     rcases Nat.lt_or_ge i (Ac l.length)with h|h
     ·exact h
     ·exfalso
      have:i=Ac l.length:=by omega
      simp only[bne_iff_ne,ne_eq]at g1;rw[Int.tmod_eq_emod_of_nonneg (by omega)]at g1;simp only[Ac]at this;omega
    refine Or.inl ?_;conv=>whnf
    repeat' ((first|apply Ap<;>intro _|apply An)<;>conv=>whnf)
    all_goals try first|exact⟨Ah⟩|exact⟨⟨by show(l.length+1+i+1)*1≤_;omega,by omega⟩⟩
    refine⟨i+1,[some 2],?_⟩;conv=>whnf
    repeat' (apply An<;>conv=>whnf)
    all_goals try exact⟨Ah⟩
    ·refine⟨?_⟩
     show∀k,k<l.length+1+i+1→_
     rw[Fj,←List.append_assoc,←hll];refine F0 (fun k hk=>?_) ?_
     ·exact if_pos (by omega)
     ·exact(if_neg (by omega)).trans (by rw[hll,Nat.sub_self];rfl)
    all_goals exact⟨⟨by omega,by omega⟩⟩
   ·rename_i g1
    have hi2:i=Ac l.length:=by
     simp only[bne_eq_false_iff_eq]at g1;rw[Int.tmod_eq_emod_of_nonneg (by omega)]at g1;have h:=hi;simp only[Ac]at h⊢;omega
    subst hi2;refine vo hΓ ?_;conv=>whnf
    repeat' ((first|apply Ap<;>intro _|apply An)<;>conv=>whnf)
    ·exact⟨by decide⟩
    obtain⟨B,hB⟩:∃B,B=l++[128]++List.replicate (Ac l.length) 0:=⟨_,rfl⟩;have hBl:B.length=l.length+1+Ac l.length:=by rw[hB];simp;omega
    have hL:Cg l l.length=B++Su 0 8++Su (l.length*8) 8:=by rw[Cg,ABm hn,hB,List.append_assoc,List.append_assoc,List.append_assoc];simp[List.append_assoc]
    rw[hL];refine⟨⟨B,0⟩,[some 0],?_⟩;conv=>whnf
    repeat' ((first|apply Ap<;>intro _|apply An)<;>conv=>whnf)
    all_goals try first|exact⟨Bc⟩|exact⟨⟨rfl,hBl.symm,hBl.symm⟩⟩|exact⟨hBl.symm⟩|exact⟨AKo hn⟩|exact⟨fun k _=>A5 (by rw[hB]) trivial⟩|exact⟨by decide⟩
    ·exact⟨⟨by show B.length≤_;omega,by show 0<2^64;decide⟩⟩
    refine⟨⟨B++Su 0 8,l.length*8⟩,[some 2],?_⟩;conv=>whnf
    repeat' ((first|apply Ap<;>intro _|apply An)<;>conv=>whnf)
    all_goals try first|exact⟨Bc⟩|exact⟨fun k _=>Aa _ trivial⟩|exact⟨ASm hn⟩|exact⟨by decide⟩
    ·exact⟨⟨by show(B++Su 0 8).length≤_;simp[Jl];omega,by show l.length*8<_;omega⟩⟩
    conv=>whnf
    repeat' (apply An<;>conv=>whnf)
    ·exact⟨fun k _=>Bg _ _⟩
    ·exact Ld.imm fun k hk=>by rw[Nat.zero_add]
end Go.Proofs.YtaihjcpfjgpmoaaGreatDoor.Wd
