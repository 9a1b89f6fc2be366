/- Part of the claim ModelPuts: Z28, Z16, Z17, Z18, Z19, Z20, Z21, Z22, Z23, Z24, Z25, Z26, Z29. -/
import Derived.Test.YtaihjcpfjgpmoaaGreatDoorDC
import Derived.Test.YtaihjcpfjgpmoaaGreatDoorZA
set_option linter.unusedVariables false
set_option linter.unusedSimpArgs false
set_option maxRecDepth 100000
namespace Go.Proofs.YtaihjcpfjgpmoaaGreatDoor
open Go Go.DD
theorem dL:∀(n:Nat) (r:List UInt8),(∀k,k<n→(r.getD k 0).toNat<128)→n≤r.length→Bv (r.drop n)=Bv r
 |0,r,_,_=>rfl
 |n+1,[],_,h=>by simp at h
 |n+1,c::r,h,hn=>by
  have h0:=h 0 (by omega);simp only[List.getD_cons_zero]at h0;rw[List.drop_succ_cons,dL n r (fun k hk=>by simpa using h (k+1) (by omega)) (by simpa using hn)]
  conv=>rhs;unfold Bv
  rw[if_pos h0]
theorem Jh(r:List UInt8)(h:0<r.length):Bv r=
  if(r.getD 0 0).toNat<128 then Bv (r.drop 1)
  else if(Bx (r.getD 0 0).toNat).toNat%8=2 then decide (2≤r.length)&&Ut (Lg ((Bx (r.getD 0 0).toNat).toNat/16)) (r.getD 1 0)&&Bv (r.drop 2)
  else if(Bx (r.getD 0 0).toNat).toNat%8=3 then decide (3≤r.length)&&Ut (Lg ((Bx (r.getD 0 0).toNat).toNat/16)) (r.getD 1 0)&&Ut (0x80,0xBF) (r.getD 2 0)&&Bv (r.drop 3)
  else if(Bx (r.getD 0 0).toNat).toNat%8=4 then decide (4≤r.length)&&Ut (Lg ((Bx (r.getD 0 0).toNat).toNat/16)) (r.getD 1 0)&&Ut (0x80,0xBF) (r.getD 2 0)&&Ut (0x80,0xBF) (r.getD 3 0)&&Bv (r.drop 4)
  else false:=by
 match r,h with
 |c::r,_=>
  conv=>lhs;unfold Bv
  simp only[List.getD_cons_zero,List.drop_succ_cons,List.drop_zero]
  split
  ·rfl
  ·split
   ·match r with
    |[]=>simp
    |d::r=>simp
   ·split
    ·match r with
     |[]=>simp
     |[d]=>simp
     |d::e::r=>simp
    ·split
     ·match r with
      |[]=>simp
      |[d]=>simp
      |[d,e]=>simp
      |d::e::f::r=>simp
     ·rfl
theorem AJp:∀x:Fin 256,IntKind.i64.wrap (Ag .and .u8 (x.val:Nat) 7)=((x.val%8:Nat):Int):=by decide
theorem AJq:∀x:Fin 256,Bt .u8 (x.val:Nat) 4=((x.val/16:Nat):Int):=by decide
theorem AJb(c:UInt8):IntKind.i64.wrap (Ag .and .u8 (c.toNat:Nat) 7)=((c.toNat%8:Nat):Int):=AJp ⟨c.toNat,c.toNat_lt⟩
theorem AOl(c:UInt8):Bt .u8 (c.toNat:Nat) 4=((c.toNat/16:Nat):Int):=AJq ⟨c.toNat,c.toNat_lt⟩
def AU8:A7:=Bf (fun(a:By)=>[a.v]) pR (fun a=>Bv a.l) .bool
theorem Zc{w:Nat}(hw:w<2^64)(h:(Ag .and .u64 (w:Nat) 9259542123273814144==0)=true):w&&&hiM=0:=by
 have h1:Ag .and .u64 (w:Nat) 9259542123273814144=((w&&&hiM:Nat):Int):=Sl w hiM hw (by decide);rw[h1,beq_iff_eq]at h;omega
theorem ACw{l:List UInt8}(h:(Ag .and .u64 (Gr l:Nat) 9259542123273814144==0)=true):∀k,k<8→(l.getD k 0).toNat<128:=
 Fi l (fun _ h=>h) (Zc (Eh l) h)
theorem AJc{l m:List UInt8}(h:(Ag .and .u64 (Ag .or .u64 (Gr l:Nat) (Gr m:Nat)) 9259542123273814144==0)=true):(∀k,k<8→(l.getD k 0).toNat<128)∧∀k,k<8→(m.getD k 0).toNat<128:=by
 rw[G2 _ _ (Eh l) (Eh m)]at h;have h2:=Zc (Nat.or_lt_two_pow (Eh l) (Eh m)) h;exact⟨Fi l (fun i h=>by rw[Nat.testBit_or,h];rfl) h2,Fi m (fun i h=>by rw[Nat.testBit_or,h,Bool.or_true]) h2⟩
theorem AJd{l m n o:List UInt8}(h:(Ag .and .u64 (Ag .or .u64 (Ag .or .u64 (Gr l:Nat) (Gr m:Nat)) (Ag .or .u64 (Gr n:Nat) (Gr o:Nat))) 9259542123273814144==0)=true):
  (∀k,k<8→(l.getD k 0).toNat<128)∧(∀k,k<8→(m.getD k 0).toNat<128)∧(∀k,k<8→(n.getD k 0).toNat<128)∧∀k,k<8→(o.getD k 0).toNat<128:=by
 have a:=Nat.or_lt_two_pow (Eh l) (Eh m);have b:=Nat.or_lt_two_pow (Eh n) (Eh o);rw[G2 _ _ (Eh l) (Eh m),G2 _ _ (Eh n) (Eh o),G2 _ _ a b]at h;have h2:=Zc (Nat.or_lt_two_pow a b) h;refine⟨Fi l (fun i h=>?_) h2,Fi m (fun i h=>?_) h2,Fi n (fun i h=>?_) h2,Fi o (fun i h=>?_) h2⟩;all_goals simp only[Nat.testBit_or,h,Bool.true_or,Bool.or_true]
theorem Gq{r:List UInt8}{n:Nat}(h:∀k,k<8→((r.drop n).getD k 0).toNat<128)(hl:n+8≤r.length):Bv (r.drop (n+8))=Bv (r.drop n):=by
 rw[←dL 8 (r.drop n) h (by rw[List.length_drop];omega),List.drop_drop]
theorem AFk:FOk Tryz.prog G 198 AU8:=A8 fun a ⟨ha,hn⟩=>by
 refine CP.by1 ha ?_;generalize a.l=l at hn;generalize a.b=b;have hΓ:=Ab Tryz.f198.ntmps _ _ [] (.cons (AFl.g) .nil) .nil;refine Aw hΓ Tryz.func198 ?_;conv=>whnf
 refine Or.inr ?_;conv=>whnf
 repeat' ((first|apply Ap<;>intro _|apply An)<;>conv=>whnf)
 ·exact⟨by omega⟩
 refine A4 (ι:=List UInt8) (fun r=>[(0,Bl b r)]) (fun r=>[]) (fun r=>Bv r=Bv l∧r.length≤1000000) (fun r=>r.length) l [] ?_ (fun r hr=>vo hΓ ?_)
 ·conv=>whnf
  repeat' ((first|apply Ap<;>intro _|apply An)<;>conv=>whnf)
  all_goals try exact⟨Ah⟩
  ·refine⟨fun k _=>?_⟩
   show bf l (0+k)=_
   rw[Nat.zero_add]
  ·exact⟨⟨rfl,hn⟩⟩
 obtain⟨i1,i2⟩:=hr;have hst:=Jh r;conv=>whnf
 repeat' ((first|apply Ap<;>intro _|apply An)<;>conv=>whnf)
 all_goals(try simp only[AJb,AOl,Int.toNat_natCast,show Int.toNat 0=0 from rfl,show Int.toNat 1=1 from rfl,show Int.toNat 2=2 from rfl,show Int.toNat 3=3 from rfl,show Int.toNat 4=4 from rfl,decide_eq_true_eq,decide_eq_false_iff_not,beq_iff_eq,beq_eq_false_iff_ne,ne_eq]at*)
 all_goals have hc0:=Bs r 0
 all_goals have hf0:=(Bx (r.getD 0 0).toNat).toNat_lt
 all_goals try exact⟨by omega⟩
 all_goals try
  (refine Ld.of (congrArg V.bool (Eq.symm ?_))
   rw[←i1,hst (by omega)];repeat' (first|rw[if_pos (by omega)]|rw[if_neg (by omega)])
   first
    |done
    |(refine Bool.and_eq_false_iff.2 (.inl ?_)
      simp only[Ut,Bool.and_eq_false_iff,decide_eq_false_iff_not]
      try simp only[show(0x80:UInt8).toNat=128 from rfl,show(0xBF:UInt8).toNat=191 from rfl]
      omega))
 ·have h1:Bv (r.drop 1)=Bv l:=by rw[←i1,hst (by omega),if_pos (by omega)]
  refine⟨.of b (r.drop 1),⟨AE.imm' (by first|(simp only[List.length_drop];done)|(simp[List.length_drop];done)|(simp[List.length_drop];omega)) (fun k _=>?_),trivial⟩,⟨trivial,by show 8≤(r.drop 1).length;simp[List.length_drop]at*;omega⟩,?_⟩
  ·rw[Ci]
   try exact congrArg (bf r) (by first|rfl|(simp only[show Int.toNat 8=8 from rfl,show Int.toNat 16=16 from rfl,show Int.toNat 24=24 from rfl];omega))
  intro w1 e1;replace e1:w1=Gr (r.drop 1):=e1;subst e1;conv=>whnf
  repeat' ((first|apply Ap<;>intro _|apply An)<;>conv=>whnf)
  all_goals try exact⟨by omega⟩
  ·rename_i g1 g2;have h9:Bv (r.drop 9)=Bv l:=by rw[←h1];exact Gq (ACw g1) (by simp at g2;omega)
   refine⟨.of b (r.drop 9),⟨AE.imm' (by first|(simp only[List.length_drop];done)|(simp[List.length_drop];done)|(simp[List.length_drop];omega)) (fun k _=>?_),trivial⟩,⟨trivial,by show 8≤(r.drop 9).length;simp[List.length_drop]at*;omega⟩,?_⟩
   ·rw[Ci]
    try exact congrArg (bf r) (by first|rfl|(simp only[show Int.toNat 8=8 from rfl,show Int.toNat 16=16 from rfl,show Int.toNat 24=24 from rfl];omega))
   intro w2 e2;replace e2:w2=Gr (r.drop 9):=e2;subst e2;conv=>whnf
   repeat' ((first|apply Ap<;>intro _|apply An)<;>conv=>whnf)
   all_goals try exact⟨by simp at*;omega⟩
   refine⟨.of b (r.drop 17),⟨AE.imm' (by first|(simp only[List.length_drop];done)|(simp[List.length_drop];done)|(simp[List.length_drop];omega)) (fun k _=>?_),trivial⟩,⟨trivial,by show 8≤(r.drop 17).length;simp[List.length_drop]at*;omega⟩,?_⟩
   ·rw[Ci]
    try exact congrArg (bf r) (by first|rfl|(simp only[show Int.toNat 8=8 from rfl,show Int.toNat 16=16 from rfl,show Int.toNat 24=24 from rfl];omega))
   intro w3 e3;replace e3:w3=Gr (r.drop 17):=e3;subst e3;conv=>whnf
   repeat' ((first|apply Ap<;>intro _|apply An)<;>conv=>whnf)
   ·exact⟨by simp at*;omega⟩
   ·rename_i g3;have g4:=AJc g3;have h17:Bv (r.drop 17)=Bv l:=by rw[←h9];exact Gq g4.1 (by simp at g2;omega)
    have h25:Bv (r.drop 25)=Bv l:=by rw[←h17];exact Gq g4.2 (by simp at g2;omega)
    refine A4 (ι:=List UInt8) (fun q=>[(0,Bl b q)]) (fun q=>[]) (fun q=>Bv q=Bv l∧q.length<r.length) (fun q=>q.length) (r.drop 25) [] ?_ (fun q hq=>vo hΓ ?_)
    ·conv=>whnf
     repeat' (apply An<;>conv=>whnf)
     ·exact⟨⟨rfl,rfl⟩⟩
     ·exact⟨by simp[List.length_drop];omega⟩
     ·exact⟨fun k _=>((Ci _ _ _).trans (congrArg (bf r) (by simp only[show Int.toNat 8=8 from rfl,show Int.toNat 16=16 from rfl];omega))).symm⟩
     ·exact⟨⟨h25,by simp[List.length_drop];omega⟩⟩
    obtain⟨q1,q2⟩:=hq;conv=>whnf
    apply Ap<;>intro h5<;>conv=>whnf
    ·have h6:32<q.length:=by
      have:(32:Int)<(q.length:Nat):=by simpa using h5
      omega
     refine⟨.of b q,⟨AE.refl _,trivial⟩,⟨trivial,by show 8≤q.length;omega⟩,?_⟩;intro v1 f1;replace f1:v1=Gr q:=f1;subst f1;conv=>whnf
     repeat' ((first|apply Ap<;>intro _|apply An)<;>conv=>whnf)
     all_goals try exact⟨by omega⟩
     refine⟨.of b (q.drop 8),⟨AE.imm' (by first|(simp only[List.length_drop];done)|(simp[List.length_drop];done)|(simp[List.length_drop];omega)) (fun k _=>?_),trivial⟩,⟨trivial,by show 8≤(q.drop 8).length;simp[List.length_drop]at*;omega⟩,?_⟩
     ·rw[Ci]
      try exact congrArg (bf q) (by first|rfl|(simp only[show Int.toNat 8=8 from rfl,show Int.toNat 16=16 from rfl,show Int.toNat 24=24 from rfl];omega))
     intro v2 f2;replace f2:v2=Gr (q.drop 8):=f2;subst f2;conv=>whnf
     repeat' ((first|apply Ap<;>intro _|apply An)<;>conv=>whnf)
     all_goals try exact⟨by omega⟩
     refine⟨.of b (q.drop 16),⟨AE.imm' (by first|(simp only[List.length_drop];done)|(simp[List.length_drop];done)|(simp[List.length_drop];omega)) (fun k _=>?_),trivial⟩,⟨trivial,by show 8≤(q.drop 16).length;simp[List.length_drop]at*;omega⟩,?_⟩
     ·rw[Ci]
      try exact congrArg (bf q) (by first|rfl|(simp only[show Int.toNat 8=8 from rfl,show Int.toNat 16=16 from rfl,show Int.toNat 24=24 from rfl];omega))
     intro v3 f3;replace f3:v3=Gr (q.drop 16):=f3;subst f3;conv=>whnf
     repeat' ((first|apply Ap<;>intro _|apply An)<;>conv=>whnf)
     all_goals try exact⟨by omega⟩
     refine⟨.of b (q.drop 24),⟨AE.imm' (by first|(simp only[List.length_drop];done)|(simp[List.length_drop];done)|(simp[List.length_drop];omega)) (fun k _=>?_),trivial⟩,⟨trivial,by show 8≤(q.drop 24).length;simp[List.length_drop]at*;omega⟩,?_⟩
     ·rw[Ci]
      try exact congrArg (bf q) (by first|rfl|(simp only[show Int.toNat 8=8 from rfl,show Int.toNat 16=16 from rfl,show Int.toNat 24=24 from rfl];omega))
     intro v4 f4;replace f4:v4=Gr (q.drop 24):=f4;subst f4;conv=>whnf
     repeat' ((first|apply Ap<;>intro _|apply An)<;>conv=>whnf)
     all_goals try exact⟨by omega⟩
     ·rename_i g6;have g7:=AJd g6;have k1:Bv (q.drop 8)=Bv q:=Gq (n:=0) g7.1 (by omega);have k2:Bv (q.drop 16)=Bv q:=by rw[←k1];exact Gq g7.2.1 (by omega)
      have k3:Bv (q.drop 24)=Bv q:=by rw[←k2];exact Gq g7.2.2.1 (by omega)
      have k4:Bv (q.drop 32)=Bv q:=by rw[←k3];exact Gq g7.2.2.2 (by omega)
      refine⟨q.drop 32,[],?_⟩;conv=>whnf
      repeat' (apply An<;>conv=>whnf)
      ·exact⟨⟨rfl,rfl⟩⟩
      ·exact⟨by simp[List.length_drop]⟩
      ·exact⟨fun k _=>(Ci _ _ _).symm⟩
      ·exact⟨⟨⟨by rw[k4];exact q1,by simp only[List.length_drop];omega⟩,by simp only[List.length_drop];omega⟩⟩
     ·refine vo hΓ ?_;conv=>whnf
      refine⟨q,[],?_⟩;conv=>whnf
      repeat' (apply An<;>conv=>whnf)
      all_goals try exact⟨Ah⟩
      exact⟨⟨⟨q1,by omega⟩,q2⟩⟩
    ·refine vo hΓ ?_;conv=>whnf
     refine⟨q,[],?_⟩;conv=>whnf
     repeat' (apply An<;>conv=>whnf)
     all_goals try exact⟨Ah⟩
     exact⟨⟨⟨q1,by omega⟩,q2⟩⟩
   ·refine⟨r.drop 9,[],?_⟩;conv=>whnf
    repeat' (apply An<;>conv=>whnf)
    ·exact⟨⟨rfl,rfl⟩⟩
    ·exact⟨by first|(simp[List.length_drop];done)|(simp[List.length_drop];omega)⟩
    ·exact⟨fun k _=>((Ci _ _ _).trans (congrArg (bf r) (by first|rfl|(simp only[show Int.toNat 8=8 from rfl,show Int.toNat 16=16 from rfl];omega)))).symm⟩
    refine⟨⟨⟨?_,by simp only[List.length_drop];omega⟩,by simp only[List.length_drop];omega⟩⟩;exact h9
  ·rename_i g1 g2;have h9:Bv (r.drop 9)=Bv l:=by rw[←h1];exact Gq (ACw g1) (by omega)
   refine⟨r.drop 9,[],?_⟩;conv=>whnf
   repeat' (apply An<;>conv=>whnf)
   ·exact⟨⟨rfl,rfl⟩⟩
   ·exact⟨by first|(simp[List.length_drop];done)|(simp[List.length_drop];omega)⟩
   ·exact⟨fun k _=>((Ci _ _ _).trans (congrArg (bf r) (by first|rfl|(simp only[show Int.toNat 8=8 from rfl,show Int.toNat 16=16 from rfl];omega)))).symm⟩
   refine⟨⟨⟨?_,by simp only[List.length_drop];omega⟩,by simp only[List.length_drop];omega⟩⟩;exact h9
  ·refine⟨r.drop 1,[],?_⟩;conv=>whnf
   repeat' (apply An<;>conv=>whnf)
   ·exact⟨⟨rfl,rfl⟩⟩
   ·exact⟨by first|(simp[List.length_drop];done)|(simp[List.length_drop];omega)⟩
   ·exact⟨fun k _=>((Ci _ _ _).trans (congrArg (bf r) (by first|rfl|(simp only[show Int.toNat 8=8 from rfl,show Int.toNat 16=16 from rfl];omega)))).symm⟩
   refine⟨⟨⟨?_,by simp only[List.length_drop];omega⟩,by simp only[List.length_drop];omega⟩⟩;exact h1
 ·refine⟨r.drop 1,[],?_⟩;conv=>whnf
  repeat' (apply An<;>conv=>whnf)
  ·exact⟨⟨rfl,rfl⟩⟩
  ·exact⟨by simp only[List.length_drop]⟩
  ·exact⟨fun k _=>(Ci _ _ _).symm⟩
  refine⟨⟨⟨?_,by simp only[List.length_drop];omega⟩,by simp only[List.length_drop];omega⟩⟩;rw[←i1,hst (by omega),if_pos (by omega)]
 ·refine⟨r.drop 2,[],?_⟩;conv=>whnf
  repeat' (apply An<;>conv=>whnf)
  ·exact⟨⟨rfl,rfl⟩⟩
  ·exact⟨by simp only[List.length_drop]⟩
  ·exact⟨fun k _=>(Ci _ _ _).symm⟩
  refine⟨⟨⟨?_,by simp only[List.length_drop];omega⟩,by simp only[List.length_drop];omega⟩⟩;rw[←i1,hst (by omega)];repeat' (first|rw[if_pos (by omega)]|rw[if_neg (by omega)])
  refine((congrArg (·&&Bv _) ?_).trans (Bool.true_and _)).symm;simp only[Ut,Bool.and_eq_true,decide_eq_true_eq];omega
 ·refine⟨r.drop 3,[],?_⟩;conv=>whnf
  repeat' (apply An<;>conv=>whnf)
  ·exact⟨⟨rfl,rfl⟩⟩
  ·exact⟨by simp only[List.length_drop]⟩
  ·exact⟨fun k _=>(Ci _ _ _).symm⟩
  refine⟨⟨⟨?_,by simp only[List.length_drop];omega⟩,by simp only[List.length_drop];omega⟩⟩;rw[←i1,hst (by omega)];repeat' (first|rw[if_pos (by omega)]|rw[if_neg (by omega)])
  refine((congrArg (·&&Bv _) ?_).trans (Bool.true_and _)).symm;simp only[Ut,Bool.and_eq_true,decide_eq_true_eq,show(0x80:UInt8).toNat=128 from rfl,show(0xBF:UInt8).toNat=191 from rfl];omega
 ·refine⟨r.drop 4,[],?_⟩;conv=>whnf
  repeat' (apply An<;>conv=>whnf)
  ·exact⟨⟨rfl,rfl⟩⟩
  ·exact⟨by simp only[List.length_drop]⟩
  ·exact⟨fun k _=>(Ci _ _ _).symm⟩
  refine⟨⟨⟨?_,by simp only[List.length_drop];omega⟩,by simp only[List.length_drop];omega⟩⟩;rw[←i1,hst (by omega)];repeat' (first|rw[if_pos (by omega)]|rw[if_neg (by omega)])
  refine((congrArg (·&&Bv _) ?_).trans (Bool.true_and _)).symm;simp only[Ut,Bool.and_eq_true,decide_eq_true_eq,show(0x80:UInt8).toNat=128 from rfl,show(0xBF:UInt8).toNat=191 from rfl];omega
 ·refine vo hΓ ?_;conv=>whnf
  have:r=[]:=List.length_eq_zero_iff.1 (by omega)
  rw[←i1,this];exact Ld.refl _
def ADr:A7:=Iq (fun(a:By)=>[a.v]) pR (fun a=> .bool (Bv a.l))
theorem sD:FOk Tryz.prog G 150 ADr:=Bj fun a ha Φ h=>by
 refine CP.by1 ha.1 ?_;have hΓ:=Ab Tryz.f150.ntmps _ _ [] (.cons (AFk) .nil) .nil;refine Aw hΓ Tryz.func150 ?_;conv=>whnf
 repeat' ((first|apply Ap<;>intro _|apply An)<;>conv=>whnf)
 refine⟨.of _ _,⟨AE.refl _,trivial⟩,⟨trivial,ha.2⟩,?_⟩;intro r hr;conv=>whnf
 repeat' ((first|apply Ap<;>intro _|apply An)<;>conv=>whnf)
 rw[hr];exact h
def C0(s:WS):WS:=⟨s.at',s.out,true⟩
def Ea(s:WS)(t:Tk):Bool:=s.bad||(decide (t.kind=4)&& !Bv t.l)|| !decide (t.n=0)||decide (32768<t.l.length)
def Cd(s:WS)(t:Tk):WS:=
 if Ea s t then C0 s
 else⟨s.at',s.out++Aq (if t.kind=4 then 3 else 2) t.l.length++t.l,false⟩
structure ByA where
 a:Gt
 s:WS
 t:Tk
def ALc:Ai:=L8 (fun(x:ByA)=>[.ref 0 [],Sk x.t]) (fun x=>wsH x.a x.s) (fun x=>x.s.out.length≤800000∧(x.t.kind=3∨x.t.kind=4)∧x.t.l.length≤1000000)
 (fun x=> .tup .nil) (fun x=>Dg x.a (Cd x.s x.t))
theorem rH:Aj Tryz.prog (L5 Tryz.f254.ntmps [(150,ADr)] [(262,dV)] []):=Ab Tryz.f254.ntmps [(150,ADr)] [(262,dV)] [] (.cons (sD) .nil) (.cons (hg gD) .nil)
def AVa:Ai:=fun xs h κ=>xs.length=2∧B4 Tryz.prog (L5 Tryz.f254.ntmps [(150,ADr)] [(262,dV)] []) (Bd Tryz.f254) Tryz.f254.results.toList xs h κ
theorem AIy:Af Tryz.prog G 254 AVa:=Q6 2 rH Tryz.func254
theorem Pz(s:WS)(m n:Nat):C4 s m (n:Nat)=⟨s.at',s.out++Aq m n,s.bad⟩:=by
 have h1:gY ⟨s.out,m,(n:Nat)⟩=s.out++Aq m n:=if_neg (show¬((n:Nat):Int)<0 by omega);have h2:wP ⟨s.out,m,(n:Nat)⟩=0:=if_neg (show¬((n:Nat):Int)<0 by omega);simp[C4,h1,h2]
theorem Cj(m n:Nat):(Aq m n).length≤9:=by
 have:=mN n
 simp[Aq,Cs]
 omega
theorem AH0:Af Tryz.prog G 254 ALc:=Cq AIy (fun⟨a,s,⟨kind,n,lent,l⟩⟩ κ ⟨hb,hk,ht⟩ h=>by
 replace hb:s.out.length≤800000:=hb;replace hk:kind=3∨kind=4:=hk;replace ht:l.length≤1000000:=ht;replace h:κ (.tup .nil) (Dg a (Cd s ⟨kind,n,lent,l⟩)):=h;refine⟨rfl,?_⟩;refine vj rH ?_;conv=>whnf
 rcases hk with rfl|rfl
 ·conv=>whnf
  repeat' ((first|apply Ap<;>intro _|apply An)<;>conv=>whnf)
  all_goals try(exfalso;simp_all;done)
  ·have e:Cd s ⟨3,n,lent,l⟩=C0 s:=if_pos (by simp_all[Ea,By.l]<;>omega);rw[e]at h;refine⟨[some 0,some 1,some 1], .tup .nil,Dg a (C0 s),?_⟩;conv=>whnf
   repeat' (apply An<;>conv=>whnf)
   all_goals try first|exact⟨Ba⟩|exact h
   all_goals exact⟨by simp_all[C0]<;>omega⟩
  ·have e:Cd s ⟨3,n,lent,l⟩=C0 s:=if_pos (by simp_all[Ea,By.l]<;>omega);rw[e]at h;refine⟨[some 0,some 1,some 1], .tup .nil,Dg a (C0 s),?_⟩;conv=>whnf
   repeat' (apply An<;>conv=>whnf)
   all_goals try first|exact⟨Ba⟩|exact h
   all_goals exact⟨by simp_all[C0]<;>omega⟩
  ·have e:Cd s ⟨3,n,lent,l⟩=C0 s:=if_pos (by simp_all[Ea,By.l]<;>omega);rw[e]at h;refine⟨[some 0,some 1,some 1], .tup .nil,Dg a (C0 s),?_⟩;conv=>whnf
   repeat' (apply An<;>conv=>whnf)
   all_goals try first|exact⟨Ba⟩|exact h
   all_goals exact⟨by simp_all[C0]<;>omega⟩
  ·have e:Cd s ⟨3,n,lent,l⟩=⟨s.at',s.out++Aq 2 l.length++l,false⟩:=if_neg (by simp_all[Ea,By.l]<;>omega);rw[e]at h;refine⟨⟨a,s,2,(l.length:Nat)⟩,[some 0,some 1],?_⟩;conv=>whnf
   repeat' ((first|apply Ap<;>intro _|apply An)<;>conv=>whnf)
   all_goals try exact⟨Ba⟩
   ·exact⟨by simp_all<;>omega⟩
   ·refine⟨?_⟩
    show s.out.length≤900000∧2<8∧((l.length:Nat):Int)≤9223372036854775807
    exact⟨by omega,by decide,by omega⟩
   have hb0:s.bad=false:=by simp_all
   have e0:=Pz s 2 l.length;have e1:(C4 s 2 (l.length:Nat)).out=s.out++Aq 2 l.length:=by rw[e0]
   have e2:(C4 s 2 (l.length:Nat)).bad=false:=by rw[e0];exact hb0
   have e3:(C4 s 2 (l.length:Nat)).at'=s.at':=rfl;have hh:=Cj 2 l.length;refine Or.inl ?_;conv=>whnf
   repeat' ((first|apply Ap<;>intro _|apply An)<;>conv=>whnf)
   ·exact⟨rfl⟩
   ·refine⟨?_⟩
    show((C4 s 2 (l.length:Nat)).out.length+l.length)*1≤_∧(C4 s 2 (l.length:Nat)).out.length+l.length≤_
    rw[e1,List.length_append];omega
   refine⟨[some 0,some 1,some 6], .tup .nil,Dg a ⟨s.at',s.out++Aq 2 l.length++l,false⟩,?_⟩;conv=>whnf
   repeat' (apply An<;>conv=>whnf)
   all_goals try first|exact⟨Ba⟩|exact h
   ·refine⟨?_⟩
    show 0=0∧(C4 s 2 (l.length:Nat)).out.length+l.length=(s.out++Aq 2 l.length++l).length∧(C4 s 2 (l.length:Nat)).out.length+l.length=(s.out++Aq 2 l.length++l).length
    rw[e1];simp[Nat.add_assoc]
   ·refine⟨?_⟩
    show(C4 s 2 (l.length:Nat)).out.length+l.length=(s.out++Aq 2 l.length++l).length
    rw[e1];simp[Nat.add_assoc]
   ·refine⟨fun k hk=>A5 ?_ trivial⟩;replace hk:k<(s.out++Aq 2 l.length++l).length:=hk
    show(if k<(C4 s 2 (l.length:Nat)).out.length then bf (C4 s 2 (l.length:Nat)).out k else bf l (k - (C4 s 2 (l.length:Nat)).out.length))=bf (s.out++Aq 2 l.length++l) k
    rw[e1,Jc _ l];rw[List.length_append]at hk
    by_cases h1:k<(s.out++Aq 2 l.length).length
    ·rw[if_pos h1,if_neg (by omega)]
    ·rw[if_neg h1,if_pos (by omega)]
 ·conv=>whnf
  repeat' ((first|apply Ap<;>intro _|apply An)<;>conv=>whnf)
  all_goals try(exfalso;simp_all;done)
  ·have e:Cd s ⟨4,n,lent,l⟩=C0 s:=if_pos (by simp_all[Ea,By.l]<;>omega);rw[e]at h;refine⟨[some 0,some 1,some 1], .tup .nil,Dg a (C0 s),?_⟩;conv=>whnf
   repeat' (apply An<;>conv=>whnf)
   all_goals try first|exact⟨Ba⟩|exact h
   all_goals exact⟨by simp_all[C0]<;>omega⟩
  ·refine⟨.of _ _,rfl,⟨trivial,ht⟩,?_⟩;conv=>whnf
   repeat' ((first|apply Ap<;>intro _|apply An)<;>conv=>whnf)
   all_goals try(exfalso;simp_all;done)
   ·have e:Cd s ⟨4,n,lent,l⟩=C0 s:=if_pos (by simp_all[Ea,By.l]<;>omega);rw[e]at h;refine⟨[some 0,some 1,some 1], .tup .nil,Dg a (C0 s),?_⟩;conv=>whnf
    repeat' (apply An<;>conv=>whnf)
    all_goals try first|exact⟨Ba⟩|exact h
    all_goals exact⟨by simp_all[C0]<;>omega⟩
   ·have e:Cd s ⟨4,n,lent,l⟩=C0 s:=if_pos (by simp_all[Ea,By.l]<;>omega);rw[e]at h;refine⟨[some 0,some 1,some 1], .tup .nil,Dg a (C0 s),?_⟩;conv=>whnf
    repeat' (apply An<;>conv=>whnf)
    all_goals try first|exact⟨Ba⟩|exact h
    all_goals exact⟨by simp_all[C0]<;>omega⟩
   ·have e:Cd s ⟨4,n,lent,l⟩=C0 s:=if_pos (by simp_all[Ea,By.l]<;>omega);rw[e]at h;refine⟨[some 0,some 1,some 1], .tup .nil,Dg a (C0 s),?_⟩;conv=>whnf
    repeat' (apply An<;>conv=>whnf)
    all_goals try first|exact⟨Ba⟩|exact h
    all_goals exact⟨by simp_all[C0]<;>omega⟩
   ·have e:Cd s ⟨4,n,lent,l⟩=⟨s.at',s.out++Aq 3 l.length++l,false⟩:=if_neg (by simp_all[Ea,By.l]<;>omega);rw[e]at h;refine⟨⟨a,s,3,(l.length:Nat)⟩,[some 0,some 1],?_⟩;conv=>whnf
    repeat' ((first|apply Ap<;>intro _|apply An)<;>conv=>whnf)
    all_goals try exact⟨Ba⟩
    ·exact⟨by simp_all<;>omega⟩
    ·refine⟨?_⟩
     show s.out.length≤900000∧3<8∧((l.length:Nat):Int)≤9223372036854775807
     exact⟨by omega,by decide,by omega⟩
    have hb0:s.bad=false:=by simp_all
    have e0:=Pz s 3 l.length;have e1:(C4 s 3 (l.length:Nat)).out=s.out++Aq 3 l.length:=by rw[e0]
    have e2:(C4 s 3 (l.length:Nat)).bad=false:=by rw[e0];exact hb0
    have e3:(C4 s 3 (l.length:Nat)).at'=s.at':=rfl;have hh:=Cj 3 l.length;refine Or.inl ?_;conv=>whnf
    repeat' ((first|apply Ap<;>intro _|apply An)<;>conv=>whnf)
    ·exact⟨rfl⟩
    ·refine⟨?_⟩
     show((C4 s 3 (l.length:Nat)).out.length+l.length)*1≤_∧(C4 s 3 (l.length:Nat)).out.length+l.length≤_
     rw[e1,List.length_append];omega
    refine⟨[some 0,some 1,some 6], .tup .nil,Dg a ⟨s.at',s.out++Aq 3 l.length++l,false⟩,?_⟩;conv=>whnf
    repeat' (apply An<;>conv=>whnf)
    all_goals try first|exact⟨Ba⟩|exact h
    ·refine⟨?_⟩
     show 0=0∧(C4 s 3 (l.length:Nat)).out.length+l.length=(s.out++Aq 3 l.length++l).length∧(C4 s 3 (l.length:Nat)).out.length+l.length=(s.out++Aq 3 l.length++l).length
     rw[e1];simp[Nat.add_assoc]
    ·refine⟨?_⟩
     show(C4 s 3 (l.length:Nat)).out.length+l.length=(s.out++Aq 3 l.length++l).length
     rw[e1];simp[Nat.add_assoc]
    ·refine⟨fun k hk=>A5 ?_ trivial⟩;replace hk:k<(s.out++Aq 3 l.length++l).length:=hk
     show(if k<(C4 s 3 (l.length:Nat)).out.length then bf (C4 s 3 (l.length:Nat)).out k else bf l (k - (C4 s 3 (l.length:Nat)).out.length))=bf (s.out++Aq 3 l.length++l) k
     rw[e1,Jc _ l];rw[List.length_append]at hk
     by_cases h1:k<(s.out++Aq 3 l.length).length
     ·rw[if_pos h1,if_neg (by omega)]
     ·rw[if_neg h1,if_pos (by omega)]
 ) (fun _=>by simp[wsH,Dg]) (fun _=>by simp[Hf,Ie]) (fun x u hu=>Lz _ _ u hu)
def Lx(f:WS→WS):Nat→WS→WS|0,s=>s|n+1,s=>if s.bad then s else Lx f n (f s)
def J9(k:Nat)(t:Tk):Bool:=decide (0<t.l.length)||decide (t.n<0)||decide (64<t.n)||decide (k=0)
def Cr(a:Gt):Nat→WS→WS
 |0=>fun s=>
  if a.n≤s.at'∨32768<s.out.length then C0 s
  else if(a.ts s.at').kind=1 then Hg ⟨s.at'+1,s.out,s.bad⟩ 0 (a.ts s.at')
  else if(a.ts s.at').kind=2 then Hg ⟨s.at'+1,s.out,s.bad⟩ 1 (a.ts s.at')
  else if(a.ts s.at').kind=3∨(a.ts s.at').kind=4 then Cd ⟨s.at'+1,s.out,s.bad⟩ (a.ts s.at')
  else C0 ⟨s.at'+1,s.out,s.bad⟩
 |k+1=>fun s=>
  if a.n≤s.at'∨32768<s.out.length then C0 s
  else if(a.ts s.at').kind=1 then Hg ⟨s.at'+1,s.out,s.bad⟩ 0 (a.ts s.at')
  else if(a.ts s.at').kind=2 then Hg ⟨s.at'+1,s.out,s.bad⟩ 1 (a.ts s.at')
  else if(a.ts s.at').kind=3∨(a.ts s.at').kind=4 then Cd ⟨s.at'+1,s.out,s.bad⟩ (a.ts s.at')
  else if(a.ts s.at').kind=5∧J9 (k+1) (a.ts s.at')=false then Lx (Cr a k) (a.ts s.at').n.toNat (C4 ⟨s.at'+1,s.out,s.bad⟩ 4 (a.ts s.at').n)
  else C0 ⟨s.at'+1,s.out,s.bad⟩
def Ga(a:Gt):Nat→WS→Tk→WS
 |0=>fun s _=>C0 s
 |k+1=>fun s t=>if J9 (k+1) t then C0 s else Lx (Cr a k) t.n.toNat (C4 s 4 t.n)
def mU(t:Tk):Prop:=t.kind≠6∧t.l.length≤100000∧t.n≤9223372036854775807
def Zj(a:Gt):Prop:=a.n≤600∧∀k,k<a.n→mU (a.ts k)
structure ItA where
 a:Gt
 s:WS
structure MaA where
 a:Gt
 s:WS
 t:Tk
def H98(k:Nat):Ai:=L8 (fun(x:ItA)=>[.ref 0 [], .int .i64 (7 - (k:Nat))]) (fun x=>wsH x.a x.s) (fun x=>x.s.out.length≤70000∧Zj x.a∧k≤7)
 (fun x=> .tup .nil) (fun x=>Dg x.a (Cr x.a k x.s))
def ALd(k:Nat):Ai:=L8 (fun(x:MaA)=>[.ref 0 [],Sk x.t, .int .i64 (7 - (k:Nat))]) (fun x=>wsH x.a x.s) (fun x=>x.s.out.length≤40000∧x.t.kind=5∧Zj x.a∧k≤7)
 (fun x=> .tup .nil) (fun x=>Dg x.a (Ga x.a k x.s x.t))
theorem Ji(s:WS)(m:Nat)(n:Int):(C4 s m n).out.length≤s.out.length+9:=by
 simp only[C4,gY]
 split
 ·simp
 ·have:=Cj m n.toNat
  simp
  omega
theorem Zs(s:WS)(t:Tk):(Cd s t).out.length≤s.out.length+32777:=by
 simp only[Cd]
 split
 ·simp[C0]
 ·rename_i h
  have:=Cj (if t.kind=4 then 3 else 2) t.l.length
  simp[Ea]at h
  simp
  omega
theorem mY{f:WS→WS}(hf:∀s,s.out.length≤70000→(f s).out.length≤70000):∀(n:Nat) (s:WS),s.out.length≤70000→(Lx f n s).out.length≤70000
 |0,s,h=>h
 |n+1,s,h=>by
  simp only[Lx]
  split
  ·exact h
  ·exact mY hf n _ (hf s h)
theorem dS(a:Gt):∀(k:Nat) (s:WS),s.out.length≤70000→(Cr a k s).out.length≤70000
 |0,s,h=>by
  simp only[Cr]
  split
  ·exact h
  ·rename_i h1;have h2:s.out.length≤32768:=by omega
   repeat' split
   ·exact Nat.le_trans (Ji _ _ _) (by simp only[];omega)
   ·exact Nat.le_trans (Ji _ _ _) (by simp only[];omega)
   ·exact Nat.le_trans (Zs _ _) (by simp only[];omega)
   ·exact h
 |k+1,s,h=>by
  simp only[Cr]
  split
  ·exact h
  ·rename_i h1;have h2:s.out.length≤32768:=by omega
   repeat' split
   ·exact Nat.le_trans (Ji _ _ _) (by simp only[];omega)
   ·exact Nat.le_trans (Ji _ _ _) (by simp only[];omega)
   ·exact Nat.le_trans (Zs _ _) (by simp only[];omega)
   ·exact mY (dS a k) _ _ (Nat.le_trans (Ji _ _ _) (by simp only[];omega))
   ·exact h
def AVb(S:Ai):Ai:=fun xs h κ=>xs.length=3∧B4 Tryz.prog (L5 Tryz.f255.ntmps [] [(262,dV),(215,S)] []) (Bd Tryz.f255) Tryz.f255.results.toList xs h κ
theorem P8{S:Ai}(hS:Af Tryz.prog G 215 S):Aj Tryz.prog (L5 Tryz.f255.ntmps [] [(262,dV),(215,S)] []):=Ab _ _ _ _ .nil (.cons (hg gD) (.cons hS .nil))
theorem uA{S:Ai}(hS:Af Tryz.prog G 215 S):Af Tryz.prog G 255 (AVb S):=Tm (c:=Bd Tryz.f255) (np:=3) (P8 hS) Tryz.func255 rfl (by decide) rfl (by decide)
theorem ABw(n:Nat):Af Tryz.prog G n (fun _ _ _=>False):=⟨fun _ _ _ _ _ h=>h.elim,fun _ _ _ _ _ _ _ _ _ h=>h.elim⟩
theorem vU:Af Tryz.prog G 255 (ALd 0):=Cq (uA (ABw 215)) (fun⟨a,s,⟨kind,n,lent,l⟩⟩ κ ⟨hb,hk,ha,_⟩ h=>by
 replace hb:s.out.length≤40000:=hb;obtain rfl:kind=5:=hk;replace h:κ (.tup .nil) (Dg a (C0 s)):=h;refine⟨rfl,?_⟩;refine K9 (Aj.inner (P8 (ABw 215)) _) Uw 1000 _ [] _ (by kernel_rfl) rfl ?_;conv=>whnf
 repeat' ((first|apply Ap<;>intro _|apply An)<;>conv=>whnf)
 all_goals try(exfalso;simp_all;done)
 all_goals
  refine⟨[some 0,some 1,some 1], .tup .nil,Dg a (C0 s),?_⟩;conv=>whnf
  repeat' (apply An<;>conv=>whnf)
  all_goals try first|exact⟨Ba⟩|exact h
  all_goals exact⟨by simp_all[C0]⟩
 ) (fun _=>by simp[wsH,Dg]) (fun _=>by simp[Hf,Ie]) (fun x u hu=>Lz _ _ u hu)
theorem vT(k:Nat)(h98:Af Tryz.prog G 215 (H98 k)):Af Tryz.prog G 255 (ALd (k+1)):=Cq (uA h98) (fun⟨a,s,⟨kind,n,lent,l⟩⟩ κ ⟨hb,hk,ha,hk7⟩ h=>by
 replace hb:s.out.length≤40000:=hb;obtain rfl:kind=5:=hk;replace ha:Zj a:=ha;refine⟨rfl,?_⟩;refine K9 (Aj.inner (P8 h98) _) Uw 1000 _ [] _ (by kernel_rfl) rfl ?_;conv=>whnf
 repeat' ((first|apply Ap<;>intro _|apply An)<;>conv=>whnf)
 all_goals try(exfalso;simp_all;done)
 all_goals try(exfalso;simp_all;omega)
 ·have e:Ga a (k+1) s ⟨5,n,lent,l⟩=C0 s:=if_pos (by simp_all[J9]<;>omega);replace h:κ (.tup .nil) (Dg a (Ga a (k+1) s ⟨5,n,lent,l⟩)):=h;rw[e]at h;refine⟨[some 0,some 1,some 1], .tup .nil,Dg a (C0 s),?_⟩;conv=>whnf
  repeat' (apply An<;>conv=>whnf)
  all_goals try first|exact⟨Ba⟩|exact h
  all_goals exact⟨by simp_all[C0]⟩
 ·have e:Ga a (k+1) s ⟨5,n,lent,l⟩=C0 s:=if_pos (by simp_all[J9]<;>omega);replace h:κ (.tup .nil) (Dg a (Ga a (k+1) s ⟨5,n,lent,l⟩)):=h;rw[e]at h;refine⟨[some 0,some 1,some 1], .tup .nil,Dg a (C0 s),?_⟩;conv=>whnf
  repeat' (apply An<;>conv=>whnf)
  all_goals try first|exact⟨Ba⟩|exact h
  all_goals exact⟨by simp_all[C0]⟩
 ·have e:Ga a (k+1) s ⟨5,n,lent,l⟩=C0 s:=if_pos (by simp_all[J9]<;>omega);replace h:κ (.tup .nil) (Dg a (Ga a (k+1) s ⟨5,n,lent,l⟩)):=h;rw[e]at h;refine⟨[some 0,some 1,some 1], .tup .nil,Dg a (C0 s),?_⟩;conv=>whnf
  repeat' (apply An<;>conv=>whnf)
  all_goals try first|exact⟨Ba⟩|exact h
  all_goals exact⟨by simp_all[C0]⟩
 ·have hc:J9 (k+1) ⟨5,n,lent,l⟩=false:=by simp_all[J9]<;>omega
  have e:Ga a (k+1) s ⟨5,n,lent,l⟩=Lx (Cr a k) n.toNat (C4 s 4 n):=if_neg (by simp[hc]);replace h:κ (.tup .nil) (Dg a (Ga a (k+1) s ⟨5,n,lent,l⟩)):=h;rw[e]at h;simp only[J9,Bool.or_eq_false_iff,decide_eq_false_iff_not]at hc;obtain⟨m,rfl⟩:∃m:Nat,n=m:=⟨n.toNat,by omega⟩;rw[Int.toNat_natCast]at h;have hm:m≤64:=by omega
  refine⟨⟨a,s,4,(m:Nat)⟩,[some 0,some 1],?_⟩;conv=>whnf
  repeat' ((first|apply Ap<;>intro _|apply An)<;>conv=>whnf)
  all_goals try exact⟨Ba⟩
  ·refine⟨?_⟩
   show s.out.length≤900000∧4<8∧((m:Nat):Int)≤9223372036854775807
   exact⟨by omega,by decide,by omega⟩
  generalize hs0:C4 s 4 (m:Nat)=s0 at h;have hl0:s0.out.length≤70000:=by rw[←hs0];exact Nat.le_trans (Ji _ _ _) (by omega)
  refine A4 (ι:=Nat×WS) (fun x=>[(0, .ref 0 []),(2, .int .i64 (7 - ((k+1:Nat):Int))),(4, .ref 3 []),(6, .int .i64 (x.1:Nat))]) (fun x=>[some (wsV a x.2 2),none,some (G1 x.2.out),some (Sk ⟨5,(m:Nat),lent,l⟩)]) (fun x=>x.1≤m∧Lx (Cr a k) (m - x.1) x.2=Lx (Cr a k) m s0∧x.2.out.length≤70000) (fun x=>m - x.1) (0,s0) [some 0,some 1,some 5,some 2] ?_ (fun⟨i,x⟩ hi=>K9 (Aj.inner (P8 h98) _) Uw 1000 _ [] _ (by kernel_rfl) rfl ?_)
  ·conv=>whnf
   repeat' ((first|apply Ap<;>intro _|apply An)<;>conv=>whnf)
   all_goals try first|exact⟨Ba⟩|exact⟨⟨Nat.zero_le _,rfl,hl0⟩⟩
  ·obtain⟨hi1,hi2,hi3⟩:i≤m∧Lx (Cr a k) (m - i) x=Lx (Cr a k) m s0∧x.out.length≤70000:=hi;conv=>whnf
   repeat' ((first|apply Ap<;>intro _|apply An)<;>conv=>whnf)
   ·rename_i h1 h2;have hx:x.bad=false:=by simpa using h2
    have him:i<m:=by simpa using h1
    refine⟨⟨a,x⟩,[some 0,some 2],?_⟩;conv=>whnf
    repeat' ((first|apply Ap<;>intro _|apply An)<;>conv=>whnf)
    all_goals try first|exact⟨Ba⟩|exact⟨⟨hi3,ha,by omega⟩⟩
    ·exact⟨by rw[A3 (by omega) (by omega)];omega⟩
    refine⟨(i+1,Cr a k x),[some 0,some 1,some 6,some 3],?_⟩;conv=>whnf
    repeat' (apply An<;>conv=>whnf)
    all_goals try exact⟨Ba⟩
    ·exact⟨by rw[A3 (by show _≤((i:Nat):Int)+1;omega) (by show((i:Nat):Int)+1≤_;omega)];rfl⟩
    ·refine⟨⟨⟨him,?_,dS a k x hi3⟩,by show m - (i+1)<m - i;omega⟩⟩
     show Lx (Cr a k) (m - (i+1)) (Cr a k x)=_
     rw[←hi2,show m - i=m - (i+1)+1 by omega,Lx,hx];rfl
   ·rename_i h1 h2;have hx:x.bad=true:=by simpa using h2
    have him:i<m:=by simpa using h1
    have he:Lx (Cr a k) m s0=x:=by
     rw[←hi2,show m - i=m - (i+1)+1 by omega,Lx,hx];rfl
    rw[he]at h;refine K9 (Aj.inner (P8 h98) _) Uw 1000 _ [] _ (by kernel_rfl) rfl ?_;conv=>whnf
    refine⟨[some 0,some 1,some 2], .tup .nil,Dg a x,?_⟩;conv=>whnf
    repeat' (apply An<;>conv=>whnf)
    all_goals try first|exact⟨Ba⟩|exact h
    all_goals exact⟨by simp_all⟩
   ·rename_i h1
    have him:i=m:=by
     have:¬((i:Nat):Int)<(m:Nat):=by simpa using h1
     omega
    have he:Lx (Cr a k) m s0=x:=by
     rw[←hi2,him,Nat.sub_self,Lx]
    rw[he]at h;refine K9 (Aj.inner (P8 h98) _) Uw 1000 _ [] _ (by kernel_rfl) rfl ?_;conv=>whnf
    refine⟨[some 0,some 1,some 2], .tup .nil,Dg a x,?_⟩;conv=>whnf
    repeat' (apply An<;>conv=>whnf)
    all_goals try first|exact⟨Ba⟩|exact h
    all_goals exact⟨by simp_all⟩
 ) (fun _=>by simp[wsH,Dg]) (fun _=>by simp[Hf,Ie]) (fun x u hu=>Lz _ _ u hu)
def S98(S:Ai):Ai:=fun xs h κ=>xs.length=2∧B4 Tryz.prog (L5 Tryz.f215.ntmps [] [(253,ALb),(254,ALc),(255,S)] []) (Bd Tryz.f215) Tryz.f215.results.toList xs h κ
theorem zA{S:Ai}(hS:Af Tryz.prog G 255 S):Aj Tryz.prog (L5 Tryz.f215.ntmps [] [(253,ALb),(254,ALc),(255,S)] []):=Ab _ _ _ _ .nil (.cons (hg AGz) (.cons AH0 (.cons hS .nil)))
theorem AOi{S:Ai}(hS:Af Tryz.prog G 255 S):Af Tryz.prog G 215 (S98 S):=Tm (c:=Bd Tryz.f215) (np:=2) (zA hS) Tryz.func215 rfl (by decide) rfl (by decide)
def B6(s:WS):WS:=⟨s.at'+1,s.out,s.bad⟩
theorem Zt(a:Gt)(k:Nat)(s:WS):Cr a k s=
  if a.n≤s.at'∨32768<s.out.length then C0 s
  else if(a.ts s.at').kind=1 then Hg (B6 s) 0 (a.ts s.at')
  else if(a.ts s.at').kind=2 then Hg (B6 s) 1 (a.ts s.at')
  else if(a.ts s.at').kind=3∨(a.ts s.at').kind=4 then Cd (B6 s) (a.ts s.at')
  else if(a.ts s.at').kind=5 then Ga a k (B6 s) (a.ts s.at')
  else C0 (B6 s):=by
 cases k with
 |zero=>simp only[Cr,Ga,B6,ite_self]
 |succ k=>
  simp only[Cr,Ga,B6];repeat' (first|rfl|split)
  all_goals simp_all
theorem AB8(k:Nat)(h125:Af Tryz.prog G 255 (ALd k)):Af Tryz.prog G 215 (H98 k):=Cq (AOi h125) (fun⟨a,s⟩ κ ⟨hb,ha,hk7⟩ h=>by
 replace hb:s.out.length≤70000:=hb;replace ha:Zj a:=ha;replace h:κ (.tup .nil) (Dg a (Cr a k s)):=h;rw[Zt]at h;refine⟨rfl,?_⟩;refine K9 (Aj.inner (zA h125) _) Uw 1000 _ [] _ (by kernel_rfl) rfl ?_;have hn6:a.n≤600:=ha.1;conv=>whnf
 repeat' ((first|apply Ap<;>intro _|apply An)<;>conv=>whnf)
 all_goals simp only[decide_eq_true_eq,decide_eq_false_iff_not,beq_iff_eq,beq_eq_false_iff_ne]at*
 ·rw[if_pos (by omega)]at h;refine⟨[some 0,some 1,some 1], .tup .nil,Dg a (C0 s),?_⟩;conv=>whnf
  repeat' (apply An<;>conv=>whnf)
  all_goals try first|exact⟨Ba⟩|exact h
  all_goals exact⟨by simp_all[C0]⟩
 ·rw[if_pos (by omega)]at h;refine⟨[some 0,some 1,some 1], .tup .nil,Dg a (C0 s),?_⟩;conv=>whnf
  repeat' (apply An<;>conv=>whnf)
  all_goals try first|exact⟨Ba⟩|exact h
  all_goals exact⟨by simp_all[C0]⟩
 ·exact⟨by omega⟩
 all_goals have hlt:s.at'<a.n:=by omega
 all_goals have hok:=ha.2 s.at' hlt
 ·have hkd:(a.ts s.at').kind=1:=by assumption
  have e:(if a.n≤s.at'∨32768<s.out.length then C0 s
    else if(a.ts s.at').kind=1 then Hg (B6 s) 0 (a.ts s.at')
    else if(a.ts s.at').kind=2 then Hg (B6 s) 1 (a.ts s.at')
    else if(a.ts s.at').kind=3∨(a.ts s.at').kind=4 then Cd (B6 s) (a.ts s.at')
    else if(a.ts s.at').kind=5 then Ga a k (B6 s) (a.ts s.at')
    else C0 (B6 s))=Hg (B6 s) 0 (a.ts s.at'):=by
   rw[if_neg (by omega)];simp_all
  rw[e]at h;refine⟨⟨a,B6 s,0,a.ts s.at'⟩,[some 0,some 1],?_⟩;conv=>whnf
  repeat' ((first|apply Ap<;>intro _|apply An)<;>conv=>whnf)
  all_goals try exact⟨Ba⟩
  ·exact⟨by rw[A3 (by show _≤((s.at':Nat):Int)+1;omega) (by show((s.at':Nat):Int)+1≤_;omega)];rfl⟩
  ·refine⟨?_⟩;exact⟨by show s.out.length≤900000;omega,by show 0<8;decide,hok.2.2⟩
  refine⟨[some 0,some 1,some 5], .tup .nil,Dg a (Hg (B6 s) 0 (a.ts s.at')),?_⟩;conv=>whnf
  repeat' (apply An<;>conv=>whnf)
  all_goals try first|exact⟨Ba⟩|exact h
 ·have hkd:(a.ts s.at').kind=2:=by assumption
  have e:(if a.n≤s.at'∨32768<s.out.length then C0 s
    else if(a.ts s.at').kind=1 then Hg (B6 s) 0 (a.ts s.at')
    else if(a.ts s.at').kind=2 then Hg (B6 s) 1 (a.ts s.at')
    else if(a.ts s.at').kind=3∨(a.ts s.at').kind=4 then Cd (B6 s) (a.ts s.at')
    else if(a.ts s.at').kind=5 then Ga a k (B6 s) (a.ts s.at')
    else C0 (B6 s))=Hg (B6 s) 1 (a.ts s.at'):=by
   rw[if_neg (by omega)];simp_all
  rw[e]at h;refine⟨⟨a,B6 s,1,a.ts s.at'⟩,[some 0,some 1],?_⟩;conv=>whnf
  repeat' ((first|apply Ap<;>intro _|apply An)<;>conv=>whnf)
  all_goals try exact⟨Ba⟩
  ·exact⟨by rw[A3 (by show _≤((s.at':Nat):Int)+1;omega) (by show((s.at':Nat):Int)+1≤_;omega)];rfl⟩
  ·refine⟨?_⟩;exact⟨by show s.out.length≤900000;omega,by show 1<8;decide,hok.2.2⟩
  refine⟨[some 0,some 1,some 5], .tup .nil,Dg a (Hg (B6 s) 1 (a.ts s.at')),?_⟩;conv=>whnf
  repeat' (apply An<;>conv=>whnf)
  all_goals try first|exact⟨Ba⟩|exact h
 ·have hkd:(a.ts s.at').kind=3:=by assumption
  have e:(if a.n≤s.at'∨32768<s.out.length then C0 s
    else if(a.ts s.at').kind=1 then Hg (B6 s) 0 (a.ts s.at')
    else if(a.ts s.at').kind=2 then Hg (B6 s) 1 (a.ts s.at')
    else if(a.ts s.at').kind=3∨(a.ts s.at').kind=4 then Cd (B6 s) (a.ts s.at')
    else if(a.ts s.at').kind=5 then Ga a k (B6 s) (a.ts s.at')
    else C0 (B6 s))=Cd (B6 s) (a.ts s.at'):=by
   rw[if_neg (by omega)];simp_all
  rw[e]at h;refine⟨⟨a,B6 s,a.ts s.at'⟩,[some 0,some 1],?_⟩;conv=>whnf
  repeat' ((first|apply Ap<;>intro _|apply An)<;>conv=>whnf)
  all_goals try exact⟨Ba⟩
  ·exact⟨by rw[A3 (by show _≤((s.at':Nat):Int)+1;omega) (by show((s.at':Nat):Int)+1≤_;omega)];rfl⟩
  ·refine⟨?_⟩;exact⟨by show s.out.length≤800000;omega, .inl hkd,by have:=hok.2.1;show(a.ts s.at').l.length≤1000000;omega⟩
  refine⟨[some 0,some 1,some 5], .tup .nil,Dg a (Cd (B6 s) (a.ts s.at')),?_⟩;conv=>whnf
  repeat' (apply An<;>conv=>whnf)
  all_goals try first|exact⟨Ba⟩|exact h
 ·have hkd:(a.ts s.at').kind=4:=by assumption
  have e:(if a.n≤s.at'∨32768<s.out.length then C0 s
    else if(a.ts s.at').kind=1 then Hg (B6 s) 0 (a.ts s.at')
    else if(a.ts s.at').kind=2 then Hg (B6 s) 1 (a.ts s.at')
    else if(a.ts s.at').kind=3∨(a.ts s.at').kind=4 then Cd (B6 s) (a.ts s.at')
    else if(a.ts s.at').kind=5 then Ga a k (B6 s) (a.ts s.at')
    else C0 (B6 s))=Cd (B6 s) (a.ts s.at'):=by
   rw[if_neg (by omega)];simp_all
  rw[e]at h;refine⟨⟨a,B6 s,a.ts s.at'⟩,[some 0,some 1],?_⟩;conv=>whnf
  repeat' ((first|apply Ap<;>intro _|apply An)<;>conv=>whnf)
  all_goals try exact⟨Ba⟩
  ·exact⟨by rw[A3 (by show _≤((s.at':Nat):Int)+1;omega) (by show((s.at':Nat):Int)+1≤_;omega)];rfl⟩
  ·refine⟨?_⟩;exact⟨by show s.out.length≤800000;omega, .inr hkd,by have:=hok.2.1;show(a.ts s.at').l.length≤1000000;omega⟩
  refine⟨[some 0,some 1,some 5], .tup .nil,Dg a (Cd (B6 s) (a.ts s.at')),?_⟩;conv=>whnf
  repeat' (apply An<;>conv=>whnf)
  all_goals try first|exact⟨Ba⟩|exact h
 ·have hkd:(a.ts s.at').kind=5:=by assumption
  have e:(if a.n≤s.at'∨32768<s.out.length then C0 s
    else if(a.ts s.at').kind=1 then Hg (B6 s) 0 (a.ts s.at')
    else if(a.ts s.at').kind=2 then Hg (B6 s) 1 (a.ts s.at')
    else if(a.ts s.at').kind=3∨(a.ts s.at').kind=4 then Cd (B6 s) (a.ts s.at')
    else if(a.ts s.at').kind=5 then Ga a k (B6 s) (a.ts s.at')
    else C0 (B6 s))=Ga a k (B6 s) (a.ts s.at'):=by
   rw[if_neg (by omega)];simp_all
  rw[e]at h;refine⟨⟨a,B6 s,a.ts s.at'⟩,[some 0,some 1],?_⟩;conv=>whnf
  repeat' ((first|apply Ap<;>intro _|apply An)<;>conv=>whnf)
  all_goals try exact⟨Ba⟩
  ·exact⟨by rw[A3 (by show _≤((s.at':Nat):Int)+1;omega) (by show((s.at':Nat):Int)+1≤_;omega)];rfl⟩
  ·refine⟨?_⟩;exact⟨by show s.out.length≤40000;omega,hkd,ha,hk7⟩
  refine⟨[some 0,some 1,some 5], .tup .nil,Dg a (Ga a k (B6 s) (a.ts s.at')),?_⟩;conv=>whnf
  repeat' (apply An<;>conv=>whnf)
  all_goals try first|exact⟨Ba⟩|exact h
 ·exact absurd (by assumption) hok.1
 ·have e:(if a.n≤s.at'∨32768<s.out.length then C0 s
    else if(a.ts s.at').kind=1 then Hg (B6 s) 0 (a.ts s.at')
    else if(a.ts s.at').kind=2 then Hg (B6 s) 1 (a.ts s.at')
    else if(a.ts s.at').kind=3∨(a.ts s.at').kind=4 then Cd (B6 s) (a.ts s.at')
    else if(a.ts s.at').kind=5 then Ga a k (B6 s) (a.ts s.at')
    else C0 (B6 s))=C0 (B6 s):=by
   rw[if_neg (by omega)];simp_all
  rw[e]at h;refine⟨[some 0,some 1,some 1], .tup .nil,Dg a (C0 (B6 s)),?_⟩;conv=>whnf
  repeat' (apply An<;>conv=>whnf)
  all_goals try first|exact⟨Ba⟩|exact h
  all_goals exact⟨by rw[A3 (by show _≤((s.at':Nat):Int)+1;omega) (by show((s.at':Nat):Int)+1≤_;omega)];rfl⟩
 ) (fun _=>by simp[wsH,Dg]) (fun _=>by simp[Hf,Ie]) (fun x u hu=>Lz _ _ u hu)
theorem AB9:∀k,Af Tryz.prog G 215 (H98 k)
 |0=>AB8 0 vU
 |k+1=>AB8 (k+1) (vT k (AB9 k))
def AUw:Ai:=H98 6
theorem AH6:Af Tryz.prog G 215 AUw:=AB9 6
def AJl(t:Tk):V:= .st (.cons (.int .i64 t.kind) (.cons (.int .i64 t.n) (.cons .emp .nil)))
def cE(v:V)(t:Tk):Prop:=v=Sk t∨(v=AJl t∧t.l=[])
theorem AQ2{E:Env}{v:V}{t:Tk}{c:Nat→Option Value}{o:Nat}(h:cE v t)(hr:R E v c o):R E (Sk t) c o:=by
 rcases h with rfl|⟨rfl,hl⟩
 ·exact hr
 ·simp only[AJl,Sk,R,RL,A6]at hr⊢;refine⟨hr.1,hr.2.1,?_,trivial⟩
  have:=hr.2.2.1
  simp only[Bl,hl,List.length_nil];obtain⟨a,ha⟩:=this;exact bA (by simp only[R];exact⟨a,ha⟩)
theorem bB{E:Env}{l:Bool}{n:Nat}{f:Nat→V}{ts:Nat→Tk}{x:Value}(h:∀k,k<n→cE (f k) (ts k))(hT:T E (.imm l 3 n f) x):T E (.imm l 3 n fun k=>Sk (ts k)) x:=by
 obtain⟨a,cp,h1,h2,h3⟩:=Ej.1 hT;refine Ej.2 ⟨a,cp,h1,h2,h3.imp id fun⟨b,off,h4,h5,h6⟩=>⟨b,off,h4,h5,fun k hk=>⟨rfl,AQ2 (h k hk) (h6 k hk).2⟩⟩⟩
def M9(a:Gt):List UInt8×Int:=
 if 600<a.n then([],1)
 else if(Cr a 6 ⟨0,[],false⟩).bad=true∨(Cr a 6 ⟨0,[],false⟩).at'≠a.n∨32768<(Cr a 6 ⟨0,[],false⟩).out.length then([],1)
 else((Cr a 6 ⟨0,[],false⟩).out,0)
structure EnA where
 f:Nat→V
 a:Gt
def vK(r:List UInt8×Int):V:= .tup (.cons (Bl false r.1) (.cons (.int .i64 r.2) .nil))
def F61:A7:=Iq (fun(x:EnA)=>[.imm x.a.lt 3 x.a.n x.f]) (fun x=>(∀k,k<x.a.n→cE (x.f k) (x.a.ts k))∧∀k,k<x.a.n→mU (x.a.ts k)) (fun x=>vK (M9 x.a))
theorem AA4:FOk Tryz.prog G 166 F61:=Fz fun⟨f,a⟩ ⟨hf,ht⟩=>by
 refine CP.le (ys:=[Zk a]) (fun E l hT=>?_) ?_
 ·cases l with
  |nil=>exact hT
  |cons x l=>exact⟨bB hf hT.1,hT.2⟩
 show CP _ _ _ _ fun v=>Ld v (vK (M9 a))
 replace ht:∀k,k<a.n→mU (a.ts k):=ht;have hΓ:=Ab Tryz.f166.ntmps _ _ [] .nil (.cons (AH6) .nil);refine Aw hΓ Tryz.func166 ?_;conv=>whnf
 repeat' ((first|apply Ap<;>intro _|apply An)<;>conv=>whnf)
 ·rename_i h1;have hb:(600:Int)<(a.n:Nat):=by simpa using h1
  have e:M9 a=([],1):=if_pos (by omega);rw[e];exact Ld.two Ld.emp (by simp) rfl (by simp[Bl]) rfl
 ·rename_i h1;have hb:¬(600:Int)<(a.n:Nat):=by simpa using h1
  have ha:Zj a:=⟨by omega,ht⟩;refine⟨⟨a,⟨0,[],false⟩⟩,[some 0,none],?_⟩;conv=>whnf
  repeat' ((first|apply Ap<;>intro _|apply An)<;>conv=>whnf)
  all_goals try first|exact⟨Ba⟩|exact⟨⟨by show 0≤70000;omega,ha,by omega⟩⟩
  all_goals
   have he:M9 a=if(Cr a 6 ⟨0,[],false⟩).bad=true∨(Cr a 6 ⟨0,[],false⟩).at'≠a.n∨32768<(Cr a 6 ⟨0,[],false⟩).out.length then([],1)else((Cr a 6 ⟨0,[],false⟩).out,0):=by rw[M9,if_neg (by omega)]
   simp only[decide_eq_true_eq,decide_eq_false_iff_not,bne_iff_ne,ne_eq,bne_eq_false_iff_eq]at*;generalize Cr a 6 ⟨0,[],false⟩=s at*
  ·rw[he,if_pos (by simp_all)];exact Ld.two Ld.emp (by simp) rfl (by simp[Bl]) rfl
  ·rw[he,if_pos (by omega)];exact Ld.two Ld.emp (by simp) rfl (by simp[Bl]) rfl
  ·rw[he,if_pos (by omega)];exact Ld.two Ld.emp (by simp) rfl (by simp[Bl]) rfl
  ·exact⟨fun k _=>Bg _ _⟩
  ·rename_i g1 g2 g3;rw[he,if_neg (by simp only[g1];simp;omega)];refine Ld.two (Ld.imm fun k hk=>by rw[Nat.zero_add]) (by simp) rfl (by simp[Bl]) rfl
def F31:A7:=Iq (fun(n:Int)=>[.int .i64 n]) (fun _=>True) (fun n=>AJl ⟨1,n,false,[]⟩)
theorem AMe:FOk Tryz.prog [] 217 F31:=Bj fun n _ Φ h=>by
 have hΓ:=Ad Tryz.f217.ntmps _ _ (FL.all .nil) (HL.all .nil);refine Aw hΓ Tryz.func217 ?_;conv=>whnf
 repeat' ((first|apply Ap<;>intro _|apply An)<;>conv=>whnf)
 exact h
def F68:A7:=Iq (fun(n:Int)=>[.int .i64 n]) (fun _=>True) (fun n=>AJl ⟨5,n,false,[]⟩)
theorem AMr:FOk Tryz.prog [] 216 F68:=Bj fun n _ Φ h=>by
 have hΓ:=Ad Tryz.f216.ntmps _ _ (FL.all .nil) (HL.all .nil);refine Aw hΓ Tryz.func216 ?_;conv=>whnf
 repeat' ((first|apply Ap<;>intro _|apply An)<;>conv=>whnf)
 exact h
def F34:A7:=Iq (fun(l:List UInt8)=>[.str l]) (fun l=>1≤l.length∧l.length≤1000000) (fun l=>Sk ⟨4,0,false,l⟩)
theorem AMg:FOk Tryz.prog [] 219 F34:=Bj fun l ⟨hl,hn⟩ Φ h=>by
 have hΓ:=Ad Tryz.f219.ntmps _ _ (FL.all .nil) (HL.all .nil);refine Aw hΓ Tryz.func219 ?_;conv=>whnf
 repeat' ((first|apply Ap<;>intro _|apply An)<;>conv=>whnf)
 ·exact⟨fun _ _=>trivial⟩
 ·exact h
inductive jA where
 |sl (lo len cap:Nat)
 |fld (k off lo len cap:Nat)
 |imm (b:Bool) (n:Nat) (f:Nat→V)
 |emp
def jA.v:jA→V| .sl lo len cap=> .sl 0 [] 1 lo len cap| .fld k off lo len cap=> .sl 0 [.f k off] 1 lo len cap| .imm b n f=> .imm b 1 n f| .emp=> .emp
def jA.nv:jA→Nat| .sl .. =>1| .fld .. =>1|_=>0
def P32:Ix:=AS9 (fun(a:jA)=>[a.v]) jA.nv (fun _=>True) (fun a=> .st (.cons (.int .i64 3) (.cons (.int .i64 0) (.cons a.v .nil))))
theorem Xc:Aj Tryz.prog (Ka Tryz.f218.ntmps [] []):=Ad Tryz.f218.ntmps [] [] (FL.all .nil) (HL.all .nil)
def S32:Ai:=fun xs h κ=>xs.length=1∧B4 Tryz.prog (Ka Tryz.f218.ntmps [] []) (Bd Tryz.f218) Tryz.f218.results.toList xs h κ
theorem AO5:Af Tryz.prog [] 218 S32:=Q6 1 Xc Tryz.func218
theorem ANs:Gv Tryz.prog [] 218 P32:=sY AO5 (fun a _=>by
 refine⟨rfl,?_⟩
 cases a with
 |sl lo len cap=>
  refine vj Xc ?_;conv=>whnf
  refine⟨[some 0], .st (.cons (.int .i64 3) (.cons (.int .i64 0) (.cons (.sl 0 [] 1 lo len cap) .nil))),Gk 1,?_⟩;conv=>whnf
  repeat' (apply An<;>conv=>whnf)
  all_goals try first|exact⟨Bc⟩|exact⟨fun _ _=>rfl⟩
  all_goals rfl
 |fld k off lo len cap=>
  refine vj Xc ?_;conv=>whnf
  refine⟨[some 0], .st (.cons (.int .i64 3) (.cons (.int .i64 0) (.cons (.sl 0 [.f k off] 1 lo len cap) .nil))),Gk 1,?_⟩;conv=>whnf
  repeat' (apply An<;>conv=>whnf)
  all_goals try first|exact⟨Bc⟩|exact⟨fun _ _=>rfl⟩
  all_goals rfl
 |imm b n f=>
  refine vj Xc ?_;conv=>whnf
  refine⟨[], .st (.cons (.int .i64 3) (.cons (.int .i64 0) (.cons (.imm b 1 n f) .nil))),Gk 0,?_⟩;conv=>whnf
  repeat' (apply An<;>conv=>whnf)
  all_goals try first|exact⟨Bc⟩|exact⟨fun _ _=>rfl⟩
  all_goals rfl
 |emp=>
  refine vj Xc ?_;conv=>whnf
  refine⟨[], .st (.cons (.int .i64 3) (.cons (.int .i64 0) (.cons (.emp) .nil))),Gk 0,?_⟩;conv=>whnf
  repeat' (apply An<;>conv=>whnf)
  all_goals try first|exact⟨Bc⟩|exact⟨fun _ _=>rfl⟩
  all_goals rfl
 ) (fun a=>by cases a<;>simp[Hf,Ie,jA.v])
def oL(n:Nat)(fs:List (Nat×A7))(ps:List (Nat×Ix))(fh:List (Nat×Ai))(ex:List (Nat×Q1)):Fu:=⟨tb,ps++fs.map fun p=>(p.1,jQ p.2),fh,G,n,0,ex,false⟩
inductive PL:List (Nat×Ix)→Prop where
 |nil:PL []
 |cons {n:Nat} {F:Ix} {l:List (Nat×Ix)} (h:Gv Tryz.prog G n F) (t:PL l):PL ((n,F)::l)
theorem PL.all{l:List (Nat×Ix)}(h:PL l):∀p∈l,Gv Tryz.prog G p.1 p.2:=by
 induction h with
 |nil=>intro p hp;cases hp
 |cons h t ih=>
  intro p hp
  rcases List.mem_cons.1 hp with rfl|hp
  ·exact h
  ·exact ih p hp
theorem R9(n:Nat)(fs:List (Nat×A7))(ps:List (Nat×Ix))(fh:List (Nat×Ai))(ex:List (Nat×Q1))(h:FL Tryz.prog G fs)(h2:PL ps)(h':HL Tryz.prog G fh):Aj Tryz.prog (oL n fs ps fh ex) where
 tb:=K6
 fs:=fun p hp=>by
  rcases List.mem_append.1 hp with hp|hp
  ·exact h2.all p hp
  ·obtain⟨q,hq,rfl⟩:=List.mem_map.1 hp;exact(h.all q hq).spec
 fh:=h'.all
theorem pg{n:Nat}{S:Ix}(h:Gv Tryz.prog [] n S):Gv Tryz.prog G n S:=
 ⟨h.1,fun E hh xs args κ hw hs _ ht hd=>h.2.1 E hh xs args κ hw hs (fun p hp=>by cases hp) ht hd,h.2.2⟩
def Fq(e:Bw):Bool:=
 decide (1≤e.key.length)&&decide (e.key.length≤16)&&Bv e.key&&((decide (e.kind=1)&&decide (e.val.length≤40))||(decide (e.kind=2)&&decide (e.val.length=0)))
def AU7:A7:=Iq (fun(e:Bw)=>[aB e]) (fun _=>True) (fun e=> .bool (Fq e))
theorem AFh:FOk Tryz.prog G 103 AU7:=Bj fun e _ Φ h=>by
 have hΓ:=Ab Tryz.f103.ntmps _ _ [] (.cons (sD) .nil) .nil;refine Aw hΓ Tryz.func103 ?_;conv=>whnf
 repeat' ((first|apply Ap<;>intro _|apply An)<;>conv=>whnf)
 all_goals simp only[decide_eq_true_eq,decide_eq_false_iff_not]at*
 ·refine cast (congrArg Φ (congrArg V.bool ?_)) h;simp[Fq];omega
 ·refine cast (congrArg Φ (congrArg V.bool ?_)) h;simp[Fq];omega
 ·refine⟨.of false e.key,rfl,⟨trivial,by show e.key.length≤1000000;omega⟩,?_⟩;conv=>whnf
  repeat' ((first|apply Ap<;>intro _|apply An)<;>conv=>whnf)
  all_goals
   refine cast (congrArg Φ (congrArg V.bool ?_)) h;rw[Bool.eq_iff_iff];simp_all[Fq,By.l]<;>omega
def Al(e:Bw):Bool:=
 decide (1≤e.seq)&&decide (e.seq≤200)&&(!decide (e.seq=1)||De 32 (bf e.prev) (bf []))&&decide (0≤e.stamp)&&Fq e
def AU6:A7:=Iq (fun(e:Bw)=>[Ak e]) (fun _=>True) (fun e=> .int .i64 (if Al e then 0 else 1))
theorem fR:FOk Tryz.prog G 63 AU6:=Bj fun e _ Φ h=>by
 have hΓ:=Ab Tryz.f63.ntmps _ _ [] (.cons (AFh) .nil) .nil;refine Aw hΓ Tryz.func63 ?_;conv=>whnf
 repeat' ((first|apply Ap<;>intro _|apply An)<;>conv=>whnf)
 ·(refine cast (congrArg Φ (congrArg (V.int .i64) ?_)) h;simp_all[Al]<;>omega)
 ·(refine cast (congrArg Φ (congrArg (V.int .i64) ?_)) h;simp_all[Al]<;>omega)
 ·exact⟨fun _ _=>rfl⟩
 ·exact⟨fun _ _=>rfl⟩
 ·rename_i g;replace g:(!De 32 (bf e.prev) (bf []))=true:=g
  (refine cast (congrArg Φ (congrArg (V.int .i64) ?_)) h;simp_all[Al]<;>omega)
 ·rename_i g _;replace g:(!De 32 (bf e.prev) (bf []))=false:=g
  (refine cast (congrArg Φ (congrArg (V.int .i64) ?_)) h;simp_all[Al]<;>omega)
 ·rename_i g _;replace g:(!De 32 (bf e.prev) (bf []))=false:=g;refine⟨e,rfl,⟨trivial⟩,?_⟩;conv=>whnf
  repeat' ((first|apply Ap<;>intro _|apply An)<;>conv=>whnf)
  all_goals(refine cast (congrArg Φ (congrArg (V.int .i64) ?_)) h;simp_all[Al]<;>omega)
 ·(refine cast (congrArg Φ (congrArg (V.int .i64) ?_)) h;simp_all[Al]<;>omega)
 ·refine⟨e,rfl,⟨trivial⟩,?_⟩;conv=>whnf
  repeat' ((first|apply Ap<;>intro _|apply An)<;>conv=>whnf)
  all_goals(refine cast (congrArg Φ (congrArg (V.int .i64) ?_)) h;simp_all[Al]<;>omega)
def iQ(e:Bw):Prop:=e.author.length=32∧e.prev.length=32∧e.sig.length=64
def Nv(e:Bw)(many:Int):Nat→Tk
 |0=>⟨5,many,false,[]⟩
 |1=>⟨1,1,false,[]⟩
 |2=>⟨3,0,true,e.author⟩
 |3=>⟨1,e.seq,false,[]⟩
 |4=>⟨3,0,true,e.prev⟩
 |5=>⟨1,e.stamp,false,[]⟩
 |6=>⟨5,3,false,[]⟩
 |7=>⟨1,e.kind,false,[]⟩
 |8=>⟨4,0,false,e.key⟩
 |9=>⟨3,0,false,e.val⟩
 |_=>⟨3,0,true,e.sig⟩
def Mb(e:Bw):Gt:=⟨true,11,Nv e 7⟩
theorem Dh{l:List UInt8}{n:Nat}(h:l.length=n):V.st (.cons (.int .i64 3) (.cons (.int .i64 0) (.cons (.imm true 1 n fun k=>bf l (0+k)) .nil)))=Sk ⟨3,0,true,l⟩:=by
 subst h;simp only[Nat.zero_add,Sk,Bl]
theorem eO:Aj Tryz.prog (oL Tryz.f167.ntmps [(216,F68),(217,F31),(219,F34)] [(218,P32)] [] []):=R9 _ _ _ _ _ (.cons AMr.g (.cons AMe.g (.cons AMg.g .nil))) (.cons (pg ANs) .nil) .nil
def AVc:Ai:=fun xs h κ=>xs.length=2∧B4 Tryz.prog (oL Tryz.f167.ntmps [(216,F68),(217,F31),(219,F34)] [(218,P32)] [] []) (Bd Tryz.f167) Tryz.f167.results.toList xs h κ
theorem uB:Af Tryz.prog G 167 AVc:=Q6 2 eO Tryz.func167
def I6(e:Bw):List UInt8×Int:=if Al e then M9 (Mb e)else([],1)
def ATy:A7:=Iq (fun(e:Bw)=>[Ak e, .int .i64 7]) (fun e=>iQ e∧e.stamp≤9223372036854775807) (fun e=>vK (I6 e))
theorem AF6:FOk Tryz.prog G 129 ATy:=Fz fun e ⟨⟨w1,w2,w3⟩,hst⟩=>by
 have hΓ:=Ab Tryz.f129.ntmps _ _ [] (.cons (fR) (.cons (AA4) .nil)) (.cons (uB) .nil);refine Aw hΓ Tryz.func129 ?_;conv=>whnf
 repeat' ((first|apply Ap<;>intro _|apply An)<;>conv=>whnf)
 all_goals try exact⟨Ah⟩
 refine⟨e,rfl,⟨trivial⟩,?_⟩;conv=>whnf
 apply Ap<;>intro h1<;>conv=>whnf
 ·have hk:Al e=false:=by
   cases hq:Al e
   ·rfl
   ·simp[hq]at h1
  have e1:I6 e=([],1):=if_neg (by simp[hk]);have e2:(if Al e=true then(0:Int)else 1)=1:=if_neg (by simp[hk]);rw[e1,e2];exact Ld.two Ld.emp (by simp) rfl (by simp[Bl]) rfl
 ·have hk:Al e=true:=by
   cases hq:Al e
   ·simp[hq]at h1
   ·rfl
  have e1:I6 e=M9 (Mb e):=if_pos hk;simp only[Al,Fq,Bool.and_eq_true,decide_eq_true_eq,Bool.or_eq_true]at hk;conv=>whnf
  repeat' ((first|apply Ap<;>intro _|apply An)<;>conv=>whnf)
  all_goals try exact⟨Ah⟩
  ·exact rfl
  refine vj eO ?_;conv=>whnf
  refine⟨7,rfl,⟨trivial⟩,?_⟩;conv=>whnf
  refine⟨1,rfl,⟨trivial⟩,?_⟩;conv=>whnf
  repeat' ((first|apply Ap<;>intro _|apply An)<;>conv=>whnf)
  all_goals try exact⟨Bc⟩
  refine⟨.fld 0 0 0 32 32,[some 1],?_⟩;conv=>whnf
  repeat' ((first|apply Ap<;>intro _|apply An)<;>conv=>whnf)
  all_goals try exact⟨Ib⟩
  refine⟨e.seq,rfl,⟨trivial⟩,?_⟩;conv=>whnf
  repeat' ((first|apply Ap<;>intro _|apply An)<;>conv=>whnf)
  all_goals try exact⟨Ib⟩
  refine⟨.fld 2 33 0 32 32,[some 1],?_⟩;conv=>whnf
  repeat' ((first|apply Ap<;>intro _|apply An)<;>conv=>whnf)
  all_goals try exact⟨Ib⟩
  refine⟨e.stamp,rfl,⟨trivial⟩,?_⟩;conv=>whnf
  repeat' ((first|apply Ap<;>intro _|apply An)<;>conv=>whnf)
  all_goals try exact⟨Ib⟩
  refine⟨3,rfl,⟨trivial⟩,?_⟩;conv=>whnf
  repeat' ((first|apply Ap<;>intro _|apply An)<;>conv=>whnf)
  all_goals try exact⟨Ib⟩
  refine⟨e.kind,rfl,⟨trivial⟩,?_⟩;conv=>whnf
  repeat' ((first|apply Ap<;>intro _|apply An)<;>conv=>whnf)
  all_goals try exact⟨Ib⟩
  refine⟨e.key,rfl,⟨by omega,by omega⟩,?_⟩;conv=>whnf
  repeat' ((first|apply Ap<;>intro _|apply An)<;>conv=>whnf)
  all_goals try exact⟨Ib⟩
  refine⟨.imm false e.val.length (bf e.val),[],?_⟩;conv=>whnf
  repeat' ((first|apply Ap<;>intro _|apply An)<;>conv=>whnf)
  all_goals try first|exact⟨Bc⟩|exact⟨fun _ _=>rfl⟩|exact⟨trivial⟩
  refine⟨.fld 5 69 0 64 64,[some 1],?_⟩;conv=>whnf
  repeat' ((first|apply Ap<;>intro _|apply An)<;>conv=>whnf)
  all_goals try exact⟨Ib⟩
  all_goals try(rename_i hx;exact absurd hx (by decide))
  refine Or.inl ?_;conv=>whnf
  repeat' ((first|apply Ap<;>intro _|apply An)<;>conv=>whnf)
  all_goals try first|exact⟨Bc⟩|exact⟨⟨by decide,by decide⟩⟩
  ·refine⟨?_⟩;refine(A0 ?_ (A0 ?_ (A0 ?_ (A0 ?_ (A0 ?_ (A0 ?_ (A0 ?_ (A0 ?_ (A0 ?_ (A0 ?_ (A0 ?_ A9)))))))))));all_goals(conv=>whnf)
   all_goals(repeat' (apply An<;>conv=>whnf))
   all_goals first
    |trivial
    |exact⟨⟨rfl,by decide⟩⟩
    |exact⟨fun _ _=>trivial⟩
  refine⟨⟨_,Mb e⟩,rfl,⟨?_,?_⟩,?_⟩
  ·show∀k,k<11→cE _ _
   refine(A0 ?_ (A0 ?_ (A0 ?_ (A0 ?_ (A0 ?_ (A0 ?_ (A0 ?_ (A0 ?_ (A0 ?_ (A0 ?_ (A0 ?_ A9)))))))))))
   ·exact .inl (Eq.trans rfl (Dh w3))
   ·exact .inl rfl
   ·exact .inl rfl
   ·exact .inr ⟨rfl,rfl⟩
   ·exact .inr ⟨rfl,rfl⟩
   ·exact .inr ⟨rfl,rfl⟩
   ·exact .inl (Eq.trans rfl (Dh w2))
   ·exact .inr ⟨rfl,rfl⟩
   ·exact .inl (Eq.trans rfl (Dh w1))
   ·exact .inr ⟨rfl,rfl⟩
   ·exact .inr ⟨rfl,rfl⟩
  ·show∀k,k<11→mU (Nv e 7 k)
   refine(A0 ?_ (A0 ?_ (A0 ?_ (A0 ?_ (A0 ?_ (A0 ?_ (A0 ?_ (A0 ?_ (A0 ?_ (A0 ?_ (A0 ?_ A9)))))))))));all_goals(refine⟨by simp only[Nv];decide,?_,?_⟩)
   all_goals(simp only[Nv,List.length_nil,w1,w2,w3])
   all_goals omega
  ·rw[e1];conv=>whnf
   repeat' ((first|apply Ap<;>intro _|apply An)<;>conv=>whnf)
   ·exact⟨fun _ _=>Bg _ _⟩
   ·exact Ld.of rfl
def Cy(e:Bw):Prop:=iQ e∧e.stamp≤9223372036854775807
def F70:A7:=Iq (fun(e:Bw)=>[Ak e]) Cy (fun e=>vK (I6 e))
theorem AA7:FOk Tryz.prog G 105 F70:=Bj fun e he Φ h=>by
 have hΓ:=Ab Tryz.f105.ntmps _ _ [] (.cons (AF6) .nil) .nil;refine Aw hΓ Tryz.func105 ?_;conv=>whnf
 repeat' ((first|apply Ap<;>intro _|apply An)<;>conv=>whnf)
 all_goals try exact⟨Ah⟩
 refine⟨e,rfl,⟨he⟩,?_⟩;conv=>whnf
 repeat' ((first|apply Ap<;>intro _|apply An)<;>conv=>whnf)
 all_goals try exact⟨Ah⟩
 ·exact h
def Kb:List UInt8:=List.replicate 32 0
theorem Cz(n k:Nat):bf (List.replicate n 0) k= .int .u8 0:=by
 simp[bf,List.getD_eq_getElem?_getD]
 by_cases h:k<n<;>simp[h]
theorem rV(a:Gt):(M9 a).1.length≤32768:=by
 unfold M9
 split
 ·simp
 ·split
  ·simp
  ·rename_i h;simp only[not_or,Nat.not_lt]at h;exact h.2.2
theorem Xn(e:Bw):(I6 e).1.length≤32768:=by
 unfold I6
 split
 ·exact rV _
 ·simp
def W9(e:Bw):List UInt8×Int:=if(I6 e).2=0 then(sha (I6 e).1,0)else(Kb,(I6 e).2)
def F89:A7:=Iq (fun(e:Bw)=>[Ak e]) Cy (fun e=> .tup (.cons (arrV 32 (W9 e).1) (.cons (.int .i64 (W9 e).2) .nil)))
theorem AAa:FOk Tryz.prog G 81 F89:=Fz fun e he=>by
 have hl:=Xn e;have hΓ:=Ab Tryz.f81.ntmps _ _ [] (.cons (AA7) (.cons (AA0.g) .nil)) .nil;refine Aw hΓ Tryz.func81 ?_;conv=>whnf
 repeat' ((first|apply Ap<;>intro _|apply An)<;>conv=>whnf)
 all_goals try exact⟨Ah⟩
 refine⟨e,rfl,⟨he⟩,?_⟩;conv=>whnf
 repeat' ((first|apply Ap<;>intro _|apply An)<;>conv=>whnf)
 ·exact⟨fun _ _=>trivial⟩
 ·rename_i h1;have e1:W9 e=(Kb,(I6 e).2):=if_neg (by simpa using h1);rw[e1];exact Ld.two (Ld.row fun k hk=>(Cz 32 k).symm) (by simp) rfl (by simp[arrV]) rfl
 ·rename_i h1;have e1:W9 e=(sha (I6 e).1,0):=if_pos (by simpa using h1);rw[e1];refine⟨.of _ _,rfl,⟨trivial,by show(I6 e).1.length≤1000000;omega⟩,?_⟩;conv=>whnf
  repeat' ((first|apply Ap<;>intro _|apply An)<;>conv=>whnf)
  all_goals try exact⟨Ah⟩
  exact Ld.of rfl
theorem AFb:FOk Tryz.prog [] 127 AL1:=oH (fn:=Tryz.f127) rfl rfl (by decide) (by kernel_rfl) (by kernel_rfl)
theorem AF9:FOk Tryz.prog [] 124 ADo:=jS (fn:=Tryz.f124) rfl rfl (by decide) (by kernel_rfl) (by kernel_rfl)
theorem oW:FOk Tryz.prog [] 87 AL1:=Bj fun a ⟨ha,hb⟩ Φ h=>by
 refine CP.by1 ha (CP.by2 hb ?_);have hΓ:=Ad Tryz.f87.ntmps _ _ (FL.all (.cons AFb .nil)) (HL.all .nil);refine Aw hΓ Tryz.func87 ?_;conv=>whnf
 repeat' ((first|apply Ap<;>intro _|apply An)<;>conv=>whnf)
 refine⟨(.of _ _, .of _ _),rfl,⟨trivial,trivial⟩,?_⟩;conv=>whnf
 repeat' ((first|apply Ap<;>intro _|apply An)<;>conv=>whnf)
 exact h
theorem B7{n:Nat}{l m:List UInt8}(hl:l.length=n)(hm:m.length=n):De n (bf l) (bf m)=decide (l=m):=by
 rw[Bool.eq_iff_iff];simp only[De,List.all_eq_true,List.mem_range,beq_iff_eq,decide_eq_true_eq,bf,Fy]
 constructor
 ·intro h
  apply List.ext_getElem (by omega)
  intro k h1 h2
  have:=h k (by omega)
  simp[List.getD_eq_getElem?_getD,h1,h2]at this
  exact UInt8.toNat_inj.1 (by omega)
 ·rintro rfl k hk
  rfl
theorem Qs{n:Nat}{l:List UInt8}(hl:l.length=n):De n (bf l) (bf [])=decide (l=List.replicate n 0):=by
 rw[←B7 hl (by simp)];simp only[De]
 congr 1
 funext k
 rw[Cz];rfl
theorem L1{n:Nat}{l:List UInt8}(hl:l.length=n):De n (bf l) (fun _=> .int .u8 0)=decide (l=List.replicate n 0):=Qs hl
def Qp(a b:Bw):Int:=if(I6 a).2≠0∨(I6 b).2≠0∨a.author≠b.author∨a.seq≠b.seq then 0 else Ct (I6 a).1 (I6 b).1
def AU5:A7:=Iq (fun(p:Pf)=>[Ak p.a,Ak p.b]) (fun p=>Cy p.a∧Cy p.b) (fun p=> .int .i64 (Qp p.a p.b))
theorem AFe:FOk Tryz.prog G 128 AU5:=Bj fun⟨a,b⟩ ⟨ha,hb⟩ Φ h=>by
 replace h:Φ (.int .i64 (Qp a b)):=h;have hla:=Xn a;have hlb:=Xn b;have hΓ:=Ab Tryz.f128.ntmps _ _ [] (.cons (AA7) (.cons (oW.g) .nil)) .nil;refine Aw hΓ Tryz.func128 ?_;conv=>whnf
 repeat' ((first|apply Ap<;>intro _|apply An)<;>conv=>whnf)
 all_goals try exact⟨Ah⟩
 refine⟨a,rfl,⟨ha⟩,?_⟩;conv=>whnf
 repeat' ((first|apply Ap<;>intro _|apply An)<;>conv=>whnf)
 all_goals try exact⟨Ah⟩
 refine⟨b,rfl,⟨hb⟩,?_⟩;conv=>whnf
 repeat' ((first|apply Ap<;>intro _|apply An)<;>conv=>whnf)
 ·(refine cast (congrArg Φ (congrArg (V.int .i64) ?_)) h;simp_all[Qp,B7 ha.1.1 hb.1.1,By.l])
 ·(refine cast (congrArg Φ (congrArg (V.int .i64) ?_)) h;simp_all[Qp,B7 ha.1.1 hb.1.1,By.l])
 ·exact⟨fun _ _=>rfl⟩
 ·exact⟨fun _ _=>rfl⟩
 ·(refine cast (congrArg Φ (congrArg (V.int .i64) ?_)) h;simp_all[Qp,B7 ha.1.1 hb.1.1,By.l])
 ·(refine cast (congrArg Φ (congrArg (V.int .i64) ?_)) h;simp_all[Qp,B7 ha.1.1 hb.1.1,By.l])
 ·refine⟨(.of _ _, .of _ _),rfl,⟨trivial,trivial⟩,?_⟩;conv=>whnf
  repeat' ((first|apply Ap<;>intro _|apply An)<;>conv=>whnf)
  (refine cast (congrArg Φ (congrArg (V.int .i64) ?_)) h;simp_all[Qp,B7 ha.1.1 hb.1.1,By.l])
def ATw:A7:=Iq (fun(p:Pf)=>[aC p]) (fun p=>Cy p.a∧Cy p.b) (fun p=> .int .i64 (if Qp p.a p.b<0 then 0 else 1))
theorem sA:FOk Tryz.prog G 88 ATw:=Bj fun p hp Φ h=>by
 have hΓ:=Ab Tryz.f88.ntmps _ _ [] (.cons (AFe) .nil) .nil;refine Aw hΓ Tryz.func88 ?_;conv=>whnf
 repeat' ((first|apply Ap<;>intro _|apply An)<;>conv=>whnf)
 all_goals try exact⟨Ah⟩
 refine⟨p,rfl,⟨hp⟩,?_⟩;conv=>whnf
 repeat' ((first|apply Ap<;>intro _|apply An)<;>conv=>whnf)
 all_goals(refine cast (congrArg Φ (congrArg (V.int .i64) ?_)) h;simp_all)
def Ux(e:Bw):Bool:=decide (e.author=Kb)&&decide (e.seq=0)&&decide (e.prev=Kb)&&decide (e.stamp=0)&&decide (e.sig=List.replicate 64 0)&&decide (e.kind=0)&&decide (e.key=[])&&decide (e.val.length=0)
def ATx:A7:=Iq (fun(e:Bw)=>[Ak e]) iQ (fun e=> .bool (Ux e))
theorem AF5:FOk Tryz.prog [] 149 ATx:=Bj fun e ⟨w1,w2,w3⟩ Φ h=>by
 have hΓ:=Ad Tryz.f149.ntmps _ _ (FL.all .nil) (HL.all .nil);refine Aw hΓ Tryz.func149 ?_;conv=>whnf
 repeat' ((first|apply Ap<;>intro _|apply An)<;>conv=>whnf)
 all_goals try first|exact⟨Ah⟩|exact⟨fun _ _=>rfl⟩
 all_goals
  refine cast (congrArg Φ (congrArg V.bool ?_)) h;simp_all[Ux,O8,Fs,L1 w1,L1 w2,L1 w3,Kb]
 all_goals(rw[Bool.eq_iff_iff];simp)
def Er(author:List UInt8)(es:Nat→Bw):Nat→List UInt8×Bool
 |0=>(Kb,true)
 |i+1=>
  if(Er author es i).2=false then Er author es i
  else if(W9 (es i)).2≠0∨(es i).author≠author∨(es i).seq≠(i:Nat)+1∨(es i).prev≠(Er author es i).1 then((Er author es i).1,false)
  else((W9 (es i)).1,true)
def Md(author:List UInt8)(es:Nat→Bw)(n:Nat):List UInt8×Bool:=if 200<n then(Kb,false)else Er author es n
theorem sha_length(l:List UInt8):(sha l).length=32:=by simp[sha,oZ,Og]
theorem Ju(e:Bw):(W9 e).1.length=32:=by
 unfold W9
 split
 ·exact sha_length _
 ·simp[Kb]
theorem Kp(author:List UInt8)(es:Nat→Bw):∀i,(Er author es i).1.length=32
 |0=>by simp[Er,Kb]
 |i+1=>by
  simp only[Er]
  split
  ·exact Kp author es i
  ·split
   ·exact Kp author es i
   ·exact Ju _
theorem Te{author:List UInt8}{es:Nat→Bw}{i:Nat}(h:(Er author es i).2=false):∀j,i≤j→Er author es j=Er author es i
 |0,hj=>by(obtain rfl:i=0:=by omega);rfl
 |j+1,hj=>by
  rcases Nat.lt_or_ge i (j+1)with h1|h1
  ·have h2:=Te h j (by omega);simp only[Er];rw[if_pos (by rw[h2];exact h),h2]
  ·obtain rfl:i=j+1:=by omega
   rfl
structure AUr where
 author:List UInt8
 a:xO
def ATv:A7:=Iq (fun(x:AUr)=>[arrV 32 x.author,Kn x.a.b x.a.n x.a.es]) (fun x=>x.author.length=32∧∀k,k<x.a.n→Cy (x.a.es k)) (fun x=> .tup (.cons (arrV 32 (Md x.author x.a.es x.a.n).1) (.cons (.bool (Md x.author x.a.es x.a.n).2) .nil)))
theorem AF4:FOk Tryz.prog G 148 ATv:=Fz fun⟨author,⟨b,n,es⟩⟩ ⟨ha,he⟩=>by
 replace ha:author.length=32:=ha;replace he:∀k,k<n→Cy (es k):=he
 show CP _ _ _ [arrV 32 author,Kn b n es] fun v=>Ld v (.tup (.cons (arrV 32 (Md author es n).1) (.cons (.bool (Md author es n).2) .nil)))
 have hΓ:=Ab Tryz.f148.ntmps _ _ [] (.cons (AAa) .nil) .nil;refine Aw hΓ Tryz.func148 ?_;conv=>whnf
 repeat' ((first|apply Ap<;>intro _|apply An)<;>conv=>whnf)
 ·exact⟨fun _ _=>trivial⟩
 ·rename_i h1
  have h2:200<n:=by
   have:(200:Int)<(n:Nat):=by simpa using h1
   omega
  have e1:Md author es n=(Kb,false):=if_pos h2;rw[e1];exact Ld.two (Ld.row fun k hk=>(Cz 32 k).symm) (by simp) rfl (by simp[arrV]) rfl
 rename_i h1
 have h2:¬200<n:=by
  have:¬(200:Int)<(n:Nat):=by simpa using h1
  omega
 have e1:Md author es n=Er author es n:=if_neg h2;rw[e1];refine A4 (ι:=Nat) (fun i=>[(2, .ref 0 []),(4, .ref 1 []),(6, .ref 2 []),(15,Kn b n es),(16, .int .i64 (n:Nat)),(17, .int .i64 (i:Nat))]) (fun i=>[some (arrV 32 author),some (arrV 32 []),some (arrV 32 (Er author es i).1)]) (fun i=>i≤n∧(Er author es i).2=true) (fun i=>n - i) 0 [some 0,some 1,some 2] ?_ (fun i hi=>vo hΓ ?_)
 ·conv=>whnf
  repeat' ((first|apply Ap<;>intro _|apply An)<;>conv=>whnf)
  all_goals try first|exact⟨Ba⟩|exact⟨⟨Nat.zero_le _,rfl⟩⟩
  exact⟨fun k _=>A5 (Cz 32 k).symm trivial⟩
 ·conv=>whnf
  repeat' ((first|apply Ap<;>intro _|apply An)<;>conv=>whnf)
  all_goals(try simp only[decide_eq_true_eq,decide_eq_false_iff_not,Int.toNat_natCast,Bool.not_eq_true,Bool.not_eq_false]at*)
  all_goals try first|exact⟨Ba⟩|exact⟨fun _ _=>trivial⟩
  ·have hin:i<n:=by omega
   have w0:=he i hin;have wl:=Kp author es i;refine⟨es i,rfl,⟨w0⟩,?_⟩;conv=>whnf
   repeat' ((first|apply Ap<;>intro _|apply An)<;>conv=>whnf)
   all_goals(try simp only[B7 w0.1.1 ha,B7 w0.1.2.1 wl]at*)
   have hw:IntKind.i64.wrap ((i:Int)+1)=(i:Int)+1:=A3 (by omega) (by omega);all_goals(try rw[A3 (by omega) (by omega)]at*)
   all_goals first
    |exact⟨fun _ _=>trivial⟩
    |exact⟨fun _ _=>rfl⟩
    |(have hs:Er author es (i+1)=((Er author es i).1,false):=by
       simp only[Er];rw[if_neg (by simp[hi.2]),if_pos (by simp_all)]
      rw[Te (i:=i+1) (by rw[hs]) n (by omega),hs];exact Ld.refl _)
    |skip
   have hs:Er author es (i+1)=((W9 (es i)).1,true):=by
    simp only[Er];rw[if_neg (by simp[hi.2]),if_neg (by simp_all)]
   refine⟨i+1,[some 0,some 1,some 2],?_⟩;conv=>whnf
   repeat' (apply An<;>conv=>whnf)
   all_goals try exact⟨Ba⟩
   ·exact⟨fun k _=>A5 (by rw[hs]) trivial⟩
   ·exact⟨⟨⟨hin,by rw[hs]⟩,by omega⟩⟩
  refine vo hΓ ?_;conv=>whnf
  repeat' (apply An<;>conv=>whnf)
  ·exact⟨fun _ _=>trivial⟩
  obtain rfl:i=n:=by omega
  rw[hi.2];exact Ld.refl _
def Be(f:Fd):List UInt8×Bool:=
 ((Md f.author f.es f.n).1,(Md f.author f.es f.n).2&&(if f.shut then decide (Qp f.pf.a f.pf.b<0)&&decide (f.pf.a.author=f.author)else Ux f.pf.a&&Ux f.pf.b))
def G9(f:Fd):Prop:=f.author.length=32∧(∀k,k<f.n→Cy (f.es k))∧Cy f.pf.a∧Cy f.pf.b
def F69:A7:=Iq (fun(f:Fd)=>[Fl f]) G9 (fun f=> .tup (.cons (arrV 32 (Be f).1) (.cons (.bool (Be f).2) .nil)))
theorem AA6:FOk Tryz.prog G 102 F69:=Bj fun f ⟨hf1,hf2,hf3,hf4⟩ Φ h=>by
 have hΓ:=Ab Tryz.f102.ntmps _ _ [] (.cons (AF4) (.cons (sA) (.cons (AF5.g) .nil))) .nil;refine Aw hΓ Tryz.func102 ?_;conv=>whnf
 repeat' ((first|apply Ap<;>intro _|apply An)<;>conv=>whnf)
 all_goals try exact⟨Ah⟩
 refine⟨⟨f.author,⟨false,f.n,f.es⟩⟩,rfl,⟨hf1,hf2⟩,?_⟩;conv=>whnf
 repeat' ((first|apply Ap<;>intro _|apply An)<;>conv=>whnf)
 all_goals try exact⟨Ah⟩
 ·refine⟨f.pf,rfl,⟨⟨hf3,hf4⟩⟩,?_⟩;conv=>whnf
  repeat' ((first|apply Ap<;>intro _|apply An)<;>conv=>whnf)
  all_goals try first|exact⟨Ah⟩|exact⟨fun _ _=>rfl⟩
  all_goals(refine cast (congrArg (fun b=>Φ (.tup (.cons (arrV 32 (Be f).1) (.cons (.bool b) .nil)))) ?_) h;simp_all[Be,B7 hf3.1.1 hf1]<;>(intros;omega))
 ·(refine cast (congrArg (fun b=>Φ (.tup (.cons (arrV 32 (Be f).1) (.cons (.bool b) .nil)))) ?_) h;simp_all[Be,B7 hf3.1.1 hf1]<;>(intros;omega))
 ·refine⟨f.pf.a,rfl,⟨hf3.1⟩,?_⟩;conv=>whnf
  repeat' ((first|apply Ap<;>intro _|apply An)<;>conv=>whnf)
  all_goals try exact⟨Ah⟩
  ·refine⟨f.pf.b,rfl,⟨hf4.1⟩,?_⟩;conv=>whnf
   repeat' ((first|apply Ap<;>intro _|apply An)<;>conv=>whnf)
   all_goals try exact⟨Ah⟩
   all_goals(refine cast (congrArg (fun b=>Φ (.tup (.cons (arrV 32 (Be f).1) (.cons (.bool b) .nil)))) ?_) h;simp_all[Be,B7 hf3.1.1 hf1]<;>(intros;omega))
  ·(refine cast (congrArg (fun b=>Φ (.tup (.cons (arrV 32 (Be f).1) (.cons (.bool b) .nil)))) ?_) h;simp_all[Be,B7 hf3.1.1 hf1]<;>(intros;omega))
 ·(refine cast (congrArg (fun b=>Φ (.tup (.cons (arrV 32 (Be f).1) (.cons (.bool b) .nil)))) ?_) h;simp_all[Be,B7 hf3.1.1 hf1]<;>(intros;omega))
def F66:A7:=Iq (fun(f:Fd)=>[Fl f]) G9 (fun f=> .int .i64 (if(Be f).2 then 0 else 1))
theorem AMq:FOk Tryz.prog G 60 F66:=Bj fun f hf Φ h=>by
 have hΓ:=Ab Tryz.f60.ntmps _ _ [] (.cons (AA6) .nil) .nil;refine Aw hΓ Tryz.func60 ?_;conv=>whnf
 repeat' ((first|apply Ap<;>intro _|apply An)<;>conv=>whnf)
 all_goals try exact⟨Ah⟩
 refine⟨f,rfl,⟨hf⟩,?_⟩;conv=>whnf
 repeat' ((first|apply Ap<;>intro _|apply An)<;>conv=>whnf)
 all_goals(refine cast (congrArg Φ (congrArg (V.int .i64) ?_)) h;simp_all)
def Yb(f:Fd):Int×List UInt8×Int:=if(Be f).2 then((f.n:Nat),(Be f).1,0)else(0,Kb,1)
def F33:A7:=Iq (fun(f:Fd)=>[Fl f]) G9 (fun f=> .tup (.cons (.int .i64 (Yb f).1) (.cons (arrV 32 (Yb f).2.1) (.cons (.int .i64 (Yb f).2.2) .nil))))
theorem AMf:FOk Tryz.prog G 64 F33:=Bj fun f hf Φ h=>by
 have hΓ:=Ab Tryz.f64.ntmps _ _ [] (.cons (AA6) .nil) .nil;refine Aw hΓ Tryz.func64 ?_;conv=>whnf
 repeat' ((first|apply Ap<;>intro _|apply An)<;>conv=>whnf)
 all_goals try exact⟨Ah⟩
 refine⟨f,rfl,⟨hf⟩,?_⟩;conv=>whnf
 repeat' ((first|apply Ap<;>intro _|apply An)<;>conv=>whnf)
 all_goals try exact⟨Ah⟩
 ·rename_i h1;have h2:(Be f).2=false:=by simpa using h1
  have e:Yb f=(0,Kb,1):=if_neg (by simp[h2]);rw[e]at h;refine cast (congrArg (fun g=>Φ (.tup (.cons (.int .i64 0) (.cons (.row 1 32 g) (.cons (.int .i64 1) .nil))))) ?_) h;exact funext fun k=>Cz 32 k
 ·rename_i h1;have h2:(Be f).2=true:=by simpa using h1
  have e:Yb f=(((f.n:Nat):Int),(Be f).1,(0:Int)):=if_pos h2;rw[e]at h;exact h
def F67:A7:=Iq (fun(a:List UInt8×List UInt8)=>[arrV 32 a.1,arrV 32 a.2]) (fun a=>a.1.length=32∧a.2.length=32) (fun a=> .int .i64 (Ct a.1 a.2))
theorem AA5:FOk Tryz.prog [] 53 F67:=Bj fun⟨l,m⟩ ⟨hl,hm⟩ Φ h=>by
 replace hl:l.length=32:=hl;replace hm:m.length=32:=hm;have hΓ:=Ad Tryz.f53.ntmps _ _ (FL.all (.cons oW .nil)) (HL.all .nil);refine Aw hΓ Tryz.func53 ?_;conv=>whnf
 repeat' ((first|apply Ap<;>intro _|apply An)<;>conv=>whnf)
 all_goals try exact⟨Ah⟩
 refine⟨(.imm _ _ _, .imm _ _ _),rfl,⟨fun _ _=>Dz _ _,fun _ _=>Dz _ _⟩,?_⟩;conv=>whnf
 repeat' ((first|apply Ap<;>intro _|apply An)<;>conv=>whnf)
 all_goals try exact⟨Ah⟩
 refine cast (congrArg Φ (congrArg (V.int .i64) ?_)) h
 have e1:bytesOf ((32:Int).toNat - Int.toNat 0) (fun k=>bf l (Int.toNat 0+k))=l:=by
  have:=Em l 0 32 (by omega)
  rw[List.drop_zero,List.take_of_length_le (by omega)]at this;exact this
 have e2:bytesOf ((32:Int).toNat - Int.toNat 0) (fun k=>bf m (Int.toNat 0+k))=m:=by
  have:=Em m 0 32 (by omega)
  rw[List.drop_zero,List.take_of_length_le (by omega)]at this;exact this
 show Ct l m=Ct (bytesOf ((32:Int).toNat - Int.toNat 0) fun k=>bf l (Int.toNat 0+k)) (bytesOf ((32:Int).toNat - Int.toNat 0) fun k=>bf m (Int.toNat 0+k))
 rw[e1,e2]
def Ls(l:Nat→Fd)(i:Nat):Bool:=(Be (l i)).2&&(decide (i=0)||decide (Ct (l (i - 1)).author (l i).author<0))
def B3(n:Nat)(l:Nat→Fd):Bool:=decide (1≤n)&&decide (n≤8)&&(List.range n).all (Ls l)
def F29:A7:=Iq (fun(a:qP)=>[C8 a.b a.n a.l]) (fun a=>∀k,k<a.n→G9 (a.l k)) (fun a=> .int .i64 (if B3 a.n a.l then 0 else 1))
theorem R2{n i:Nat}{p:Nat→Bool}(hi:i<n)(hp:p i=false):(List.range n).all p=false:=by
 rw[List.all_eq_false];exact⟨i,List.mem_range.2 hi,by simp[hp]⟩
theorem AA1:FOk Tryz.prog G 25 F29:=Bj fun⟨b,n,l⟩ hl Φ h=>by
 replace hl:∀k,k<n→G9 (l k):=hl;replace h:Φ (.int .i64 (if B3 n l then 0 else 1)):=h;have hΓ:=Ab Tryz.f25.ntmps _ _ [] (.cons (AMq) (.cons (AA5.g) .nil)) .nil;refine Aw hΓ Tryz.func25 ?_;conv=>whnf
 repeat' ((first|apply Ap<;>intro _|apply An)<;>conv=>whnf)
 ·rename_i h1;have h2:(n:Int)<1:=by simpa using h1
  refine cast (congrArg Φ (congrArg (V.int .i64) ?_)) h;exact if_neg (by simp[B3];omega)
 ·rename_i h0 h1;have h2:(8:Int)<n:=by simpa using h1
  refine cast (congrArg Φ (congrArg (V.int .i64) ?_)) h;exact if_neg (by simp[B3];omega)
 rename_i h0 h1;have h2:¬(n:Int)<1:=by simpa using h0
 have h3:¬(8:Int)<n:=by simpa using h1
 refine A4 (ι:=Nat) (fun i=>[(0,C8 b n l),(13,C8 b n l),(14, .int .i64 (n:Nat)),(15, .int .i64 (i:Nat))]) (fun i=>[]) (fun i=>i≤n∧(List.range i).all (Ls l)=true) (fun i=>n - i) 0 [] ?_ (fun i hi=>vo hΓ ?_)
 ·conv=>whnf
  repeat' ((first|apply Ap<;>intro _|apply An)<;>conv=>whnf)
  all_goals try first|exact⟨Bc⟩|exact⟨fun _ _=>rfl⟩|exact⟨⟨Nat.zero_le _,rfl⟩⟩
 ·conv=>whnf
  repeat' ((first|apply Ap<;>intro _|apply An)<;>conv=>whnf)
  all_goals(try simp only[decide_eq_true_eq,decide_eq_false_iff_not,Int.toNat_natCast,Bool.not_eq_true,Bool.not_eq_false]at*)
  all_goals try exact⟨Ah⟩
  ·have hin:i<n:=by omega
   refine⟨l i,rfl,⟨hl i hin⟩,?_⟩;conv=>whnf
   repeat' ((first|apply Ap<;>intro _|apply An)<;>conv=>whnf)
   ·rename_i g
    have g1:(Be (l i)).2=false:=by
     cases hq:(Be (l i)).2
     ·rfl
     ·simp[hq]at g
    replace g1:Ls l i=false:=by simp[Ls,g1]
    refine cast (congrArg Φ (congrArg (V.int .i64) ?_)) h;refine if_neg ?_;simp only[B3,R2 hin g1,Bool.and_false];simp
   ·exact⟨⟨by rw[A3 (by simp at*;omega) (by omega)];simp at*;omega,by rw[A3 (by simp at*;omega) (by omega)];omega⟩⟩
   ·exact⟨fun _ _=>trivial⟩
   ·exact⟨fun _ _=>trivial⟩
   ·rename_i g gi
    have hi0:0<i:=by
     have:(0:Int)<(i:Nat):=by simpa using gi
     omega
    have e0:(IntKind.i64.wrap ((i:Int) - 1)).toNat=i - 1:=by rw[A3 (by omega) (by omega)];omega
    refine⟨((l (IntKind.i64.wrap ((i:Int) - 1)).toNat).author,(l i).author),rfl,⟨by rw[e0];exact(hl _ (by omega)).1,(hl i hin).1⟩,?_⟩;conv=>whnf
    repeat' ((first|apply Ap<;>intro _|apply An)<;>conv=>whnf)
    ·rename_i g1;rw[e0]at g1
     have g2:¬Ct (l (i - 1)).author (l i).author<0:=by
      have:0≤Ct (l (i - 1)).author (l i).author:=by simpa using g1
      omega
     have g1:Ls l i=false:=by simp[Ls,g2,show¬i=0 by omega]
     refine cast (congrArg Φ (congrArg (V.int .i64) ?_)) h;refine if_neg ?_;simp only[B3,R2 hin g1,Bool.and_false];simp
    ·rename_i g1;rw[e0]at g1
     have g2:Ct (l (i - 1)).author (l i).author<0:=by
      have:¬0≤Ct (l (i - 1)).author (l i).author:=by simpa using g1
      omega
     have g1:Ls l i=true:=by
      have:(Be (l i)).2=true:=by
       cases hq:(Be (l i)).2
       ·simp[hq]at g
       ·rfl
      simp[Ls,g2,this]
     refine⟨i+1,[],?_⟩;conv=>whnf
     repeat' (apply An<;>conv=>whnf)
     all_goals try first|exact⟨Bc⟩|exact⟨fun _ _=>rfl⟩
     ·exact⟨by rw[A3 (by omega) (by omega)];rfl⟩
     ·refine⟨⟨⟨hin,?_⟩,by omega⟩⟩;rw[List.range_succ,List.all_append,hi.2];simp[g1]
   ·rename_i g gi
    have hi0:i=0:=by
     have:¬(0:Int)<(i:Nat):=by simpa using gi
     omega
    have g1:Ls l i=true:=by
     have:(Be (l i)).2=true:=by
      cases hq:(Be (l i)).2
      ·simp[hq]at g
      ·rfl
     simp[Ls,hi0]at this⊢
     simpa[hi0]using this
    refine⟨i+1,[],?_⟩;conv=>whnf
    repeat' (apply An<;>conv=>whnf)
    all_goals try first|exact⟨Bc⟩|exact⟨fun _ _=>rfl⟩
    ·exact⟨by rw[A3 (by omega) (by omega)];rfl⟩
    ·refine⟨⟨⟨hin,?_⟩,by omega⟩⟩;rw[List.range_succ,List.all_append,hi.2];simp[g1]
  refine vo hΓ ?_;conv=>whnf
  obtain rfl:i=n:=by omega
  refine cast (congrArg Φ (congrArg (V.int .i64) ?_)) h;refine if_pos ?_;simp only[B3,Bool.and_eq_true,decide_eq_true_eq];exact⟨⟨by omega,by omega⟩,hi.2⟩
structure Ce where
 key:List UInt8
 val:List UInt8
 stamp:Int
 author:List UInt8
 id:List UInt8
 gone:Bool
def C1(c:Ce):V:= .st (.cons (.str c.key) (.cons (Bl false c.val) (.cons (.int .i64 c.stamp) (.cons (arrV 32 c.author) (.cons (arrV 32 c.id) (.cons (.bool c.gone) .nil))))))
theorem AMv:FOk Tryz.prog [] 82 ADo:=Bj fun a _ Φ h=>by
 have hΓ:=Ad Tryz.f82.ntmps _ _ (FL.all (.cons AF9 .nil)) (HL.all .nil);refine Aw hΓ Tryz.func82 ?_;conv=>whnf
 repeat' ((first|apply Ap<;>intro _|apply An)<;>conv=>whnf)
 refine⟨a,rfl,⟨trivial⟩,?_⟩;conv=>whnf
 repeat' ((first|apply Ap<;>intro _|apply An)<;>conv=>whnf)
 exact h
theorem AMn:FOk Tryz.prog [] 41 ADo:=Bj fun a _ Φ h=>by
 have hΓ:=Ad Tryz.f41.ntmps _ _ (FL.all (.cons AMv .nil)) (HL.all .nil);refine Aw hΓ Tryz.func41 ?_;conv=>whnf
 repeat' ((first|apply Ap<;>intro _|apply An)<;>conv=>whnf)
 refine⟨a,rfl,⟨trivial⟩,?_⟩;conv=>whnf
 repeat' ((first|apply Ap<;>intro _|apply An)<;>conv=>whnf)
 exact h
def F56:A7:=Iq (fun(a:Ce×List UInt8)=>[C1 a.1, .str a.2]) (fun _=>True) (fun a=> .int .i64 (Ct a.1.key a.2))
theorem AMm:FOk Tryz.prog [] 40 F56:=Bj fun a _ Φ h=>by
 have hΓ:=Ad Tryz.f40.ntmps _ _ (FL.all (.cons AMn .nil)) (HL.all .nil);refine Aw hΓ Tryz.func40 ?_;conv=>whnf
 repeat' ((first|apply Ap<;>intro _|apply An)<;>conv=>whnf)
 refine⟨(a.1.key,a.2),rfl,⟨trivial⟩,?_⟩;conv=>whnf
 repeat' ((first|apply Ap<;>intro _|apply An)<;>conv=>whnf)
 exact h
def Cc(e:Bw):Ce:=⟨e.key,e.val,e.stamp,e.author,(W9 e).1,decide (e.kind=2)⟩
def F54:A7:=Iq (fun(e:Bw)=>[Ak e]) (fun e=>Cy e∧e.val.length≤1000000) (fun e=>C1 (Cc e))
theorem AMk:FOk Tryz.prog G 38 F54:=Bj fun e ⟨he,hv⟩ Φ h=>by
 have hΓ:=Ab Tryz.f38.ntmps _ _ [] (.cons (AAa) (.cons (oU.g) .nil)) .nil;refine Aw hΓ Tryz.func38 ?_;conv=>whnf
 repeat' ((first|apply Ap<;>intro _|apply An)<;>conv=>whnf)
 all_goals try exact⟨Ah⟩
 refine⟨e,rfl,⟨he⟩,?_⟩;conv=>whnf
 repeat' ((first|apply Ap<;>intro _|apply An)<;>conv=>whnf)
 all_goals try exact⟨Ah⟩
 refine⟨.of _ _,rfl,⟨trivial,hv⟩,?_⟩;conv=>whnf
 repeat' ((first|apply Ap<;>intro _|apply An)<;>conv=>whnf)
 all_goals try exact⟨Ah⟩
 refine cast (congrArg (fun g=>Φ (.st (.cons (.str e.key) (.cons (Bl false e.val) (.cons (.int .i64 e.stamp) (.cons (arrV 32 e.author) (.cons (arrV 32 (W9 e).1) (.cons (.bool g) .nil)))))))) ?_) h;rw[Bool.eq_iff_iff];simp[Cc]
def AU3:A7:=Iq (fun(n:Int)=>[.int .i64 n]) (fun _=>True) (fun _=> .bool false)
theorem AFa:FOk Tryz.prog [] 126 AU3:=Bj fun n _ Φ h=>by
 have hΓ:=Ad Tryz.f126.ntmps _ _ (FL.all .nil) (HL.all .nil);refine Aw hΓ Tryz.func126 ?_;conv=>whnf
 repeat' ((first|apply Ap<;>intro _|apply An)<;>conv=>whnf)
 refine cast (congrArg Φ (congrArg V.bool ?_)) h;simp
def aI(x y:Int):Int:=if x<y then -1 else if y<x then 1 else 0
def F94:A7:=Iq (fun(a:Int×Int)=>[.int .i64 a.1, .int .i64 a.2]) (fun _=>True) (fun a=> .int .i64 (aI a.1 a.2))
theorem AMx:FOk Tryz.prog [] 86 F94:=Bj fun⟨x,y⟩ _ Φ h=>by
 have hΓ:=Ad Tryz.f86.ntmps _ _ (FL.all (.cons AFa .nil)) (HL.all .nil);refine Aw hΓ Tryz.func86 ?_;conv=>whnf
 repeat' ((first|apply Ap<;>intro _|apply An)<;>conv=>whnf)
 refine⟨x,rfl,⟨trivial⟩,?_⟩;conv=>whnf
 repeat' ((first|apply Ap<;>intro _|apply An)<;>conv=>whnf)
 refine⟨y,rfl,⟨trivial⟩,?_⟩;conv=>whnf
 repeat' ((first|apply Ap<;>intro _|apply An)<;>conv=>whnf)
 all_goals(refine cast (congrArg Φ (congrArg (V.int .i64) ?_)) h;simp_all[aI]<;>omega)
def cO(f:Nat→Int):Nat→Int|0=>0|n+1=>if cO f n≠0 then cO f n else f n
structure OrA where
 b:Bool
 n:Nat
 g:Nat→V
 f:Nat→Int
def F93:A7:=Iq (fun(a:OrA)=>[.imm a.b 1 a.n a.g]) (fun a=>a.n≤1000∧∀k,k<a.n→a.g k= .int .i64 (a.f k)) (fun a=> .int .i64 (cO a.f a.n))
theorem lX{f:Nat→Int}{i:Nat}(h:cO f i≠0):∀n,i≤n→cO f n=cO f i
 |0,hn=>by(obtain rfl:i=0:=by omega);rfl
 |n+1,hn=>by
  rcases Nat.lt_or_ge i (n+1)with h1|h1
  ·have h2:=lX h n (by omega);simp only[cO];rw[if_pos (by rw[h2];exact h),h2]
  ·obtain rfl:i=n+1:=by omega
   rfl
theorem AMw:FOk Tryz.prog [] 85 F93:=Bj fun⟨b,n,g,f⟩ ⟨hn,hg⟩ Φ h=>by
 refine CP.le (ys:=[.imm b 1 n fun k=> .int .i64 (f k)]) (fun E l hT=>?_) ?_
 ·cases l with
  |nil=>exact hT
  |cons x l=>exact⟨Ke hg hT.1,hT.2⟩
 replace h:Φ (.int .i64 (cO f n)):=h;replace hn:n≤1000:=hn;have hΓ:=Ad Tryz.f85.ntmps _ _ (FL.all .nil) (HL.all .nil);refine Aw hΓ Tryz.func85 ?_;conv=>whnf
 refine A4 (ι:=Nat) (fun i=>[(3, .int .i64 0),(6, .imm b 1 n fun k=> .int .i64 (f k)),(7, .int .i64 (n:Nat)),(8, .int .i64 (i:Nat))]) (fun i=>[]) (fun i=>i≤n∧cO f i=0) (fun i=>n - i) 0 [] ?_ (fun i hi=>vo hΓ ?_)
 ·conv=>whnf
  repeat' ((first|apply Ap<;>intro _|apply An)<;>conv=>whnf)
  all_goals try first|exact⟨Bc⟩|exact⟨fun _ _=>rfl⟩|exact⟨⟨Nat.zero_le _,rfl⟩⟩
 ·conv=>whnf
  repeat' ((first|apply Ap<;>intro _|apply An)<;>conv=>whnf)
  all_goals(try simp only[decide_eq_true_eq,decide_eq_false_iff_not,Int.toNat_natCast,Bool.not_eq_true,Bool.not_eq_false]at*)
  all_goals try exact⟨Bc⟩
  ·rename_i g1 _;have g2:f i≠0:=by simpa using g1
   have hin:i<n:=by omega
   refine cast (congrArg Φ (congrArg (V.int .i64) ?_)) h;have e1:cO f (i+1)=f i:=by simp[cO,hi.2]
   rw[lX (i:=i+1) (by rw[e1];exact g2) n (by omega),e1]
  ·rename_i g1 _;have g2:f i=0:=by simpa using g1
   refine⟨i+1,[],?_⟩;conv=>whnf
   repeat' (apply An<;>conv=>whnf)
   all_goals try first|exact⟨Bc⟩|exact⟨fun _ _=>rfl⟩
   ·exact⟨by rw[A3 (by omega) (by omega)];rfl⟩
   ·exact⟨⟨⟨by omega,by simp[cO,hi.2,g2]⟩,by omega⟩⟩
  refine vo hΓ ?_;conv=>whnf
  obtain rfl:i=n:=by omega
  rw[hi.2]at h;exact h
theorem uG{l:List UInt8}(h:l.length=32):bytesOf (((32:Nat):Int).toNat - Int.toNat 0) (fun k=>bf l (Int.toNat 0+k))=l:=by
 have:=Em l 0 32 (by omega)
 rw[List.drop_zero,List.take_of_length_le (by omega)]at this;exact this
def Io(a b:Ce):Int:=cO (fun k=>match k with|0=>aI a.stamp b.stamp|1=>Ct a.author b.author|_=>Ct a.id b.id) 3
def wfC(c:Ce):Prop:=c.author.length=32∧c.id.length=32
def F59:A7:=Iq (fun(a:Ce×Ce)=>[C1 a.1,C1 a.2]) (fun a=>wfC a.1∧wfC a.2) (fun a=> .int .i64 (Io a.1 a.2))
theorem AMo:FOk Tryz.prog [] 43 F59:=Bj fun⟨a,b⟩ ⟨⟨ha1,ha2⟩,⟨hb1,hb2⟩⟩ Φ h=>by
 have hΓ:=Ad Tryz.f43.ntmps _ _ (FL.all (.cons AMx (.cons oW (.cons AMw .nil)))) (HL.all .nil);refine Aw hΓ Tryz.func43 ?_;conv=>whnf
 repeat' ((first|apply Ap<;>intro _|apply An)<;>conv=>whnf)
 all_goals try exact⟨Ah⟩
 refine⟨(a.stamp,b.stamp),rfl,⟨trivial⟩,?_⟩;conv=>whnf
 repeat' ((first|apply Ap<;>intro _|apply An)<;>conv=>whnf)
 all_goals try exact⟨Ah⟩
 refine⟨(.imm _ _ _, .imm _ _ _),rfl,⟨fun _ _=>Dz _ _,fun _ _=>Dz _ _⟩,?_⟩;conv=>whnf
 repeat' ((first|apply Ap<;>intro _|apply An)<;>conv=>whnf)
 all_goals try exact⟨Ah⟩
 refine⟨(.imm _ _ _, .imm _ _ _),rfl,⟨fun _ _=>Dz _ _,fun _ _=>Dz _ _⟩,?_⟩;conv=>whnf
 repeat' ((first|apply Ap<;>intro _|apply An)<;>conv=>whnf)
 all_goals try exact⟨Ah⟩
 ·refine⟨?_⟩;refine(A0 ?_ (A0 ?_ (A0 ?_ A9)));all_goals exact trivial
 refine⟨⟨_,3,_,fun k=>match k with|0=>aI a.stamp b.stamp|1=>Ct a.author b.author|_=>Ct a.id b.id⟩,rfl,⟨by show 3≤1000;omega,?_⟩,?_⟩
 ·refine(A0 ?_ (A0 ?_ (A0 ?_ A9)))
  ·show V.int .i64 _=_
   simp only[By.l];rw[uG ha2,uG hb2]
  ·show V.int .i64 _=_
   simp only[By.l];rw[uG ha1,uG hb1]
  ·rfl
 conv=>whnf
 repeat' ((first|apply Ap<;>intro _|apply An)<;>conv=>whnf)
 exact h
def Qd(c:Nat→Int)(i j:Nat):Nat:=
 if i<j then(if c ((i+j)/2)<0 then Qd c ((i+j)/2+1) j else Qd c i ((i+j)/2))else i
termination_by j - i
decreasing_by all_goals omega
theorem eM(c:Nat→Int)(i j:Nat)(h:i≤j):Qd c i j≤j:=by
 induction i,j using Qd.induct c with
 |case1 i j h1 h2 ih=>rw[Qd,if_pos h1,if_pos h2];exact ih (by omega)
 |case2 i j h1 h2 ih=>rw[Qd,if_pos h1,if_neg h2];exact Nat.le_trans (ih (by omega)) (by omega)
 |case3 i j h1=>rw[Qd,if_neg h1];exact h
structure BsA where
 b:Bool
 n:Nat
 cs:Nat→Ce
 key:List UInt8
def Nr(b:Bool)(n:Nat)(cs:Nat→Ce):V:= .imm b 68 n fun k=>C1 (cs k)
def Gy(cs:Nat→Ce)(key:List UInt8)(k:Nat):Int:=Ct (cs k).key key
def iS(a:BsA):Nat×Bool:=(Qd (Gy a.cs a.key) 0 a.n,decide (Qd (Gy a.cs a.key) 0 a.n<a.n)&&decide (Gy a.cs a.key (Qd (Gy a.cs a.key) 0 a.n)=0))
def F55:A7:=Iq (fun(a:BsA)=>[Nr a.b a.n a.cs, .str a.key, .fn 40 .nil]) (fun a=>a.n≤1000000) (fun a=> .tup (.cons (.int .i64 ((iS a).1:Nat)) (.cons (.bool (iS a).2) .nil)))
theorem AS3{i j:Nat}(h:i+j≤100000000):IntKind.i64.wrap (Bt IntKind.u64 (IntKind.u64.wrap (IntKind.i64.wrap ((i:Int)+(j:Nat)))) 1)=(((i+j)/2:Nat):Int):=by
 have h1:IntKind.i64.wrap ((i:Int)+(j:Nat))=((i+j:Nat):Int):=by rw[A3 (by omega) (by omega)];omega
 have h2:IntKind.u64.wrap ((i+j:Nat):Int)=((i+j:Nat):Int):=by rw[IntKind.wrap_u64];omega
 have h3:min (Int.toNat 1) IntKind.u64.bits=1:=by decide
 rw[h1,h2,Bt,h3,Int.fdiv_eq_ediv_of_nonneg _ (by decide),A3 (by omega) (by omega)];omega
theorem AMl:FOk Tryz.prog [] 39 F55:=Bj fun⟨b,n,cs,key⟩ hn Φ h=>by
 replace hn:n≤1000000:=hn;replace h:Φ (.tup (.cons (.int .i64 ((iS ⟨b,n,cs,key⟩).1:Nat)) (.cons (.bool (iS ⟨b,n,cs,key⟩).2) .nil))):=h;have hΓ:=Ad Tryz.f39.ntmps _ _ (FL.all (.cons AMm .nil)) (HL.all .nil);refine Aw hΓ Tryz.func39 ?_;conv=>whnf
 refine A4 (ι:=Nat×Nat) (fun x=>[(0,Nr b n cs),(1, .str key),(2, .fn 40 .nil),(8, .int .i64 (n:Nat)),(9, .int .i64 (x.1:Nat)),(10, .int .i64 (x.2:Nat))]) (fun x=>[]) (fun x=>x.1≤x.2∧x.2≤n∧Qd (Gy cs key) x.1 x.2=Qd (Gy cs key) 0 n) (fun x=>x.2 - x.1) (0,n) [] ?_ (fun i hi=>vo hΓ ?_)
 ·conv=>whnf
  repeat' ((first|apply Ap<;>intro _|apply An)<;>conv=>whnf)
  all_goals try first|exact⟨Bc⟩|exact⟨fun _ _=>rfl⟩|exact⟨⟨Nat.zero_le _,Nat.le_refl _,rfl⟩⟩
 ·obtain⟨i,j⟩:=i;obtain⟨hi1,hi2,hi3⟩:i≤j∧j≤n∧Qd (Gy cs key) i j=Qd (Gy cs key) 0 n:=hi;conv=>whnf
  repeat' ((first|apply Ap<;>intro _|apply An)<;>conv=>whnf)
  all_goals(try simp only[decide_eq_true_eq,decide_eq_false_iff_not,Int.toNat_natCast,Bool.not_eq_true,Bool.not_eq_false]at*)
  all_goals try exact⟨Bc⟩
  ·have hw:=AS3 (i:=i) (j:=j) (by omega);exact⟨⟨by rw[hw];omega,by rw[hw];omega⟩⟩
  ·exact⟨fun _ _=>trivial⟩
  ·exact⟨fun _ _=>trivial⟩
  ·have hw:=AS3 (i:=i) (j:=j) (by omega);have hij:i<j:=by omega
   refine⟨(cs (IntKind.i64.wrap (Bt IntKind.u64 (IntKind.u64.wrap (IntKind.i64.wrap ((i:Int)+(j:Nat)))) 1)).toNat,key),rfl,⟨trivial⟩,?_⟩;conv=>whnf
   repeat' ((first|apply Ap<;>intro _|apply An)<;>conv=>whnf)
   ·rename_i g;rw[hw,Int.toNat_natCast]at g;have g2:Gy cs key ((i+j)/2)<0:=by simpa[Gy]using g
    refine⟨((i+j)/2+1,j),[],?_⟩;conv=>whnf
    repeat' (apply An<;>conv=>whnf)
    all_goals try first|exact⟨Bc⟩|exact⟨fun _ _=>rfl⟩
    ·refine⟨?_⟩;rw[hw,A3 (by omega) (by omega)];rfl
    ·refine⟨⟨⟨by show(i+j)/2+1≤j;omega,hi2,?_⟩,by show j - ((i+j)/2+1)<j - i;omega⟩⟩
     show Qd (Gy cs key) ((i+j)/2+1) j=_
     rw[←hi3,Qd.eq_1 _ i j,if_pos hij,if_pos g2]
   ·rename_i g;rw[hw,Int.toNat_natCast]at g;have g2:¬Gy cs key ((i+j)/2)<0:=by simpa[Gy]using g
    refine⟨(i,(i+j)/2),[],?_⟩;conv=>whnf
    repeat' (apply An<;>conv=>whnf)
    all_goals try first|exact⟨Bc⟩|exact⟨fun _ _=>rfl⟩|exact⟨hw⟩
    ·refine⟨⟨⟨by show i≤(i+j)/2;omega,by show(i+j)/2≤n;omega,?_⟩,by show(i+j)/2 - i<j - i;omega⟩⟩
     show Qd (Gy cs key) i ((i+j)/2)=_
     rw[←hi3,Qd.eq_1 _ i j,if_pos hij,if_neg g2]
  have hb:Qd (Gy cs key) 0 n=i:=by rw[←hi3,Qd,if_neg (by omega)]
  simp only[iS,hb]at h;refine vo hΓ ?_;conv=>whnf
  repeat' ((first|apply Ap<;>intro _|apply An)<;>conv=>whnf)
  ·rename_i g
   have:(i:Int)<(n:Nat):=by simpa using g
   exact⟨by omega⟩
  ·exact⟨fun _ _=>trivial⟩
  ·exact⟨fun _ _=>trivial⟩
  ·rename_i g;have h1:(i:Int)<(n:Nat):=by simpa using g
   refine⟨(cs i,key),rfl,⟨trivial⟩,?_⟩;conv=>whnf
   repeat' ((first|apply Ap<;>intro _|apply An)<;>conv=>whnf)
   refine cast (congrArg (fun q=>Φ (.tup (.cons (.int .i64 (i:Nat)) (.cons (.bool q) .nil)))) ?_) h;rw[Bool.eq_iff_iff];simp[Gy,show i<n by omega]
   exact decide_eq_true_iff
  ·rename_i g;have h1:¬(i:Int)<(n:Nat):=by simpa using g
   refine cast (congrArg (fun q=>Φ (.tup (.cons (.int .i64 (i:Nat)) (.cons (.bool q) .nil)))) ?_) h;simp[show¬i<n by omega]
def AM0(n:Nat)(fs:List (Nat×A7))(ps:List (Nat×Ix))(fh:List (Nat×Ai))(ex:List (Nat×Q1)):Fu:=⟨tb,ps++fs.map fun p=>(p.1,jQ p.2),fh,G,n,0,ex,true⟩
theorem AEx(n:Nat)(fs:List (Nat×A7))(ps:List (Nat×Ix))(fh:List (Nat×Ai))(ex:List (Nat×Q1))(h:FL Tryz.prog G fs)(h2:PL ps)(h':HL Tryz.prog G fh):Aj Tryz.prog (AM0 n fs ps fh ex) where
 tb:=K6
 fs:=(R9 n fs ps fh ex h h2 h').fs
 fh:=h'.all
theorem vZ{α:Type}{o:Option α}(h:o.isSome=true):∃x,o=some x:=Option.isSome_iff_exists.1 h
theorem ANt:Gv Tryz.prog G 83 Ys:=AC8 (fn:=Tryz.f83) (t:=49) (r:=4) (e:=80) rfl rfl (by decide) (by kernel_rfl) (by kernel_rfl) (by kernel_rfl) (vZ (by kernel_rfl))
theorem Ef(c:Ce):Mm (C1 c):=by
 simp[C1,Mm,mC,Bl,arrV,bf]
theorem Uy(c:Ce):Br (C1 c):=by
 simp[C1,Br,Is,Bl,arrV,bf]
theorem cQ(c:Ce):own (C1 c):=by
 simp only[C1,Bl,arrV,own,Jz];exact⟨trivial,fun k _=>Bg _ k,trivial,fun k _=>Bg _ k,fun k _=>Bg _ k,trivial,trivial⟩
def ce0:Ce:=⟨[],[],0,[],[],false⟩
structure InA where
 len:Nat
 k:Nat
 n:Nat
 g:Nat→Ce
 c:Ce
def Va(g:Nat→Ce)(k:Nat)(c:Ce)(j:Nat):Ce:=if j<k then g j else if j=k then c else g (j - 1)
def H58:Ai:=ANh (fun(x:InA)=>[.slx 0 68 0 x.len x.n, .int .i64 (x.k:Nat), .sl 1 [] 68 0 1 1]) (fun x=>[some (.row 68 x.n fun j=>C1 (x.g j)),some (.row 68 1 fun _=>C1 x.c)])
 (fun x=>x.k≤x.len∧x.len≤x.n∧x.len≤100000)
 (fun x (i:Nat×(Nat→Ce))=>x.len+1≤i.1∧∀j,j<x.len+1→i.2 j=Va x.g x.k x.c j)
 (fun x i=> .slx 2 68 0 (x.len+1) i.1) (fun x i=>[none,none,some (.row 68 i.1 fun j=>C1 (i.2 j))])
def P91:Ix:=Ys
theorem yV:Aj Tryz.prog (AM0 Tryz.f42.ntmps [] [(83,P91)] [] []):=AEx _ _ _ _ _ .nil (.cons ANt .nil) .nil
def S58:Ai:=fun xs h κ=>xs.length=3∧B4 Tryz.prog (AM0 Tryz.f42.ntmps [] [(83,P91)] [] []) (Bd Tryz.f42) Tryz.f42.results.toList xs h κ
theorem AOa:Af Tryz.prog G 42 S58:=Q6 3 yV Tryz.func42
def ceZ:V:= .st (.cons (.str []) (.cons .emp (.cons (.int .i64 0) (.cons (.row 1 32 fun x=> .int .u8 0) (.cons (.row 1 32 fun x=> .int .u8 0) (.cons .ff .nil))))))
theorem AHl(m:List (Option Nat)):Da m ceZ (C1 ce0):=by
 simp only[ceZ,C1,Da];refine⟨_,rfl,?_⟩;simp only[I8,Da,Bl,arrV,ce0];exact⟨trivial, .inl (by simp),trivial,⟨_,rfl,fun k _=>Aa _ trivial⟩,⟨_,rfl,fun k _=>Aa _ trivial⟩,rfl,trivial⟩
theorem Xe{N C:Nat}{F:Nat→V}{G:Nat→Ce}{g:Nat→Ce}(hN:N≤C)(h1:∀j,j<N→F j=C1 (G j))(h2:∀j,N≤j→j<C→F j=ceZ∨F j=C1 (g j)):
  ∃g':Nat→Ce,(∀j,j<N→g' j=G j)∧∀(m:List (Option Nat)) j,j<C→Da m (F j) (C1 (g' j)):=by
 have h3:∀j,∃c,(j<N→c=G j)∧∀m,j<C→Da m (F j) (C1 c):=fun j=>by
  rcases Nat.lt_or_ge j N with h|h
  ·exact⟨G j,fun _=>rfl,fun m _=>A5 (h1 j h) (Ef _)⟩
  ·rcases Nat.lt_or_ge j C with h'|h'
   ·rcases h2 j h h' with h4|h4
    ·exact⟨ce0,fun h5=>absurd h5 (by omega),fun m _=>by rw[h4];exact AHl m⟩
    ·exact⟨g j,fun h5=>absurd h5 (by omega),fun m _=>A5 h4 (Ef _)⟩
   ·exact⟨ce0,fun h5=>absurd h5 (by omega),fun m h5=>absurd h5 (by omega)⟩
 obtain⟨g',hg⟩:=Classical.axiomOfChoice h3;exact⟨g',fun j hj=>(hg j).1 hj,fun m j hj=>(hg j).2 m hj⟩
theorem AN2:Af Tryz.prog G 42 H58:=AHu AOa (fun x κ ⟨h1,h2,h5⟩ h=>by
 refine⟨rfl,?_⟩;refine vj yV ?_;have w1:IntKind.i64.wrap ((x.len:Nat)+((1:Nat):Int))=((x.len+1:Nat):Int):=by rw[A3 (by omega) (by omega)];omega
 have w2:IntKind.i64.wrap (((x.len+1:Nat):Int) - (x.k:Nat))=((x.len+1 - x.k:Nat):Int):=by rw[A3 (by omega) (by omega)];omega
 have w3:IntKind.i64.wrap ((x.k:Nat)+((1:Nat):Int))=((x.k+1:Nat):Int):=by rw[A3 (by omega) (by omega)];omega
 have t0:Int.toNat 0=0:=rfl;conv=>whnf
 repeat' ((first|apply Ap<;>intro _|apply An)<;>conv=>whnf)
 all_goals simp only[w1,w2,w3,Int.toNat_natCast,t0,Nat.sub_zero,Nat.zero_add,beq_iff_eq,beq_eq_false_iff_ne,ne_eq,decide_eq_true_eq,decide_eq_false_iff_not]at*
 ·exact⟨by omega⟩
 ·omega
 ·exact⟨by omega⟩
 ·exact⟨by omega⟩
 ·exact⟨⟨by show(x.len+1)*120≤_;omega,by omega⟩⟩
 ·intro C f' g1 g2 g3
  obtain⟨g',hg',hel⟩:=Xe (G:=Va x.g x.k x.c) (g:=x.g) g1 (fun j hj=>by
   refine(g2 j hj).trans ?_;simp only[Va]
   have:x.k=x.len:=by omega
   by_cases h7:j<x.len
   ·rw[if_pos h7,if_pos (by omega)]
   ·rw[if_neg h7,if_neg (by omega),if_pos (by omega)]) (fun j hj hj'=>(g3 j hj hj').imp id And.right)
  conv=>whnf
  refine⟨[some 0,some 1,some 2], .slx 2 68 0 (x.len+1) C,[none,none,some (.row 68 C fun j=>C1 (g' j))],?_⟩;conv=>whnf
  repeat' (apply An<;>conv=>whnf)
  all_goals try first|exact⟨Bc⟩|exact⟨fun k hk=>hel _ k hk⟩
  exact h (C,g') ⟨by show x.len+1≤C;omega,hg'⟩
 ·exact⟨by omega⟩
 ·exact⟨by omega⟩
 ·exact⟨by omega⟩
 ·exact⟨by show _*120≤_∧_;omega⟩
 ·exact⟨by omega⟩
 ·intro C f' g1 g2 g3;have e1:x.k+(x.len+1 - x.k)=x.len+1:=by omega
  simp only[e1]at*;conv=>whnf
  repeat' ((first|apply Ap<;>intro _|apply An)<;>conv=>whnf)
  all_goals try simp only[show IntKind.i64.wrap ((x.k:Nat)+((1:Nat):Int))=((x.k+1:Nat):Int) by rw[A3 (by omega) (by omega)];omega,Int.toNat_natCast,show Int.toNat 0=0 from rfl,Nat.sub_zero,Nat.zero_add]
  all_goals try exact⟨by omega⟩
  obtain⟨g',hg',hel⟩:=Xe (F:=fun j=>if x.k+1≤j∧j<x.k+1+min (x.len - x.k) (x.len+1 - (x.k+1))then C1 (x.g (x.k+(j - (x.k+1))))else if x.k≤j∧j<x.k+min 1 (x.len+1 - x.k)then C1 x.c else f' j) (G:=Va x.g x.k x.c) (g:=x.g) g1 (fun j hj=>by
   simp only[Va]
   by_cases h7:j<x.k
   ·rw[if_neg (by omega),if_neg (by omega),if_pos h7,g2 j hj,if_pos h7]
   ·by_cases h8:j=x.k
    ·rw[if_neg (by omega),if_pos (by omega),if_neg h7,if_pos h8]
    ·rw[if_pos (by omega),if_neg h7,if_neg h8]
     congr 2;omega) (fun j hj hj'=>by
   rw[if_neg (by omega),if_neg (by omega)];exact(g3 j hj hj').imp id And.right)
  refine⟨[some 0,some 1,some 2], .slx 2 68 0 (x.len+1) C,[none,none,some (.row 68 C fun j=>C1 (g' j))],?_⟩;conv=>whnf
  repeat' (apply An<;>conv=>whnf)
  all_goals try first|exact⟨Bc⟩|exact⟨fun k hk=>hel _ k hk⟩
  exact h (C,g') ⟨by show x.len+1≤C;omega,hg'⟩
 all_goals try exact⟨by omega⟩
 obtain⟨g',hg',hel⟩:=Xe (F:=fun k=>if x.k≤k∧k<x.k+min 1 (x.len+1 - x.k)then C1 x.c else if x.k+1≤k∧k<x.k+1+min (x.len+1 - x.k) (x.len+1 - (x.k+1))then C1 (x.g (x.k+(k - (x.k+1))))else C1 (x.g k)) (G:=Va x.g x.k x.c) (g:=x.g) (show x.len+1≤x.n by omega) (fun j hj=>by
   simp only[Va]
   by_cases h7:j<x.k
   ·rw[if_neg (by omega),if_neg (by omega),if_pos h7]
   ·by_cases h8:j=x.k
    ·rw[if_pos (by omega),if_neg h7,if_pos h8]
    ·rw[if_neg (by omega),if_pos (by omega),if_neg h7,if_neg h8]
     congr 2;omega) (fun j hj hj'=>by
   rw[if_neg (by omega),if_neg (by omega)];exact .inr rfl)
 refine⟨[some 0,some 1,some 0], .slx 2 68 0 (x.len+1) x.n,[none,none,some (.row 68 x.n fun j=>C1 (g' j))],?_⟩;conv=>whnf
 repeat' (apply An<;>conv=>whnf)
 all_goals try first|exact⟨Bc⟩|exact⟨fun k hk=>hel _ k hk⟩
 exact h (x.n,g') ⟨by show x.len+1≤x.n;omega,hg'⟩
 ) (fun _ _=>by simp) (fun _ _ _=>by simp[Hf]) (fun a i u hq hu=>by
  simp at hu;subst hu
  simp only[Hf];exact fun j hj=>Uy _)
end Go.Proofs.YtaihjcpfjgpmoaaGreatDoor
