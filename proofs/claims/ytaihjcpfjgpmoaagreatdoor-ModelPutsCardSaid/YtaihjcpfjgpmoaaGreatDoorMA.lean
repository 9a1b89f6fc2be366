/- Part of the claim ModelPuts: M2, M3. -/
import Derived.Test.YtaihjcpfjgpmoaaGreatDoorDC
import Derived.Test.YtaihjcpfjgpmoaaGreatDoorZA
import Derived.Test.YtaihjcpfjgpmoaaGreatDoorZC
import Derived.Test.YtaihjcpfjgpmoaaGreatDoorZD
import Derived.Test.YtaihjcpfjgpmoaaGreatDoorZF
set_option linter.unusedVariables false
set_option linter.unusedSimpArgs false
set_option maxRecDepth 100000
set_option maxHeartbeats 2000000
namespace Go.Proofs.YtaihjcpfjgpmoaaGreatDoor
open Go Go.DD
def AU4:A7:=Bf (fun(a:By)=>[a.v]) pR (fun a=>a.l) (Bl false)
theorem AFd:FOk Tryz.prog [] 109 AU4:=A8 fun a ⟨ha,hn⟩=>by
 refine CP.by1 ha ?_;generalize a.l=l at hn;generalize a.b=b1;have hΓ:=Ad Tryz.f109.ntmps _ _ (FL.all .nil) (HL.all .nil);refine Aw hΓ Tryz.func109 ?_;conv=>whnf
 intro b hb;conv=>whnf
 repeat' ((first|apply Ap<;>intro _|apply An)<;>conv=>whnf)
 ·rename_i hb2;have h0:=List.eq_nil_of_length_eq_zero (hb hb2);subst h0;exact Ld.emp
 refine Or.inl ?_;conv=>whnf
 repeat' ((first|apply Ap<;>intro _|apply An)<;>conv=>whnf)
 all_goals try first|exact⟨Bc⟩|exact⟨⟨by show(0+l.length)*1≤_;omega,by omega⟩⟩|exact⟨fun _ _=>Bg _ _⟩
 show Ld (.imm false 1 (0+l.length) _) _
 rw[Nat.zero_add];exact Ld.imm fun k hk=>(if_neg (Nat.not_lt_zero _)).trans (congrArg (bf l) (by omega))
def xR:A7:=Bf (fun(e:Bw)=>[Ak e]) cN (fun e=>e) Ak
theorem Rr:FOk Tryz.prog [] 68 xR:=A8 fun e hv=>by
 have hΓ:=Ad Tryz.f68.ntmps _ _ (FL.all (.cons AFd .nil)) (HL.all .nil);refine Aw hΓ Tryz.func68 ?_;conv=>whnf
 repeat' ((first|apply Ap<;>intro _|apply An)<;>conv=>whnf)
 refine⟨.of false e.val,⟨AE.refl _,trivial⟩,⟨trivial,hv⟩,?_⟩;intro r hr;replace hr:r=e.val:=hr;subst hr;conv=>whnf
 repeat' ((first|apply Ap<;>intro _|apply An)<;>conv=>whnf)
 all_goals try exact⟨Ah⟩
 exact Ld.refl _
def ADv:A7:=Bf (fun(p:Pf)=>[aC p]) okP (fun p=>p) aC
theorem sR:FOk Tryz.prog [] 108 ADv:=A8 fun p ⟨hv1,hv2⟩=>by
 have hΓ:=Ad Tryz.f108.ntmps _ _ (FL.all (.cons Rr .nil)) (HL.all .nil);refine Aw hΓ Tryz.func108 ?_;conv=>whnf
 repeat' ((first|apply Ap<;>intro _|apply An)<;>conv=>whnf)
 all_goals try exact⟨Ah⟩
 refine⟨p.a,⟨AE.refl _,trivial⟩,⟨hv1⟩,?_⟩;intro r hr;replace hr:r=p.a:=hr;subst hr;conv=>whnf
 repeat' ((first|apply Ap<;>intro _|apply An)<;>conv=>whnf)
 all_goals try exact⟨Ah⟩
 refine⟨p.b,⟨AE.refl _,trivial⟩,⟨hv2⟩,?_⟩;intro r hr;replace hr:r=p.b:=hr;subst hr;conv=>whnf
 repeat' ((first|apply Ap<;>intro _|apply An)<;>conv=>whnf)
 all_goals try exact⟨Ah⟩
 exact Ld.refl _
theorem Vm:Aj Tryz.prog (Ka Tryz.f107.ntmps [(68,xR)] []):=Ad Tryz.f107.ntmps [(68,xR)] [] (FL.all (.cons Rr .nil)) (HL.all .nil)
def AV4:Ai:=fun xs h κ=>xs.length=1∧B4 Tryz.prog (Ka Tryz.f107.ntmps [(68,xR)] []) (Bd Tryz.f107) Tryz.f107.results.toList xs h κ
theorem AIr:Af Tryz.prog [] 107 AV4:=Q6 1 Vm Tryz.func107
def AE2:Ai:=L8 (fun(a:xO)=>[Kn a.b a.n a.es]) (fun _=>[]) (fun a=>a.n≤10000∧∀k,k<a.n→cN (a.es k)) (fun a=> .sl 0 [] 133 0 a.n a.n) (fun a=>[some (.row 133 a.n fun k=>Ak (a.es k))])
theorem AH8:Af Tryz.prog [] 107 AE2:=Cq AIr (fun⟨b,n,es⟩ κ ⟨hn,hv⟩ h=>by
 replace hn:n≤10000:=hn;replace hv:∀k,k<n→cN (es k):=hv;refine⟨rfl,?_⟩;refine vj Vm ?_;conv=>whnf
 refine A4 (ι:=Nat) (fun i=>[(3, .sl 0 [] 133 0 i i),(6,Kn b n es),(7, .int .i64 (n:Nat)),(8, .int .i64 (i:Nat))]) (fun i=>[some (.row 133 i fun k=>Ak (es k))]) (fun i=>i≤n) (fun i=>n - i) 0 [none] ?_ (fun i hi=>vj Vm ?_)
 ·conv=>whnf
  repeat' ((first|apply Ap<;>intro _|apply An)<;>conv=>whnf)
  all_goals try exact⟨Ah⟩
 ·conv=>whnf
  apply Ap<;>intro h3<;>conv=>whnf
  ·have hin:i<n:=by simpa using h3
   conv=>whnf
   repeat' ((first|apply Ap<;>intro _|apply An)<;>conv=>whnf)
   all_goals(try simp only[decide_eq_true_eq,decide_eq_false_iff_not,Int.toNat_natCast,Bool.not_eq_true,Bool.not_eq_false]at*)
   all_goals try exact⟨Ah⟩
   refine⟨es i,⟨AE.refl _,trivial⟩,⟨hv i hin⟩,?_⟩;intro r hr;replace hr:r=es i:=hr;subst hr;conv=>whnf
   refine And.intro (show Ob (_≤_)from⟨by omega⟩) ?_;conv=>whnf
   refine Or.inl ?_;conv=>whnf
   repeat' (apply An<;>conv=>whnf)
   all_goals try first|exact⟨Ah⟩|exact⟨⟨by simp only[];omega,by omega⟩⟩
   refine⟨i+1,[some 3],?_⟩;conv=>whnf
   repeat' (apply An<;>conv=>whnf)
   all_goals try exact⟨Ah⟩
   ·exact⟨by rw[A3 (by omega) (by omega)];rfl⟩
   ·refine⟨?_⟩;refine Db ?_ ?_ fun k _=>G8 _
    ·exact fun k hk=>if_pos hk
    ·exact(if_neg (Nat.lt_irrefl i)).trans (by rw[Nat.sub_self];rfl)
  ·have hin:i=n:=by
    have:¬((i:Nat):Int)<(n:Nat):=by simpa using h3
    omega
   subst hin;refine vj Vm ?_;conv=>whnf
   refine⟨[some 0], .sl 0 [] 133 0 i i,[some (.row 133 i fun k=>Ak (es k))],?_⟩;conv=>whnf
   repeat' (apply An<;>conv=>whnf)
   all_goals try first|exact⟨Bc⟩|exact⟨fun k _=>Aa _ (G8 _)⟩
   exact h) (fun _=>by simp) (fun _=>by simp[Hf]) (fun x u hu=>by
  simp at hu
  subst hu;simp only[Hf];intro k _;exact Mk _)
def APx:A7:=Bf (fun(a:xO)=>[Kn a.b a.n a.es]) (fun a=>a.n≤10000∧∀k,k<a.n→cN (a.es k)) (fun a=>a) (fun a=>Kn false a.n a.es)
theorem AB4:FOk Tryz.prog [] 107 APx:=A8 fun⟨b,n,es⟩ ⟨hn,hv⟩=>by
 replace hn:n≤10000:=hn;replace hv:∀k,k<n→cN (es k):=hv;have hΓ:=Ad Tryz.f107.ntmps _ _ (FL.all (.cons Rr .nil)) (HL.all .nil);refine Aw hΓ Tryz.func107 ?_;conv=>whnf
 refine A4 (ι:=Nat) (fun i=>[(3, .sl 0 [] 133 0 i i),(6,Kn b n es),(7, .int .i64 (n:Nat)),(8, .int .i64 (i:Nat))]) (fun i=>[some (.row 133 i fun k=>Ak (es k))]) (fun i=>i≤n) (fun i=>n - i) 0 [none] ?_ (fun i hi=>vo hΓ ?_)
 ·conv=>whnf
  repeat' ((first|apply Ap<;>intro _|apply An)<;>conv=>whnf)
  all_goals try exact⟨Ah⟩
 ·conv=>whnf
  apply Ap<;>intro h3<;>conv=>whnf
  ·have hin:i<n:=by simpa using h3
   conv=>whnf
   repeat' ((first|apply Ap<;>intro _|apply An)<;>conv=>whnf)
   all_goals(try simp only[decide_eq_true_eq,decide_eq_false_iff_not,Int.toNat_natCast,Bool.not_eq_true,Bool.not_eq_false]at*)
   all_goals try exact⟨Ah⟩
   refine⟨es i,⟨AE.refl _,trivial⟩,⟨hv i hin⟩,?_⟩;intro r hr;replace hr:r=es i:=hr;subst hr;conv=>whnf
   refine And.intro (show Ob (_≤_)from⟨by omega⟩) ?_;conv=>whnf
   refine Or.inl ?_;conv=>whnf
   repeat' (apply An<;>conv=>whnf)
   all_goals try first|exact⟨Ah⟩|exact⟨⟨by simp only[];omega,by omega⟩⟩
   refine⟨i+1,[some 3],?_⟩;conv=>whnf
   repeat' (apply An<;>conv=>whnf)
   all_goals try exact⟨Ah⟩
   ·exact⟨by rw[A3 (by omega) (by omega)];rfl⟩
   ·refine⟨?_⟩;refine Db ?_ ?_ fun k _=>G8 _
    ·exact fun k hk=>if_pos hk
    ·exact(if_neg (Nat.lt_irrefl i)).trans (by rw[Nat.sub_self];rfl)
  ·have hin:i=n:=by
    have:¬((i:Nat):Int)<(n:Nat):=by simpa using h3
    omega
   subst hin;refine vo hΓ ?_;conv=>whnf
   repeat' (apply An<;>conv=>whnf)
   ·exact⟨by omega⟩
   ·exact⟨fun k _=>Ee _⟩
   ·refine Ld.imm fun k hk=>?_;rw[Nat.zero_add]
def ADu:A7:=Bf (fun(f:Fd)=>[Fl f]) U0 (fun f=>f) Fl
theorem AGw:FOk Tryz.prog [] 67 ADu:=A8 fun f ⟨hn,hv,hp⟩=>by
 have hΓ:=Ad Tryz.f67.ntmps _ _ (FL.all (.cons sR (.cons AB4 .nil))) (HL.all .nil);refine Aw hΓ Tryz.func67 ?_;conv=>whnf
 repeat' ((first|apply Ap<;>intro _|apply An)<;>conv=>whnf)
 all_goals try exact⟨Ah⟩
 refine⟨⟨false,f.n,f.es⟩,⟨AE.refl _,trivial⟩,⟨hn,hv⟩,?_⟩;intro r hr;replace hr:r=⟨false,f.n,f.es⟩:=hr;subst hr;conv=>whnf
 repeat' ((first|apply Ap<;>intro _|apply An)<;>conv=>whnf)
 all_goals try exact⟨Ah⟩
 refine⟨f.pf,⟨AE.refl _,trivial⟩,⟨hp⟩,?_⟩;intro r hr;replace hr:r=f.pf:=hr;subst hr;conv=>whnf
 repeat' ((first|apply Ap<;>intro _|apply An)<;>conv=>whnf)
 all_goals try first|exact⟨Ah⟩|exact⟨fun k _=>Ee _⟩
 exact Ld.refl _
def APy:Ai:=L8 (fun(f:Fd)=>[Fl f]) (fun _=>[]) U0 (fun f=> .st (.cons (arrV 32 f.author) (.cons (.sl 0 [] 133 0 f.n f.n) (.cons (.bool f.shut) (.cons (aC f.pf) .nil))))) (fun f=>[some (.row 133 f.n fun k=>Ak (f.es k))])
theorem yW:Aj Tryz.prog (L5 Tryz.f67.ntmps [(108,ADv)] [(107,AE2)] [(1, .one 0 (.one 1 (.one 3 (.many (.cons 2 (.one 4 (.one 5 (.one 6 (.one 7 (.one 8 (.one 9 (.done))))))) (.cons 4 (.one 2 (.one 5 (.one 6 (.one 7 (.one 8 (.one 9 (.done))))))) (.nil)))))))]):=Ab Tryz.f67.ntmps [(108,ADv)] [(107,AE2)] [(1, .one 0 (.one 1 (.one 3 (.many (.cons 2 (.one 4 (.one 5 (.one 6 (.one 7 (.one 8 (.one 9 (.done))))))) (.cons 4 (.one 2 (.one 5 (.one 6 (.one 7 (.one 8 (.one 9 (.done))))))) (.nil)))))))] (.cons (sR.g) .nil) (.cons (hg AH8) .nil)
def S67:Ai:=fun xs h κ=>xs.length=1∧B4 Tryz.prog (L5 Tryz.f67.ntmps [(108,ADv)] [(107,AE2)] [(1, .one 0 (.one 1 (.one 3 (.many (.cons 2 (.one 4 (.one 5 (.one 6 (.one 7 (.one 8 (.one 9 (.done))))))) (.cons 4 (.one 2 (.one 5 (.one 6 (.one 7 (.one 8 (.one 9 (.done))))))) (.nil)))))))]) (Bd Tryz.f67) Tryz.f67.results.toList xs h κ
theorem AOc:Af Tryz.prog G 67 S67:=Q6 1 yW Tryz.func67
theorem AH9:Af Tryz.prog G 67 APy:=Cq AOc (fun f κ ⟨hn,hv,hp⟩ h=>by
 refine⟨rfl,?_⟩;refine vj yW ?_;conv=>whnf
 refine And.intro ?_ (And.intro ?_ trivial)
 all_goals
  conv=>whnf
  refine⟨⟨false,f.n,f.es⟩,[],?_⟩;conv=>whnf
  repeat' (apply An<;>conv=>whnf)
  all_goals try first|exact⟨Ah⟩|exact⟨⟨hn,hv⟩⟩
  refine⟨f.pf,⟨AE.refl _,trivial⟩,⟨hp⟩,?_⟩;intro r hr;replace hr:r=f.pf:=hr;subst hr;conv=>whnf
  repeat' (apply An<;>conv=>whnf)
  all_goals try exact⟨Ah⟩
  refine⟨[some 2], .st (.cons (arrV 32 f.author) (.cons (.sl 0 [] 133 0 f.n f.n) (.cons (.bool f.shut) (.cons (aC f.pf) .nil)))),[some (.row 133 f.n fun k=>Ak (f.es k))],?_⟩;conv=>whnf
  repeat' (apply An<;>conv=>whnf)
  all_goals try first|exact⟨Bc⟩|exact⟨fun _ _=>Aa _ (G8 _)⟩|exact⟨fun _ _=>rfl⟩
  all_goals exact h) (fun _=>by simp) (fun _=>by simp[Hf,Ie,arrV,aC,Ak,aB,Bl,bf,Br,Is]) (fun x u hu=>by
  simp at hu
  subst hu;simp only[Hf];intro k _;exact Mk _)
def AK1:A7:=Bf (fun(a:Bys)=>[.imm a.b 1 a.n a.f]) (fun a=>a.n≤1000∧(∀k,k<a.n→(a.ls k).length≤1000000)∧∀k,k<a.n→a.f k=Bl (a.bs k) (a.ls k)∨(a.f k= .emp∧a.ls k=[])) (fun a=>M5 a.ls a.n) (Bl false)
theorem O0:FOk Tryz.prog [] 35 AK1:=A8 fun a ⟨hn,hl,hf⟩=>by
 refine CP.le (ys:=[.imm a.b 1 a.n fun k=>Bl (a.bs k) (a.ls k)]) (fun E l hT=>?_) ?_
 ·cases l with
  |nil=>exact hT
  |cons x l=>exact⟨jB hf hT.1,hT.2⟩
 have hb:=R7 hl;have hΓ:=Ad Tryz.f35.ntmps _ _ (FL.all .nil) (HL.all .nil);refine Aw hΓ Tryz.func35 ?_;conv=>whnf
 refine A4 (ι:=Nat) (fun i=>[(0, .imm a.b 1 a.n fun k=>Bl (a.bs k) (a.ls k)),(3,U5 0 (M5 a.ls i)),(4, .int .i64 (i:Nat))]) (fun i=>[some (G1 (M5 a.ls i))]) (fun i=>i≤a.n) (fun i=>a.n - i) 0 [none] ?_ (fun i hi=>vo hΓ ?_)
 ·conv=>whnf
  repeat' ((first|apply Ap<;>intro _|apply An)<;>conv=>whnf)
  all_goals try exact⟨Ah⟩
 ·have hbi:=hb i hi;have Ar:=Fa (ls:=a.ls) i;conv=>whnf
  apply Ap<;>intro h3<;>conv=>whnf
  ·have hin:i<a.n:=by
    have:((i:Nat):Int)<(a.n:Nat):=by simpa using h3
    omega
   have hli:=hl i hin;conv=>whnf
   repeat' ((first|apply Ap<;>intro _|apply An)<;>conv=>whnf)
   all_goals(try simp only[decide_eq_true_eq,decide_eq_false_iff_not,Int.toNat_natCast,Bool.not_eq_true,Bool.not_eq_false]at*)
   all_goals try exact⟨Ah⟩
   refine Or.inl ?_;conv=>whnf
   repeat' ((first|apply Ap<;>intro _|apply An)<;>conv=>whnf)
   all_goals try first|exact⟨Ah⟩|exact⟨⟨by show(_+_)*1≤_;omega,by omega⟩⟩
   have hcs:(M5 a.ls (i+1)).length=(M5 a.ls i).length+(a.ls i).length:=by rw[M5,List.length_append]
   refine⟨i+1,[some 1],?_⟩;conv=>whnf
   repeat' (apply An<;>conv=>whnf)
   all_goals try first|exact⟨Ah⟩|exact⟨⟨rfl,hcs.symm,hcs.symm⟩⟩|exact⟨hcs.symm⟩
   ·exact⟨by rw[A3 (by omega) (by omega)];rfl⟩
   exact⟨fun k _=>A5 (bsn _ _ k) (by rw[show M5 a.ls (i+1)=M5 a.ls i++a.ls i from rfl];trivial)⟩
  ·have hin:i=a.n:=by
    have:¬((i:Nat):Int)<(a.n:Nat):=by simpa using h3
    omega
   subst hin;refine vo hΓ ?_;conv=>whnf
   repeat' (apply An<;>conv=>whnf)
   ·exact⟨by omega⟩
   ·exact⟨fun _ _=>Bg _ _⟩
   ·refine Ld.imm fun k hk=>?_;rw[Nat.zero_add]
def ALa:A7:=Bf (fun(x:UInt8×Bys)=>[.int .u8 (x.1.toNat:Nat), .imm x.2.b 1 x.2.n x.2.f]) (fun x=>x.2.n≤3∧(∀k,k<x.2.n→(x.2.ls k).length≤200000)∧∀k,k<x.2.n→x.2.f k=Bl (x.2.bs k) (x.2.ls k)∨(x.2.f k= .emp∧x.2.ls k=[])) (fun x=>sha (x.1::M5 x.2.ls x.2.n)) (arrV 32)
theorem Rq:FOk Tryz.prog [] 59 ALa:=A8 fun⟨c,a⟩ ⟨hn,hl,hf⟩=>by
 replace hn:a.n≤3:=hn;replace hl:∀k,k<a.n→(a.ls k).length≤200000:=hl;have hb:=R7 (ls:=a.ls) (n:=a.n) (fun k hk=>by have:=hl k hk;omega) a.n (Nat.le_refl _);have hcl:=Fa (ls:=a.ls) a.n
 have hb2:Ey a.ls a.n≤600000:=by
  have:∀i,i≤a.n→Ey a.ls i≤200000*i:=fun i=>by
   induction i with
   |zero=>intro _;simp[Ey]
   |succ i ih=>intro hi;have:=ih (by omega);have:=hl i (by omega);simp only[Ey];omega
  have:=this a.n (Nat.le_refl _)
  omega
 have hΓ:=Ad Tryz.f59.ntmps _ _ (FL.all (.cons AFn (.cons oT .nil))) (HL.all .nil);refine Aw hΓ Tryz.func59 ?_;conv=>whnf
 repeat' ((first|apply Ap<;>intro _|apply An)<;>conv=>whnf)
 refine⟨a,rfl,⟨by omega,fun k hk=>by have:=hl k hk;omega,hf⟩,?_⟩;conv=>whnf
 repeat' ((first|apply Ap<;>intro _|apply An)<;>conv=>whnf)
 refine Or.inl ?_;conv=>whnf
 repeat' ((first|apply Ap<;>intro _|apply An)<;>conv=>whnf)
 all_goals try first|exact⟨Ah⟩|exact⟨⟨by show(_+_)*1≤_;omega,by omega⟩⟩
 ·refine⟨fun k hk=>?_⟩
  rcases k with _|k
  ·exact trivial
  ·exact cast (congrArg Br (if_neg (by omega)).symm) trivial
 refine⟨.of true (c::M5 a.ls a.n),⟨AE.imm' (by rw[List.length_cons];exact Nat.add_comm _ _) (fun k hk=>?_),trivial⟩,⟨trivial,by show(c::M5 a.ls a.n).length≤1000000;rw[List.length_cons];omega⟩,?_⟩
 ·rcases k with _|k
  ·rfl
  ·refine(if_neg (by omega)).trans ?_
   show bf (M5 a.ls a.n) (0+(k+1) - 1)=bf (c::M5 a.ls a.n) (k+1)
   rw[Nat.zero_add,Nat.add_sub_cancel];simp[bf]
 intro r hr;replace hr:r=sha (c::M5 a.ls a.n):=hr;conv=>whnf
 repeat' ((first|apply Ap<;>intro _|apply An)<;>conv=>whnf)
 all_goals try exact⟨Ah⟩
 rw[hr];exact Ld.refl _
def dU:A7:=Bf (fun(k:Int)=>[.int .i64 k]) (fun _=>True) (fun k=>decide (k=1)||decide (k=2)) .bool
theorem Pi:FOk Tryz.prog [] 57 dU:=A8 fun k _=>by
 have hΓ:=Ad Tryz.f57.ntmps _ _ (FL.all .nil) (HL.all .nil);refine Aw hΓ Tryz.func57 ?_;conv=>whnf
 repeat' ((first|apply Ap<;>intro _|apply An)<;>conv=>whnf)
 all_goals
  rename_i h;refine Ld.of (congrArg V.bool ?_);simp only[beq_iff_eq,beq_eq_false_iff_ne,ne_eq]at h
  first
   |(simp[h];done)
   |(rw[decide_eq_false h,Bool.eq_iff_iff];simp)
def Ol(s:List UInt8):List UInt8:=sha (1::s)
theorem Yu(s:List UInt8):(Ol s).length=32:=sha_length _
def AUs:A7:=Bf (fun(s:List UInt8)=>[.int .i64 2,arrV 32 s]) (fun s=>s.length=32) Ol (fun r=> .tup (.cons (arrV 32 r) (.cons (.int .i64 0) .nil)))
def V2(s:List UInt8)(f:Nat→V):Bys:=⟨true,1,f,fun _=>true,fun _=>s⟩
theorem AGv:FOk Tryz.prog [] 24 AUs:=A8 fun s hs=>by
 replace hs:s.length=32:=hs;have hΓ:=Ad Tryz.f24.ntmps [(57,dU),(58,FNo),(59,ALa)] [] (FL.all (.cons Pi (.cons Xx (.cons Rq .nil)))) (HL.all .nil);refine Aw hΓ Tryz.func24 ?_;conv=>whnf
 refine⟨2,⟨AE.refl _,trivial⟩,⟨trivial⟩,?_⟩;intro r hr;replace hr:r=true:=hr;subst hr;conv=>whnf
 repeat' (first|(apply Ap<;>intro hp<;>first|(exfalso;revert hp;simp;done)|conv=>whnf)|(apply An<;>conv=>whnf))
 all_goals try exact⟨Ah⟩
 ·refine⟨A0 ?_ A9⟩;conv=>whnf
  exact And.intro ⟨⟨rfl,by omega⟩⟩ ⟨fun _ _=>trivial⟩
 refine⟨(1,V2 s _),⟨AE.refl _,AE.refl _,trivial⟩,⟨by show 1≤3;omega,fun k hk=>by show s.length≤200000;omega,fun k hk=>?_⟩,?_⟩
 ·obtain rfl:k=0:=by have:k<1:=hk;omega
  refine .inl (Eq.trans rfl ?_)
  show V.imm true 1 32 (fun k=>bf s (0+k))=V.imm true 1 s.length (bf s)
  simp only[Nat.zero_add,hs]
 intro r hr;replace hr:r=Ol s:=hr.trans (by simp[Ol,V2,M5]);subst hr;conv=>whnf
 repeat' ((first|apply Ap<;>intro _|apply An)<;>conv=>whnf)
 all_goals try exact⟨Ah⟩
 exact Ld.refl _
def Ox(p t:List UInt8):List UInt8:=sha (2::(p++t))++sha (3::(p++t))
def two(p:List UInt8)(b:Bool)(l:List UInt8)(f:Nat→V):Bys:=⟨true,2,f,fun k=>if k=0 then true else b,fun k=>if k=0 then p else l⟩
theorem uJ{p:List UInt8}{b:Bool}{l:List UInt8}{f:Nat→V}(hp:p.length=32)(hl:l.length≤100000)(h0:f 0=Bl true p)(h1:f 1=Bl b l):(two p b l f).n≤3∧(∀k,k<(two p b l f).n→((two p b l f).ls k).length≤200000)∧∀k,k<(two p b l f).n→(two p b l f).f k=Bl ((two p b l f).bs k) ((two p b l f).ls k)∨((two p b l f).f k= .emp∧(two p b l f).ls k=[]):=by
 refine⟨by show 2≤3;omega,fun k hk=>?_,fun k hk=> .inl ?_⟩
 ·show(if k=0 then p else l).length≤200000
  split<;>omega
 ·replace hk:k<2:=hk
  match k,hk with
  |0,_=>exact h0
  |1,_=>exact h1
theorem lE{p:List UInt8}(hp:p.length=32):V.imm true 1 32 (fun k=>bf p (0+k))=Bl true p:=by
 simp only[Nat.zero_add,Bl,hp]
theorem uI(p:List UInt8)(b:Bool)(l:List UInt8)(f:Nat→V):M5 (two p b l f).ls (two p b l f).n=p++l:=by
 simp[two,M5]
theorem lW{r1 r2:List UInt8}(h:r1.length=32)(k:Nat):(fun k=>if k<32 then bf r1 k else(fun k=>bf r2 (Int.toNat 0+k)) (k - 32)) (0+k)=bf (r1++r2) k:=by
 have:=bsn r1 r2 k
 rw[h]at this;simp only[Nat.zero_add,show Int.toNat 0=0 from rfl];exact this
def xQ:A7:=Bf (fun(x:List UInt8×By)=>[arrV 32 x.1,x.2.v]) (fun x=>x.1.length=32∧x.2.ok∧x.2.l.length≤100000) (fun x=>Ox x.1 x.2.l) (arrV 64)
theorem Rn:FOk Tryz.prog G 131 xQ:=A8 fun⟨p,a⟩ ⟨hp,ha,hn⟩=>by
 replace hp:p.length=32:=hp;replace ha:a.ok:=ha;replace hn:a.l.length≤100000:=hn;refine CP.by2 ha ?_
 show CP _ _ _ [arrV 32 p,Bl a.b a.l] fun v=>Ld v (arrV 64 (Ox p a.l))
 generalize a.l=l at hn;generalize a.b=b;have hΓ:=Ab Tryz.f131.ntmps _ _ [(1, .one 0 (.one 1 (.one 4 (.one 5 (.many (.cons 2 (.one 3 (.many (.cons 6 (.one 7 (.many (.cons 8 (.one 9 (.one 10 (.one 11 (.done)))) (.cons 9 (.one 8 (.one 10 (.one 11 (.done)))) (.nil))))) (.cons 8 (.many (.cons 6 (.one 7 (.one 9 (.one 10 (.one 11 (.done))))) (.cons 9 (.one 6 (.one 7 (.one 10 (.one 11 (.done))))) (.nil)))) (.cons 9 (.many (.cons 6 (.one 7 (.one 8 (.one 10 (.one 11 (.done))))) (.cons 8 (.one 6 (.one 7 (.one 10 (.one 11 (.done))))) (.nil)))) (.nil)))))) (.cons 6 (.many (.cons 2 (.one 3 (.one 7 (.many (.cons 8 (.one 9 (.one 10 (.one 11 (.done)))) (.cons 9 (.one 8 (.one 10 (.one 11 (.done)))) (.nil)))))) (.cons 8 (.many (.cons 2 (.one 3 (.one 7 (.one 9 (.one 10 (.one 11 (.done)))))) (.cons 9 (.one 2 (.one 3 (.one 7 (.one 10 (.one 11 (.done)))))) (.nil)))) (.cons 9 (.many (.cons 2 (.one 3 (.one 7 (.one 8 (.one 10 (.one 11 (.done)))))) (.cons 8 (.one 2 (.one 3 (.one 7 (.one 10 (.one 11 (.done)))))) (.nil)))) (.nil))))) (.cons 8 (.many (.cons 2 (.one 3 (.many (.cons 6 (.one 7 (.one 9 (.one 10 (.one 11 (.done))))) (.cons 9 (.one 6 (.one 7 (.one 10 (.one 11 (.done))))) (.nil))))) (.cons 6 (.many (.cons 2 (.one 3 (.one 7 (.one 9 (.one 10 (.one 11 (.done)))))) (.cons 9 (.one 2 (.one 3 (.one 7 (.one 10 (.one 11 (.done)))))) (.nil)))) (.cons 9 (.many (.cons 2 (.one 3 (.one 6 (.one 7 (.one 10 (.one 11 (.done)))))) (.cons 6 (.one 2 (.one 3 (.one 7 (.one 10 (.one 11 (.done)))))) (.nil)))) (.nil))))) (.cons 9 (.many (.cons 2 (.one 3 (.many (.cons 6 (.one 7 (.one 8 (.one 10 (.one 11 (.done))))) (.cons 8 (.one 6 (.one 7 (.one 10 (.one 11 (.done))))) (.nil))))) (.cons 6 (.many (.cons 2 (.one 3 (.one 7 (.one 8 (.one 10 (.one 11 (.done)))))) (.cons 8 (.one 2 (.one 3 (.one 7 (.one 10 (.one 11 (.done)))))) (.nil)))) (.cons 8 (.many (.cons 2 (.one 3 (.one 6 (.one 7 (.one 10 (.one 11 (.done)))))) (.cons 6 (.one 2 (.one 3 (.one 7 (.one 10 (.one 11 (.done)))))) (.nil)))) (.nil))))) (.nil))))))))))] (.cons (Rq.g) .nil) .nil;refine Aw hΓ Tryz.func131 ?_;conv=>whnf
 repeat' (apply An<;>conv=>whnf)
 all_goals try exact⟨Ah⟩
 all_goals try exact trivial
 all_goals try exact⟨A0 trivial (A0 (And.intro ⟨⟨rfl,by omega⟩⟩ ⟨fun _ _=>trivial⟩) A9)⟩
 all_goals
  refine⟨(2,two p b l _),⟨AE.refl _,AE.refl _,trivial⟩,⟨uJ hp hn (Eq.trans rfl (lE hp)) rfl⟩,?_⟩;intro r1 h1;replace h1:r1=sha (2::(p++l)):=h1.trans (congrArg (fun x=>sha (2::x)) (uI p b l _));conv=>whnf
  repeat' (apply An<;>conv=>whnf)
 all_goals try exact⟨Ah⟩
 all_goals try exact trivial
 all_goals try exact⟨A0 trivial (A0 (And.intro ⟨⟨rfl,by omega⟩⟩ ⟨fun _ _=>trivial⟩) A9)⟩
 all_goals
  refine⟨(3,two p b l _),⟨AE.refl _,AE.refl _,trivial⟩,⟨uJ hp hn (Eq.trans rfl (lE hp)) rfl⟩,?_⟩;intro r2 h2;replace h2:r2=sha (3::(p++l)):=h2.trans (congrArg (fun x=>sha (3::x)) (uI p b l _));conv=>whnf
  repeat' (apply An<;>conv=>whnf)
 all_goals try exact⟨Ah⟩
 all_goals try exact trivial
 all_goals
  refine Or.inl ?_;conv=>whnf
  repeat' (apply An<;>conv=>whnf)
 all_goals try exact⟨Ah⟩
 all_goals
  have hr1:r1.length=32:=by rw[h1];exact sha_length _
  first
   |exact⟨⟨by decide,by decide⟩⟩
   |exact⟨fun k _=>cast (congrArg own (lW hr1 k).symm) (Bg _ k)⟩
   |(rw[Ox,←h1,←h2]
     exact Ld.row fun k _=>lW hr1 k)
theorem by3{P:Program}{gl:List (Nat×V)}{f:Nat}{a:By}{Φ:V→Prop}{v w:V}{l:List V}(h:a.ok)(hc:CP P gl f (v::w::Bl a.b a.l::l) Φ):CP P gl f (v::w::a.v::l) Φ:=
 CP.le (fun E xs hT=>by
  match xs,hT with
  |_::_::x::xs,⟨h1,h2,h3,h4⟩=>exact⟨h1,h2,By.T h h3,h4⟩) hc
def APv:A7:=Bf (fun(x:List UInt8×By)=>[.int .i64 2,arrV 32 x.1,x.2.v]) (fun x=>x.1.length=32∧x.2.ok∧x.2.l.length≤100000) (fun x=>Ox (Ol x.1) x.2.l) (fun r=> .tup (.cons (arrV 64 r) (.cons (.int .i64 0) .nil)))
theorem AB3:FOk Tryz.prog G 104 APv:=A8 fun⟨s,a⟩ ⟨hs,ha,hn⟩=>by
 replace hs:s.length=32:=hs;replace ha:a.ok:=ha;replace hn:a.l.length≤100000:=hn;refine by3 ha ?_
 show CP _ _ _ [.int .i64 2,arrV 32 s,Bl a.b a.l] fun v=>Ld v (.tup (.cons (arrV 64 (Ox (Ol s) a.l)) (.cons (.int .i64 0) .nil)))
 generalize a.l=l at hn;generalize a.b=b;have hΓ:=Ab Tryz.f104.ntmps [(57,dU),(151,FNo),(59,ALa),(131,xQ)] [] [] (.cons (Pi.g) (.cons (Xx) (.cons (Rq.g) (.cons (Rn) .nil)))) .nil;refine Aw hΓ Tryz.func104 ?_;conv=>whnf
 refine⟨2,⟨AE.refl _,trivial⟩,⟨trivial⟩,?_⟩;intro r hr;replace hr:r=true:=hr;subst hr;conv=>whnf
 repeat' (first|(apply Ap<;>intro hp<;>first|(exfalso;revert hp;simp;done)|conv=>whnf)|(apply An<;>conv=>whnf))
 all_goals try exact⟨Ah⟩
 ·refine⟨A0 ?_ A9⟩;conv=>whnf
  exact And.intro ⟨⟨rfl,by omega⟩⟩ ⟨fun _ _=>trivial⟩
 refine⟨(1,V2 s _),⟨AE.refl _,AE.refl _,trivial⟩,⟨by show 1≤3;omega,fun k hk=>by show s.length≤200000;omega,fun k hk=>?_⟩,?_⟩
 ·obtain rfl:k=0:=by have:k<1:=hk;omega
  refine .inl (Eq.trans rfl ?_)
  show V.imm true 1 32 (fun k=>bf s (0+k))=V.imm true 1 s.length (bf s)
  simp only[Nat.zero_add,hs]
 intro r hr;replace hr:r=Ol s:=hr.trans (by simp[Ol,V2,M5]);subst hr;conv=>whnf
 repeat' ((first|apply Ap<;>intro _|apply An)<;>conv=>whnf)
 all_goals try exact⟨Ah⟩
 refine⟨(Ol s, .of b l),⟨AE.refl _,AE.refl _,trivial⟩,⟨Yu s,trivial,hn⟩,?_⟩;intro q hq;replace hq:q=Ox (Ol s) l:=hq;conv=>whnf
 repeat' ((first|apply Ap<;>intro _|apply An)<;>conv=>whnf)
 all_goals try exact⟨Ah⟩
 rw[hq];exact Ld.refl _
def APs:A7:=Bf (fun(s:List UInt8)=>[.int .i64 2,arrV 32 s]) (fun s=>s.length=32) Ol (arrV 32)
theorem kZ:FOk Tryz.prog [] 11 APs:=A8 fun s hs=>by
 replace hs:s.length=32:=hs;have hΓ:=Ad Tryz.f11.ntmps [(33,FNo),(34,F50),(35,AK1)] [] (FL.all (.cons Xx (.cons f50_ok (.cons O0 .nil)))) (HL.all .nil);refine Aw hΓ Tryz.func11 ?_;conv=>whnf
 repeat' (first|(apply Ap<;>intro hp<;>first|(exfalso;revert hp;simp;done)|conv=>whnf)|(apply An<;>conv=>whnf))
 all_goals try exact⟨Ah⟩
 ·refine⟨A0 ?_ (A0 ?_ A9)⟩
  ·conv=>whnf
   exact And.intro ⟨⟨rfl,by omega⟩⟩ ⟨fun _ _=>trivial⟩
  ·conv=>whnf
   refine And.intro ⟨⟨rfl,by omega⟩⟩ ⟨fun k hk=>?_⟩;obtain rfl:k=0:=by omega
   exact trivial
 refine⟨⟨true,2,_,fun _=>true,fun k=>if k=0 then[1]else s⟩,⟨AE.refl _,trivial⟩,⟨by show 2≤1000;omega,fun k hk=>?_,fun k hk=> .inl ?_⟩,?_⟩
 ·show(if k=0 then[1]else s).length≤1000000
  split
  ·decide
  ·omega
 ·replace hk:k<2:=hk
  match k,hk with
  |0,_=>
   refine Eq.trans rfl ?_;refine congrArg (V.imm true 1 1) (funext fun q=>?_)
   cases q with
   |zero=>rfl
   |succ q=>exact(show _=V.int .u8 0 from rfl).trans (by simp[bf])
  |1,_=>exact Eq.trans rfl (lE hs)
 intro r hr;replace hr:r=1::s:=hr.trans (by simp[M5]);subst hr;conv=>whnf
 repeat' ((first|apply Ap<;>intro _|apply An)<;>conv=>whnf)
 all_goals try exact⟨Ah⟩
 refine⟨.of false (1::s),⟨AE.refl _,trivial⟩,⟨trivial,by show(1::s).length≤1000000;rw[List.length_cons];omega⟩,?_⟩;intro q hq;replace hq:q=Ol s:=hq;conv=>whnf
 repeat' ((first|apply Ap<;>intro _|apply An)<;>conv=>whnf)
 all_goals try exact⟨Ah⟩
 rw[hq];exact Ld.refl _
end Go.Proofs.YtaihjcpfjgpmoaaGreatDoor
