/- Part of the claim ModelPuts: Z37, Z38, Z39, Z40, Z41, Z42, Z43, Z44. -/
import Derived.Lib.Bytealg
import Derived.Test.YtaihjcpfjgpmoaaGreatDoorDC
import Derived.Test.YtaihjcpfjgpmoaaGreatDoorZC
set_option linter.unusedVariables false
set_option linter.unusedSimpArgs false
set_option maxRecDepth 100000
namespace Go.Proofs.YtaihjcpfjgpmoaaGreatDoor
open Go Go.DD
mutual
inductive Tr where
 |leaf (t:Tk)
 |arr (l:L4)
inductive L4 where
 |nil
 |cons (t:Tr) (l:L4)
end
def L4.len:L4→Nat| .nil=>0| .cons _ l=>l.len+1
mutual
def Tr.tk:Tr→List Tk| .leaf t=>[t]| .arr l=>⟨5,(l.len:Nat),false,[]⟩::l.tk
def L4.tk:L4→List Tk| .nil=>[]| .cons t l=>t.tk++l.tk
end
mutual
def Tr.by:Tr→List UInt8| .leaf t=>Hk t| .arr l=>Aq 4 l.len++l.by
def L4.by:L4→List UInt8| .nil=>[]| .cons t l=>t.by++l.by
end
mutual
def Tr.ok(k:Nat):Tr→Prop| .leaf t=>Wx t| .arr l=>∃j,k=j+1∧l.len≤64∧l.ok j
def L4.ok(k:Nat):L4→Prop| .nil=>True| .cons t l=>t.ok k∧l.ok k
end
def At(a:Gt)(p:Nat)(l:List Tk):Prop:=p+l.length≤a.n∧∀j,j<l.length→a.ts (p+j)=lTk l j
theorem At.head{a:Gt}{p:Nat}{t:Tk}{l:List Tk}(h:At a p (t::l)):a.ts p=t∧p<a.n∧At a (p+1) l:=by
 obtain⟨h1,h2⟩:=h;simp only[List.length_cons]at h1;refine⟨by simpa[lTk]using h2 0 (by simp),by omega,by omega,fun j hj=>?_⟩
 have:=h2 (j+1) (by simp;omega)
 simp only[lTk,List.getD_cons_succ]at this⊢;rw[←this]
 congr 1;omega
theorem At.app{a:Gt}:∀{l m:List Tk} {p:Nat},At a p (l++m)→At a p l∧At a (p+l.length) m
 |[],m,p,h=>⟨⟨by have:=h.1;simp at this⊢;omega,fun j hj=>by simp at hj⟩,by simpa using h⟩
 |t::l,m,p,h=>by
  obtain⟨h1,h2,h3⟩:=At.head (l:=l++m) h;obtain⟨h4,h5⟩:=At.app h3;refine⟨⟨by have:=h4.1;simp;omega,fun j hj=>?_⟩,by rw[List.length_cons,show p+(l.length+1)=p+1+l.length by omega];exact h5⟩
  rcases j with _|j
  ·simpa[lTk]using h1
  ·have:=h4.2 j (by simpa using hj)
   simp only[lTk,List.getD_cons_succ]at this⊢;rw[←this]
   congr 1;omega
mutual
theorem Zu{a:Gt}:∀(t:Tr) (k:Nat) (s:WS),t.ok k→At a s.at' t.tk→s.out.length+t.by.length≤32768→s.bad=false→Cr a k s=⟨s.at'+t.tk.length,s.out++t.by,false⟩
 | .leaf t,k,s,hk,ha,hl,hb=>by
  simp only[Tr.ok]at hk;simp only[Tr.tk]at ha⊢;simp only[Tr.by]at hl⊢;obtain⟨h1,h2,_⟩:=ha.head;rw[qL h2 (by omega) hb (by rw[h1];exact hk),h1];rfl
 | .arr l,k,s,hk,ha,hl,hb=>by
  simp only[Tr.ok]at hk;obtain⟨j,rfl,h64,hj⟩:=hk;simp only[Tr.tk]at ha⊢;simp only[Tr.by]at hl⊢;obtain⟨h1,h2,h3⟩:=ha.head;rw[xF (n:=l.len) h2 (by omega) hb (by rw[h1]) (by rw[h1]) (by rw[h1]) h64,dT l j _ hj h3 (by simp only[List.length_append]at hl⊢;omega) rfl];simp only[List.length_cons,List.append_assoc]
  congr 1
  omega
theorem dT{a:Gt}:∀(l:L4) (k:Nat) (s:WS),l.ok k→At a s.at' l.tk→s.out.length+l.by.length≤32768→s.bad=false→Lx (Cr a k) l.len s=⟨s.at'+l.tk.length,s.out++l.by,false⟩
 | .nil,k,s,hk,ha,hl,hb=>by
  obtain⟨x,y,z⟩:=s;simp only at hb;subst hb;simp[L4.len,Lx,L4.tk,L4.by]
 | .cons t l,k,s,hk,ha,hl,hb=>by
  simp only[L4.ok]at hk;simp only[L4.tk]at ha⊢;simp only[L4.by,List.length_append]at hl⊢;obtain⟨h1,h2⟩:=At.app ha;rw[L4.len,Lx,hb,if_neg (by simp),Zu t k s hk.1 h1 (by omega) hb,dT l k _ hk.2 h2 (by simp only[List.length_append];omega) rfl];simp only[List.append_assoc]
  congr 1
  omega
end
theorem jV{a:Gt}{t:Tr}(hk:t.ok 6)(ha:At a 0 t.tk)(hn:a.n=t.tk.length)(hm:a.n≤600)(hl:t.by.length≤32768):M9 a=(t.by,0):=by
 have h:=Zu t 6 ⟨0,[],false⟩ hk ha (by simpa using hl) rfl;simp only[Nat.zero_add,List.nil_append]at h;rw[M9,if_neg (by omega),h,if_neg (by simp only[];simp[hn];omega)]
def Gz(e:Bw):Tr:= .arr (.cons (.leaf ⟨1,1,false,[]⟩) (.cons (.leaf ⟨3,0,true,e.author⟩) (.cons (.leaf ⟨1,e.seq,false,[]⟩) (.cons (.leaf ⟨3,0,true,e.prev⟩) (.cons (.leaf ⟨1,e.stamp,false,[]⟩)
 (.cons (.arr (.cons (.leaf ⟨1,e.kind,false,[]⟩) (.cons (.leaf ⟨4,0,false,e.key⟩) (.cons (.leaf ⟨3,0,false,e.val⟩) .nil)))) (.cons (.leaf ⟨3,0,true,e.sig⟩) .nil)))))))
theorem Nw{e:Bw}(hw:iQ e)(he:Al e=true)(k:Nat):(Gz e).ok (k+2):=by
 obtain⟨h1,h2,h3,h4,h5,h6,h7,h8⟩:=Cp he;obtain⟨w1,w2,w3⟩:=hw;have hn:∀n:Int,0≤n→Wx ⟨1,n,false,[]⟩:=fun n h=>⟨by simp, .inl ⟨rfl,h,rfl⟩⟩
 have hb:∀(b:Bool) (l:List UInt8),l.length≤2000→Wx ⟨3,0,b,l⟩:=fun b l h=>⟨h, .inr (.inl ⟨rfl,rfl⟩)⟩;simp only[Gz,Tr.ok,L4.ok,L4.len];exact⟨k+1,rfl,by omega,hn _ (by omega),hb _ _ (by omega),hn _ (by omega),hb _ _ (by omega),hn _ h4,⟨k,rfl,by omega,hn _ (by omega),⟨by show e.key.length≤2000;omega, .inr (.inr ⟨rfl,rfl,h6⟩)⟩,hb _ _ (by omega),trivial⟩,hb _ _ (by omega),trivial⟩
def tkW(t:Tk):Nat:=9+t.l.length
mutual
theorem Tr.by_len:∀(t:Tr) (k:Nat),t.ok k→t.by.length≤(t.tk.map tkW).sum
 | .leaf t,k,h=>by
  simp only[Tr.ok]at h
  have:=wA h
  simp only[Tr.by,Tr.tk,List.map_cons,List.map_nil,List.sum_cons,List.sum_nil,tkW];omega
 | .arr l,k,h=>by
  simp only[Tr.ok]at h;obtain⟨j,_,_,h⟩:=h;have h1:=L4.by_len l j h;have h2:=Cj 4 l.len;simp only[Tr.by,Tr.tk,List.map_cons,List.sum_cons,tkW,List.length_nil,List.length_append];have h3:(List.map tkW l.tk).sum=(List.map (fun t=>9+t.l.length) l.tk).sum:=rfl;simp only[h3]at h1;omega
theorem L4.by_len:∀(l:L4) (k:Nat),l.ok k→l.by.length≤(l.tk.map tkW).sum
 | .nil,k,h=>by simp[L4.by]
 | .cons t l,k,h=>by
  simp only[L4.ok]at h;have h1:=Tr.by_len t k h.1;have h2:=L4.by_len l k h.2;simp only[L4.by,L4.tk,List.length_append,List.map_append,List.sum_append];omega
end
theorem Lj{e:Bw}(hw:iQ e)(he:Al e=true):(Gz e).by.length≤400:=by
 obtain⟨h1,h2,h3,h4,h5,h6,h7,h8⟩:=Cp he;obtain⟨w1,w2,w3⟩:=hw;refine Nat.le_trans (Tr.by_len _ 6 (Nw ⟨w1,w2,w3⟩ he 4)) ?_;simp only[Gz,Tr.tk,L4.tk,L4.len,List.map_cons,List.map_nil,List.map_append,List.sum_cons,List.sum_nil,List.sum_append,List.cons_append,List.nil_append,List.append_nil,tkW,List.length_nil,w1,w2,w3];omega
theorem Rd(e:Bw):At (Mb e) 0 (Gz e).tk:=by
 refine⟨Nat.le_refl 11,fun j hj=>?_⟩;have hj:j<11:=hj
 match j,hj with
 |0,_|1,_|2,_|3,_|4,_|5,_|6,_|7,_|8,_|9,_|10,_=>rfl
theorem Vt{e:Bw}(hw:iQ e)(he:Al e=true):I6 e=((Gz e).by,0):=by
 rw[I6,if_pos he];exact jV (Nw hw he 4) (Rd e) rfl (by show 11≤600;omega) (by have:=Lj hw he;omega)
def ADq:A7:=Bf (fun(a:Nat×Nat)=>[.int .i64 (a.1:Nat), .int .i64 (a.2:Nat)]) (fun a=>a.2≤8) (fun a=>aG a.1 a.2 a.2) (Bl false)
theorem yP{n B i:Nat}(hi:i<B)(hB:B≤8):IntKind.u8.wrap (Bt .i64 (n:Nat) (IntKind.u64.wrap (IntKind.i64.wrap (8*((B:Int) - 1 - (i:Nat))))))=((UInt8.ofNat (n/2^(8*(B - 1 - i)))).toNat:Nat):=by
 rw[←qX hi hB];have h1:IntKind.i64.wrap (8*((B:Int) - 1 - (i:Nat)))=8*((B:Int) - 1 - (i:Nat)):=by rw[IntKind.wrap_i64];omega
 have h2:IntKind.u64.wrap (8*((B:Int) - 1 - (i:Nat)))=8*((B:Int) - 1 - (i:Nat)):=by rw[IntKind.wrap_u64];omega
 rw[h1,h2]
theorem AFg:FOk Tryz.prog [] 257 ADq:=A8 fun⟨n,B⟩ hB=>by
 replace hB:B≤8:=hB
 show CP _ _ _ [.int .i64 (n:Nat), .int .i64 (B:Nat)] fun v=>Ld v (Bl false (aG n B B))
 have hΓ:=Ad Tryz.f257.ntmps _ _ (FL.all .nil) (HL.all .nil);refine Aw hΓ Tryz.func257 ?_;conv=>whnf
 refine A4 (ι:=Nat) (fun i=>[(0, .int .i64 (n:Nat)),(5, .sl 0 [] 1 0 i i),(6, .int .i64 ((B:Int) - 1 - (i:Nat)))]) (fun i=>[some (.row 1 i (bf (aG n B i)))]) (fun i=>i≤B) (fun i=>B - i) 0 [none] ?_ (fun i hi=>vo hΓ ?_)
 ·conv=>whnf
  repeat' ((first|apply Ap<;>intro _|apply An)<;>conv=>whnf)
  all_goals try exact⟨Ah⟩
  ·exact⟨by rw[A3 (by omega) (by omega)];simp⟩
 conv=>whnf
 apply Ap<;>intro h1<;>conv=>whnf
 ·have hi2:i<B:=by
   have:0≤(B:Int) - 1 - (i:Nat):=by simpa using h1
   omega
  conv=>whnf
  repeat' ((first|apply Ap<;>intro _|apply An)<;>conv=>whnf)
  ·exact⟨by rw[IntKind.wrap_u64];omega⟩
  ·exact⟨by omega⟩
  refine Or.inl ?_;conv=>whnf
  repeat' ((first|apply Ap<;>intro _|apply An)<;>conv=>whnf)
  all_goals try first|exact⟨Ah⟩|exact⟨⟨by simp only[];omega,by omega⟩⟩
  refine⟨i+1,[some 2],?_⟩;conv=>whnf
  repeat' (apply An<;>conv=>whnf)
  all_goals try exact⟨Ah⟩
  ·exact⟨by rw[A3 (by omega) (by omega)];omega⟩
  ·refine⟨?_⟩;refine Db (i:=i) ?_ ?_ fun k _=>trivial
   ·intro k hk;refine(if_pos hk).trans ?_;simp only[aG];exact(Q5 _ _ (by rw[Cs];exact hk)).symm
   ·simp only[aG];rw[T4 _ _ _ (by rw[Cs]),←yP hi2 hB];exact(if_neg (Nat.lt_irrefl _)).trans (by rw[Nat.sub_self];rfl)
 ·have hi2:i=B:=by
   have:¬0≤(B:Int) - 1 - (i:Nat):=by simpa using h1
   omega
  subst hi2;refine vo hΓ ?_;conv=>whnf
  repeat' (apply An<;>conv=>whnf)
  ·exact⟨by omega⟩
  ·exact⟨fun k _=>Bg _ _⟩
  ·rw[Bl,Cs];exact Ld.imm fun k hk=>by rw[Nat.zero_add]
structure HeA where
 major:Nat
 n:Nat
def AUu:Ai:=L8 (fun(x:HeA)=>[.int .i64 (x.major:Nat), .int .i64 (x.n:Nat)]) (fun x=>[]) (fun x=>x.major<8)
 (fun x=>U5 0 (Aq x.major x.n)) (fun x=>[some (G1 (Aq x.major x.n))])
theorem AS4:∀(m:Fin 8) (s:Fin 28),Ag .or .u8 (IntKind.u8.wrap (Ch .i64 (m.val:Nat) 5)) (IntKind.u8.wrap (s.val:Nat))=((UInt8.ofNat (m.val*32+s.val)).toNat:Nat):=by decide
theorem ABa{m s:Nat}(hm:m<8)(hs:s≤27):Ag .or .u8 (IntKind.u8.wrap (Ch .i64 (m:Nat) 5)) (IntKind.u8.wrap (s:Nat))=((UInt8.ofNat (m*32+s)).toNat:Nat):=AS4 ⟨m,hm⟩ ⟨s,by omega⟩
theorem rD:Aj Tryz.prog (Ka Tryz.f230.ntmps [(257,ADq)] []):=Ad Tryz.f230.ntmps [(257,ADq)] [] (FL.all (.cons AFg .nil)) (HL.all .nil)
def AV6:Ai:=fun xs h κ=>xs.length=2∧B4 Tryz.prog (Ka Tryz.f230.ntmps [(257,ADq)] []) (Bd Tryz.f230) Tryz.f230.results.toList xs h κ
theorem AIu:Af Tryz.prog [] 230 AV6:=Q6 2 rD Tryz.func230
theorem AGy:Af Tryz.prog [] 230 AUu:=Cq AIu (fun x κ hm h=>by
 replace hm:x.major<8:=hm;refine⟨rfl,?_⟩;refine vj rD ?_;conv=>whnf
 repeat' ((first|apply Ap<;>intro _|apply An)<;>conv=>whnf)
 all_goals try simp only[decide_eq_true_eq,decide_eq_false_iff_not]at*
 all_goals try exact⟨by omega⟩
 ·have hs:Gn x.n=(0,x.n):=by rw[Gn,if_pos (by omega)]
  have e:Aq x.major x.n=[UInt8.ofNat (x.major*32+x.n)]:=by rw[Aq,hs];rfl
  refine⟨[some 0],U5 0 (Aq x.major x.n),[some (G1 (Aq x.major x.n))],?_⟩;rw[e];conv=>whnf
  repeat' (apply An<;>conv=>whnf)
  all_goals try exact⟨Bc⟩
  ·refine⟨fun k hk=>A5 ?_ trivial⟩;replace hk:k<1:=hk;obtain rfl:k=0:=by omega
   refine Eq.trans ?_ (congrArg (V.int .u8) (ABa hm (show x.n≤27 by omega)));rfl
  ·rw[e]at h;exact h
 ·have hs:Gn x.n=(1,24):=by rw[Gn,if_neg (by omega),if_pos (by omega)]
  refine⟨(x.n,1),⟨AE.refl _,AE.refl _,trivial⟩,⟨by show 1≤8;omega⟩,?_⟩;intro r hr;replace hr:r=aG x.n 1 1:=hr;have hl:r.length=1:=by rw[hr,Cs]
  refine Or.inl ?_;conv=>whnf
  repeat' ((first|apply Ap<;>intro _|apply An)<;>conv=>whnf)
  ·exact⟨rfl⟩
  ·exact⟨⟨by show(1+r.length)*1≤_;omega,by omega⟩⟩
  have e:Aq x.major x.n=UInt8.ofNat (x.major*32+24)::r:=by rw[Aq,hs,hr]
  refine⟨[some 1],U5 0 (Aq x.major x.n),[some (G1 (Aq x.major x.n))],?_⟩;rw[e];conv=>whnf
  repeat' (apply An<;>conv=>whnf)
  ·exact⟨⟨rfl,rfl,rfl⟩⟩
  ·exact⟨⟨rfl,by simp;omega,by simp;omega⟩⟩
  ·exact⟨rfl⟩
  ·exact⟨by simp;omega⟩
  ·refine⟨fun k hk=>A5 ?_ trivial⟩
   rcases k with _|k
   ·refine Eq.trans ?_ (congrArg (V.int .u8) (ABa hm (show 24≤27 by omega)));rfl
   ·refine(if_neg (by omega)).trans ?_;simp[bf,List.getD_eq_getElem?_getD]
  ·rw[e]at h;exact h
 ·have hs:Gn x.n=(2,25):=by rw[Gn,if_neg (by omega),if_neg (by omega),if_pos (by omega)]
  refine⟨(x.n,2),⟨AE.refl _,AE.refl _,trivial⟩,⟨by show 2≤8;omega⟩,?_⟩;intro r hr;replace hr:r=aG x.n 2 2:=hr;have hl:r.length=2:=by rw[hr,Cs]
  refine Or.inl ?_;conv=>whnf
  repeat' ((first|apply Ap<;>intro _|apply An)<;>conv=>whnf)
  ·exact⟨rfl⟩
  ·exact⟨⟨by show(1+r.length)*1≤_;omega,by omega⟩⟩
  have e:Aq x.major x.n=UInt8.ofNat (x.major*32+25)::r:=by rw[Aq,hs,hr]
  refine⟨[some 1],U5 0 (Aq x.major x.n),[some (G1 (Aq x.major x.n))],?_⟩;rw[e];conv=>whnf
  repeat' (apply An<;>conv=>whnf)
  ·exact⟨⟨rfl,rfl,rfl⟩⟩
  ·exact⟨⟨rfl,by simp;omega,by simp;omega⟩⟩
  ·exact⟨rfl⟩
  ·exact⟨by simp;omega⟩
  ·refine⟨fun k hk=>A5 ?_ trivial⟩
   rcases k with _|k
   ·refine Eq.trans ?_ (congrArg (V.int .u8) (ABa hm (show 25≤27 by omega)));rfl
   ·refine(if_neg (by omega)).trans ?_;simp[bf,List.getD_eq_getElem?_getD]
  ·rw[e]at h;exact h
 ·have hs:Gn x.n=(4,26):=by rw[Gn,if_neg (by omega),if_neg (by omega),if_neg (by omega),if_pos (by omega)]
  refine⟨(x.n,4),⟨AE.refl _,AE.refl _,trivial⟩,⟨by show 4≤8;omega⟩,?_⟩;intro r hr;replace hr:r=aG x.n 4 4:=hr;have hl:r.length=4:=by rw[hr,Cs]
  refine Or.inl ?_;conv=>whnf
  repeat' ((first|apply Ap<;>intro _|apply An)<;>conv=>whnf)
  ·exact⟨rfl⟩
  ·exact⟨⟨by show(1+r.length)*1≤_;omega,by omega⟩⟩
  have e:Aq x.major x.n=UInt8.ofNat (x.major*32+26)::r:=by rw[Aq,hs,hr]
  refine⟨[some 1],U5 0 (Aq x.major x.n),[some (G1 (Aq x.major x.n))],?_⟩;rw[e];conv=>whnf
  repeat' (apply An<;>conv=>whnf)
  ·exact⟨⟨rfl,rfl,rfl⟩⟩
  ·exact⟨⟨rfl,by simp;omega,by simp;omega⟩⟩
  ·exact⟨rfl⟩
  ·exact⟨by simp;omega⟩
  ·refine⟨fun k hk=>A5 ?_ trivial⟩
   rcases k with _|k
   ·refine Eq.trans ?_ (congrArg (V.int .u8) (ABa hm (show 26≤27 by omega)));rfl
   ·refine(if_neg (by omega)).trans ?_;simp[bf,List.getD_eq_getElem?_getD]
  ·rw[e]at h;exact h
 ·have hs:Gn x.n=(8,27):=by rw[Gn,if_neg (by omega),if_neg (by omega),if_neg (by omega),if_neg (by omega)]
  refine⟨(x.n,8),⟨AE.refl _,AE.refl _,trivial⟩,⟨by show 8≤8;omega⟩,?_⟩;intro r hr;replace hr:r=aG x.n 8 8:=hr;have hl:r.length=8:=by rw[hr,Cs]
  refine Or.inl ?_;conv=>whnf
  repeat' ((first|apply Ap<;>intro _|apply An)<;>conv=>whnf)
  ·exact⟨rfl⟩
  ·exact⟨⟨by show(1+r.length)*1≤_;omega,by omega⟩⟩
  have e:Aq x.major x.n=UInt8.ofNat (x.major*32+27)::r:=by rw[Aq,hs,hr]
  refine⟨[some 1],U5 0 (Aq x.major x.n),[some (G1 (Aq x.major x.n))],?_⟩;rw[e];conv=>whnf
  repeat' (apply An<;>conv=>whnf)
  ·exact⟨⟨rfl,rfl,rfl⟩⟩
  ·exact⟨⟨rfl,by simp;omega,by simp;omega⟩⟩
  ·exact⟨rfl⟩
  ·exact⟨by simp;omega⟩
  ·refine⟨fun k hk=>A5 ?_ trivial⟩
   rcases k with _|k
   ·refine Eq.trans ?_ (congrArg (V.int .u8) (ABa hm (show 27≤27 by omega)));rfl
   ·refine(if_neg (by omega)).trans ?_;simp[bf,List.getD_eq_getElem?_getD]
  ·rw[e]at h;exact h
 ) (fun _=>by simp) (fun _=>by simp only[U5,Hf]) (fun l u hu=>by simp at hu;subst hu;exact Oo _)
structure ItX where
 a:Gt
 p:Nat
 t:Tr
def AKu(p:Nat)(l:List UInt8):V:= .st (.cons (.int .i64 (p:Nat)) (.cons (Bl false l) (.cons (.bool false) .nil)))
def F80(k:Nat):A7:=Bf (fun(x:ItX)=>[Zk x.a, .int .i64 (x.p:Nat), .int .i64 (6 - (k:Nat))]) (fun x=>x.t.ok k∧At x.a x.p x.t.tk∧x.t.by.length≤32768∧x.a.n≤600∧k≤6)
 (fun x=>(x.p+x.t.tk.length,x.t.by)) (fun r=>AKu r.1 r.2)
structure ItL where
 i:Nat
 pos:Nat
 out:List UInt8
 rest:L4
theorem AA8(k:Nat)(F:A7)(hF:FOk Tryz.prog G 184 F)(hk:∀j,k=j+1→F=F80 j):FOk Tryz.prog G 184 (F80 k):=A8 fun x ⟨hok,hat,hby,hn,hk6⟩=>by
 obtain⟨a,p,t⟩:=x;replace hok:t.ok k:=hok;replace hat:At a p t.tk:=hat;replace hby:t.by.length≤32768:=hby
 replace hn:a.n≤600:=hn;replace hk6:k≤6:=hk6
 show CP _ _ _ [Zk a, .int .i64 (p:Nat), .int .i64 (6 - (k:Nat))] fun v=>Ld v (AKu (p+t.tk.length) t.by)
 have hΓ:=Ab Tryz.f184.ntmps _ _ [(13, .one 0 (.one 1 (.one 2 (.one 3 (.one 4 (.one 6 (.many (.cons 5 (.one 7 (.one 8 (.one 9 (.one 10 (.done))))) (.cons 7 (.one 5 (.one 8 (.one 9 (.one 10 (.done))))) (.nil)))))))))),(17, .one 0 (.one 1 (.one 2 (.one 3 (.one 4 (.one 6 (.many (.cons 5 (.one 7 (.one 8 (.one 9 (.one 10 (.done))))) (.cons 7 (.one 5 (.one 8 (.one 9 (.one 10 (.done))))) (.nil)))))))))),(38, .one 0 (.one 2 (.one 3 (.one 4 (.one 5 (.many (.cons 1 (.one 6 (.one 7 (.one 8 (.one 9 (.one 10 (.done)))))) (.cons 6 (.one 1 (.one 7 (.one 8 (.one 9 (.one 10 (.done)))))) (.nil)))))))))] (.cons (sC.g) (.cons (hF) .nil)) (.cons (hg AGy) .nil);refine Aw hΓ Tryz.func184 ?_
 cases t with
 |leaf t=>
  simp only[Tr.ok]at hok;simp only[Tr.tk]at hat;simp only[Tr.by]at hby;obtain⟨h1,h2,_⟩:=hat.head;obtain⟨hl,⟨k1,k2,k3⟩|⟨k1,k2⟩|⟨k1,k2,k3⟩⟩:=hok
  ·conv=>whnf
   repeat' (first|(apply Ap<;>intro hp<;>first|(exfalso;revert hp;simp[h1,k1,k2,k3]<;>omega;done)|conv=>whnf)|(apply An<;>conv=>whnf))
   ·exact⟨by omega⟩
   obtain⟨m,hm⟩:∃m:Nat,t.n=m:=⟨t.n.toNat,by omega⟩;have hb:Hk t=Aq 0 m:=by rw[Hk,if_pos k1,hm,Int.toNat_natCast]
   refine⟨⟨0,m⟩,[],?_⟩;conv=>whnf
   repeat' ((first|apply Ap<;>intro _|apply An)<;>conv=>whnf)
   all_goals try first|exact⟨Bc⟩|exact⟨show 0<8 by decide⟩|exact⟨fun _ _=>Bg _ _⟩
   ·exact⟨(congrArg Tk.n h1).trans hm⟩
   ·refine Ld.st (.cons (Cm.of (congrArg (V.int .i64) ?_)) (.cons (Cm.imm ?_ fun k _=>?_) (.cons (Cm.refl _) .nil)))
    ·rw[A3 (by omega) (by omega)];rfl
    ·exact congrArg List.length hb.symm
    ·show bf (Aq 0 m) (0+k)=bf (Hk t) k
     rw[Nat.zero_add,hb]
  ·have hb:Hk t=Aq 2 t.l.length++t.l:=by rw[Hk,if_neg (by omega),if_neg (by omega)]
   conv=>whnf
   repeat' (first|(apply Ap<;>intro hp<;>first|(exfalso;revert hp;simp[h1,k1,k2]<;>omega;done)|conv=>whnf)|(apply An<;>conv=>whnf))
   ·exact⟨by omega⟩
   all_goals try exact trivial
   all_goals
    refine⟨⟨2,t.l.length⟩,[],?_⟩;conv=>whnf
    repeat' ((first|apply Ap<;>intro _|apply An)<;>conv=>whnf)
    all_goals try first|exact⟨Bc⟩|exact⟨show 2<8 by decide⟩|exact⟨fun _ _=>Bg _ _⟩
    ·exact⟨congrArg (fun x:Tk=>((x.l.length:Nat):Int)) h1⟩
    have hh:=Cj 2 t.l.length;refine Or.inl ?_;conv=>whnf
    repeat' ((first|apply Ap<;>intro _|apply An)<;>conv=>whnf)
    all_goals try exact⟨Bc⟩
    ·refine⟨?_⟩
     show((Aq 2 t.l.length).length+(a.ts p).l.length)*1≤_∧(Aq 2 t.l.length).length+(a.ts p).l.length≤_
     rw[h1];omega
    ·exact⟨fun k _=>by
      show own (if 0+k<(Aq 2 t.l.length).length then bf (Aq 2 t.l.length) (0+k)else bf (a.ts p).l (0+k - (Aq 2 t.l.length).length))
      split<;>exact Bg _ _⟩
    ·refine Ld.st (.cons (Cm.of (congrArg (V.int .i64) ?_)) (.cons (Cm.imm ?_ fun k _=>?_) (.cons (Cm.refl _) .nil)))
     ·rw[A3 (by omega) (by omega)];rfl
     ·show(Aq 2 t.l.length).length+(a.ts p).l.length=(Hk t).length
      rw[h1,hb,List.length_append]
     ·show(if 0+k<(Aq 2 t.l.length).length then bf (Aq 2 t.l.length) (0+k)else bf (a.ts p).l (0+k - (Aq 2 t.l.length).length))=bf (Hk t) k
      rw[Nat.zero_add,h1,hb,bsn]
  ·have hb:Hk t=Aq 3 t.l.length++t.l:=by rw[Hk,if_neg (by omega),if_pos (by omega)]
   conv=>whnf
   repeat' (first|(apply Ap<;>intro hp<;>first|(exfalso;revert hp;simp[h1,k1,k2,k3]<;>omega;done)|conv=>whnf)|(apply An<;>conv=>whnf))
   ·exact⟨by omega⟩
   refine⟨.of (a.ts p).lent (a.ts p).l,⟨AE.refl _,trivial⟩,⟨trivial,by show(a.ts p).l.length≤1000000;rw[h1];omega⟩,?_⟩;intro r hr;replace hr:r=Bv (a.ts p).l:=hr;rw[h1,k3]at hr;subst hr;conv=>whnf
   repeat' (first|(apply Ap<;>intro hp<;>first|(exfalso;revert hp;simp[h1,k1,k2,k3]<;>omega;done)|conv=>whnf)|(apply An<;>conv=>whnf))
   all_goals try exact trivial
   all_goals
    refine⟨⟨3,t.l.length⟩,[],?_⟩;conv=>whnf
    repeat' ((first|apply Ap<;>intro _|apply An)<;>conv=>whnf)
    all_goals try first|exact⟨Bc⟩|exact⟨show 3<8 by decide⟩|exact⟨fun _ _=>Bg _ _⟩
    ·exact⟨congrArg (fun x:Tk=>((x.l.length:Nat):Int)) h1⟩
    have hh:=Cj 3 t.l.length;refine Or.inl ?_;conv=>whnf
    repeat' ((first|apply Ap<;>intro _|apply An)<;>conv=>whnf)
    all_goals try exact⟨Bc⟩
    ·refine⟨?_⟩
     show((Aq 3 t.l.length).length+(a.ts p).l.length)*1≤_∧(Aq 3 t.l.length).length+(a.ts p).l.length≤_
     rw[h1];omega
    ·exact⟨fun k _=>by
      show own (if 0+k<(Aq 3 t.l.length).length then bf (Aq 3 t.l.length) (0+k)else bf (a.ts p).l (0+k - (Aq 3 t.l.length).length))
      split<;>exact Bg _ _⟩
    ·refine Ld.st (.cons (Cm.of (congrArg (V.int .i64) ?_)) (.cons (Cm.imm ?_ fun k _=>?_) (.cons (Cm.refl _) .nil)))
     ·rw[A3 (by omega) (by omega)];rfl
     ·show(Aq 3 t.l.length).length+(a.ts p).l.length=(Hk t).length
      rw[h1,hb,List.length_append]
     ·show(if 0+k<(Aq 3 t.l.length).length then bf (Aq 3 t.l.length) (0+k)else bf (a.ts p).l (0+k - (Aq 3 t.l.length).length))=bf (Hk t) k
      rw[Nat.zero_add,h1,hb,bsn]
 |arr l=>
  simp only[Tr.ok]at hok;obtain⟨j,hkj,h64,hok⟩:=hok;have hF2:=hk j hkj;subst hF2;simp only[Tr.tk]at hat;have hby2:(Aq 4 l.len).length+l.by.length≤32768:=by simpa[Tr.by]using hby
  obtain⟨h1,h2,h3⟩:=hat.head;conv=>whnf
  repeat' (first|(apply Ap<;>intro hp<;>first|(exfalso;revert hp;simp[h1]<;>omega;done)|conv=>whnf)|(apply An<;>conv=>whnf))
  ·exact⟨by omega⟩
  refine⟨⟨4,l.len⟩,[],?_⟩;conv=>whnf
  repeat' (first|(apply Ap<;>intro hp<;>first|(exfalso;revert hp;simp[h1]<;>omega;done)|conv=>whnf)|(apply An<;>conv=>whnf))
  all_goals try first|exact⟨Bc⟩|exact⟨show 4<8 by decide⟩
  ·exact⟨congrArg Tk.n h1⟩
  refine A4 (ι:=ItL) (fun x=>[(0,Zk a),(2, .int .i64 (6 - (k:Nat))),(6, .ref 0 []),(7, .ref 1 []),(8, .ref 2 []),(9, .int .i64 (l.len:Nat)),(10, .ref 3 []),(11, .emp),(12, .int .i64 (x.i:Nat))])
   (fun x=>[some (.st (.cons (.int .i64 0) (.cons .emp (.cons .ff .nil)))),some (.st (.cons (.int .i64 0) (.cons .emp (.cons .tt .nil)))),some (Sk (a.ts p)),some (.st (.cons (.int .i64 (x.pos:Nat)) (.cons (U5 4 x.out) (.cons .ff .nil)))),some (G1 x.out)])
   (fun x=>x.i+x.rest.len=l.len∧x.rest.ok j∧At a x.pos x.rest.tk∧x.out++x.rest.by=(Tr.arr l).by∧x.pos+x.rest.tk.length=p+(Tr.arr l).tk.length) (fun x=>x.rest.len) ⟨0,p+1,Aq 4 l.len,l⟩ [some 0,some 1,some 2,some 4,some 3] ?_ (fun x hx=>vo hΓ ?_)
  ·conv=>whnf
   repeat' ((first|apply Ap<;>intro _|apply An)<;>conv=>whnf)
   all_goals try first|exact⟨Bc⟩|exact⟨fun _ _=>rfl⟩|exact⟨fun k _=>Aa _ trivial⟩
   ·exact⟨congrArg Tk.n h1⟩
   ·exact⟨by rw[A3 (by omega) (by omega)];rfl⟩
   ·exact⟨⟨Nat.zero_add _,hok,h3,by simp only[Tr.by],by simp only[Tr.tk,List.length_cons];omega⟩⟩
  obtain⟨x1,x2,x3,x4,x5⟩:=hx;have xlen:x.out.length+x.rest.by.length≤32768:=by rw[←List.length_append,x4];exact hby
  have xpos:=x3.1;conv=>whnf
  apply Ap<;>intro h5<;>conv=>whnf
  ·have hi:x.i<l.len:=by simpa using h5
   obtain⟨i,pos,out,rest⟩:=x
   cases rest with
   |nil=>exfalso;simp only[L4.len]at x1;simp only[]at hi;omega
   |cons t r=>
    simp only[L4.ok]at x2;simp only[L4.tk]at x3 x5 xpos;simp only[L4.by,List.length_append]at x4 xlen;simp only[L4.len]at x1;obtain⟨y1,y2⟩:=At.app x3;simp only[List.length_append]at xpos x5;conv=>whnf
    repeat' (first|(apply Ap<;>intro hp<;>first|(exfalso;revert hp;simp[h1]<;>omega;done)|conv=>whnf)|(apply An<;>conv=>whnf))
    refine⟨⟨a,pos,t⟩,⟨AE.refl _,AE.refl _,AE.of (congrArg (V.int .i64) ?_),trivial⟩,⟨x2.1,y1,by show t.by.length≤32768;omega,hn,by omega⟩,?_⟩
    ·rw[A3 (by omega) (by omega)];omega
    intro w hw;obtain⟨w1,w2⟩:=w
    obtain⟨rfl,rfl⟩:w1=pos+t.tk.length∧w2=t.by:=by
     have:=Prod.mk.inj hw;exact this
    conv=>whnf
    repeat' (first|(apply Ap<;>intro hp<;>first|(exfalso;revert hp;simp[h1]<;>omega;done)|conv=>whnf)|(apply An<;>conv=>whnf))
    all_goals try exact trivial
    ·exfalso;rw[A3 (by show _≤((out.length:Nat):Int)+(t.by.length:Nat);omega) (by show((out.length:Nat):Int)+(t.by.length:Nat)≤_;omega)]at hp
     have:(32768:Int)<(out.length:Nat)+(t.by.length:Nat):=of_decide_eq_true hp
     omega
    all_goals
     refine Or.inl ?_;conv=>whnf
     repeat' ((first|apply Ap<;>intro _|apply An)<;>conv=>whnf)
     all_goals try exact⟨Bc⟩
     ·refine⟨?_⟩
      show(out.length+t.by.length)*1≤_∧out.length+t.by.length≤_
      omega
     refine⟨⟨i+1,pos+t.tk.length,out++t.by,r⟩,[some 0,some 1,some 2,some 3,some 6],?_⟩;conv=>whnf
     repeat' (apply An<;>conv=>whnf)
     all_goals try first|exact⟨Bc⟩|exact⟨fun _ _=>rfl⟩|exact⟨fun k _=>Aa _ trivial⟩|exact⟨fun k _=>A5 (bsn _ _ k) trivial⟩|exact⟨⟨rfl,List.length_append.symm,List.length_append.symm⟩⟩|exact⟨List.length_append.symm⟩
     ·exact⟨by rw[A3 (by omega) (by omega)];rfl⟩
     ·exact⟨⟨⟨by show i+1+r.len=l.len;omega,x2.2,y2,by rw[List.append_assoc];exact x4,by show pos+t.tk.length+r.tk.length=_;omega⟩,by show r.len<r.len+1;omega⟩⟩
  ·have hi:x.i=l.len:=by
    have:¬((x.i:Nat):Int)<(l.len:Nat):=by simpa using h5
    omega
   have hr:x.rest= .nil:=by
    have h6:x.rest.len=0:=by omega
    generalize x.rest=q at h6
    cases q with
    |nil=>rfl
    |cons t r=>simp only[L4.len]at h6;omega
   rw[hr]at x4 x5;simp only[L4.by,L4.tk,List.append_nil,List.length_nil,Nat.add_zero]at x4 x5;refine vo hΓ ?_;conv=>whnf
   repeat' ((first|apply Ap<;>intro _|apply An)<;>conv=>whnf)
   ·exact⟨by omega⟩
   ·exact⟨fun _ _=>Bg _ _⟩
   ·refine Ld.st (.cons (Cm.of (congrArg (V.int .i64) ?_)) (.cons (Cm.imm (congrArg List.length x4) fun k _=>?_) (.cons (Cm.refl _) .nil)))
    ·rw[x5]
    ·rw[Nat.zero_add,x4]
theorem AA9:∀k,FOk Tryz.prog G 184 (F80 k)
 |0=>AA8 0 (fun _ _=>False) ⟨fun _ _ h=>h.elim,fun _ _ h=>h.elim⟩ (fun j h=>by omega)
 |k+1=>AA8 (k+1) (F80 k) (AA9 k) (fun j h=>congrArg F80 (by omega))
structure EnX where
 a:Gt
 t:Tr
def F48:A7:=Bf (fun(x:EnX)=>[Zk x.a]) (fun x=>x.t.ok 6∧At x.a 0 x.t.tk∧x.t.by.length≤32768∧x.a.n≤600∧x.a.n=x.t.tk.length) (fun x=>x.t.by) (fun r=> .tup (.cons (Bl false r) (.cons (.bool true) .nil)))
theorem AA3:FOk Tryz.prog G 138 F48:=A8 fun x ⟨h1,h2,h3,h4,h5⟩=>by
 have hΓ:=Ab Tryz.f138.ntmps _ _ [] (.cons (AA9 6) .nil) .nil;refine Aw hΓ Tryz.func138 ?_;conv=>whnf
 repeat' (first|(apply Ap<;>intro hp<;>first|(exfalso;revert hp;simp<;>omega;done)|conv=>whnf)|(apply An<;>conv=>whnf))
 refine⟨⟨x.a,0,x.t⟩,⟨AE.refl _,AE.refl _,AE.refl _,trivial⟩,⟨h1,h2,h3,h4,by omega⟩,?_⟩;intro w hw;obtain⟨w1,w2⟩:=w;obtain⟨rfl,rfl⟩:w1=0+x.t.tk.length∧w2=x.t.by:=Prod.mk.inj hw
 conv=>whnf
 repeat' (first|(apply Ap<;>intro hp<;>first|(exfalso;revert hp;simp<;>omega;done)|conv=>whnf)|(apply An<;>conv=>whnf))
 ·exact⟨fun _ _=>Bg _ _⟩
 ·exact Ld.refl _
theorem AE.tok{l:Bool}{n:Nat}{f:Nat→V}{ts:Nat→Tk}(h:∀k,k<n→cE (f k) (ts k)):AE (.imm l 3 n f) (.imm l 3 n fun k=>Sk (ts k)):=fun _ _ hT=>bB h hT
def AU0:A7:=Bf (fun(e:Bw)=>[aB e]) (fun _=>True) Fq .bool
theorem AF8:FOk Tryz.prog [] 96 AU0:=A8 fun e _=>by
 have hΓ:=Ad Tryz.f96.ntmps _ _ (FL.all (.cons fM (.cons sC .nil))) (HL.all .nil);refine Aw hΓ Tryz.func96 ?_;conv=>whnf
 repeat' ((first|apply Ap<;>intro _|apply An)<;>conv=>whnf)
 refine⟨((e.key.length:Nat),1,16),⟨AE.refl _,AE.refl _,AE.refl _,trivial⟩,⟨trivial⟩,?_⟩;intro r hr;replace hr:r=(decide ((1:Int)≤(e.key.length:Nat))&&decide (((e.key.length:Nat):Int)≤16)):=hr;conv=>whnf
 repeat' ((first|apply Ap<;>intro _|apply An)<;>conv=>whnf)
 ·rename_i g1;replace g1:r=true:=g1;rw[g1]at hr;have hr:=hr.symm;simp only[Bool.and_eq_true,decide_eq_true_eq]at hr;refine⟨.of false e.key,⟨AE.refl _,trivial⟩,⟨trivial,by show e.key.length≤1000000;omega⟩,?_⟩;intro q hq;replace hq:q=Bv e.key:=hq;have k1:decide (1≤e.key.length)=true:=decide_eq_true (by omega);have k2:decide (e.key.length≤16)=true:=decide_eq_true (by omega)
  have e1:Fq e=(q&&((decide (e.kind=1)&&decide (e.val.length≤40))||(decide (e.kind=2)&&decide (e.val.length=0)))):=by
   rw[Fq,k1,k2,hq];rfl
  rw[e1];clear hq e1 hr;conv=>whnf
  repeat' ((first|apply Ap<;>intro _|apply An)<;>conv=>whnf)
  all_goals
   simp only[beq_iff_eq,beq_eq_false_iff_ne,ne_eq,decide_eq_true_eq,decide_eq_false_iff_not]at*;refine Ld.of (congrArg V.bool (E9 ?_));simp_all
   try omega
 ·rename_i g1;replace g1:r=false:=g1;rw[g1]at hr;have hr:=hr.symm;simp only[Bool.and_eq_false_iff,decide_eq_false_iff_not]at hr;refine Ld.of (congrArg V.bool (E9 ?_));simp[Fq]
  omega
theorem oP:FOk Tryz.prog [] 54 (Bf (fun(e:Bw)=>[Ak e]) iQ Al .bool):=A8 fun e ⟨w1,w2,w3⟩=>by
 have hΓ:=Ad Tryz.f54.ntmps _ _ (FL.all (.cons fM (.cons AF8 .nil))) (HL.all .nil);refine Aw hΓ Tryz.func54 ?_;conv=>whnf
 repeat' ((first|apply Ap<;>intro _|apply An)<;>conv=>whnf)
 all_goals try exact⟨Ah⟩
 refine⟨(e.seq,1,200),⟨AE.refl _,AE.refl _,AE.refl _,trivial⟩,⟨trivial⟩,?_⟩;intro r hr;replace hr:r=(decide ((1:Int)≤e.seq)&&decide (e.seq≤200)):=hr;have hz:=L1 w2
 have e1:Al e=(r&&(!decide (e.seq=1)||decide (e.prev=List.replicate 32 0))&&decide (0≤e.stamp)&&Fq e):=by
  rw[Al,hr,show De 32 (bf e.prev) (bf [])=_ from Qs w2]
 rw[e1];conv=>whnf
 repeat' ((first|apply Ap<;>intro _|apply An)<;>conv=>whnf)
 all_goals try first|exact⟨Ah⟩|exact⟨fun _ _=>rfl⟩
 ·rename_i g1 g2 g3;replace g1:r=true:=g1;simp only[decide_eq_true_eq]at g2 g3;refine⟨e,⟨AE.refl _,trivial⟩,⟨trivial⟩,?_⟩;intro q hq;replace hq:q=Fq e:=hq;conv=>whnf
  repeat' ((first|apply Ap<;>intro _|apply An)<;>conv=>whnf)
  refine Ld.of (congrArg V.bool (E9 ?_));rw[←hq];simp[g1,g3,show¬e.seq=1 by omega]
 ·rename_i g1 g2 g3;simp only[decide_eq_false_iff_not]at g3;refine Ld.of (congrArg V.bool (E9 ?_));simp[g3]
 ·rename_i g1 g2 g3 g4;replace g1:r=true:=g1;replace g3:(De 32 (bf e.prev) fun _=> .int .u8 0)=true:=g3;rw[hz]at g3;simp only[decide_eq_true_eq]at g3 g4;refine⟨e,⟨AE.refl _,trivial⟩,⟨trivial⟩,?_⟩;intro q hq;replace hq:q=Fq e:=hq;conv=>whnf
  repeat' ((first|apply Ap<;>intro _|apply An)<;>conv=>whnf)
  refine Ld.of (congrArg V.bool (E9 ?_));rw[←hq];rw[decide_eq_true g3];simp[g1,g4]
 ·rename_i g1 g2 g3 g4;simp only[decide_eq_false_iff_not]at g4;refine Ld.of (congrArg V.bool (E9 ?_));simp[g4]
 ·rename_i g1 g2 g3;replace g1:r=true:=g1;replace g3:(De 32 (bf e.prev) fun _=> .int .u8 0)=false:=g3;rw[hz]at g3;simp only[decide_eq_false_iff_not]at g2 g3
  have g4:e.seq=1:=by
   rw[g1]at hr;have hr:=hr.symm;simp only[Bool.and_eq_true,decide_eq_true_eq]at hr;omega
  refine Ld.of (congrArg V.bool (E9 ?_));rw[decide_eq_false g3,decide_eq_true g4];simp
 ·rename_i g1;replace g1:r=false:=g1;refine Ld.of (congrArg V.bool (E9 ?_));simp[g1]
theorem fS:FOk Tryz.prog [] 136 F68:=Bj fun n _ Φ h=>by
 have hΓ:=Ad Tryz.f136.ntmps _ _ (FL.all .nil) (HL.all .nil);refine Aw hΓ Tryz.func136 ?_;conv=>whnf
 repeat' ((first|apply Ap<;>intro _|apply An)<;>conv=>whnf)
 exact h
theorem AFi:FOk Tryz.prog [] 183 F31:=Bj fun n _ Φ h=>by
 have hΓ:=Ad Tryz.f183.ntmps _ _ (FL.all .nil) (HL.all .nil);refine Aw hΓ Tryz.func183 ?_;conv=>whnf
 repeat' ((first|apply Ap<;>intro _|apply An)<;>conv=>whnf)
 exact h
theorem R6:Aj Tryz.prog (Ka Tryz.f139.ntmps [] []):=Ad Tryz.f139.ntmps [] [] (FL.all .nil) (HL.all .nil)
def AVd:Ai:=fun xs h κ=>xs.length=1∧B4 Tryz.prog (Ka Tryz.f139.ntmps [] []) (Bd Tryz.f139) Tryz.f139.results.toList xs h κ
theorem AIz:Af Tryz.prog [] 139 AVd:=Q6 1 R6 Tryz.func139
theorem tL:Gv Tryz.prog [] 139 P32:=sY AIz (fun a _=>by
 refine⟨rfl,?_⟩
 cases a with
 |sl lo len cap=>
  refine vj R6 ?_;conv=>whnf
  refine⟨[some 0], .st (.cons (.int .i64 3) (.cons (.int .i64 0) (.cons (.sl 0 [] 1 lo len cap) .nil))),Gk 1,?_⟩;conv=>whnf
  repeat' (apply An<;>conv=>whnf)
  all_goals try first|exact⟨Bc⟩|exact⟨fun _ _=>rfl⟩
  all_goals rfl
 |fld k off lo len cap=>
  refine vj R6 ?_;conv=>whnf
  refine⟨[some 0], .st (.cons (.int .i64 3) (.cons (.int .i64 0) (.cons (.sl 0 [.f k off] 1 lo len cap) .nil))),Gk 1,?_⟩;conv=>whnf
  repeat' (apply An<;>conv=>whnf)
  all_goals try first|exact⟨Bc⟩|exact⟨fun _ _=>rfl⟩
  all_goals rfl
 |imm b n f=>
  refine vj R6 ?_;conv=>whnf
  refine⟨[], .st (.cons (.int .i64 3) (.cons (.int .i64 0) (.cons (.imm b 1 n f) .nil))),Gk 0,?_⟩;conv=>whnf
  repeat' (apply An<;>conv=>whnf)
  all_goals try first|exact⟨Bc⟩|exact⟨fun _ _=>rfl⟩
  all_goals rfl
 |emp=>
  refine vj R6 ?_;conv=>whnf
  refine⟨[], .st (.cons (.int .i64 3) (.cons (.int .i64 0) (.cons (.emp) .nil))),Gk 0,?_⟩;conv=>whnf
  repeat' (apply An<;>conv=>whnf)
  all_goals try first|exact⟨Bc⟩|exact⟨fun _ _=>rfl⟩
  all_goals rfl
 ) (fun a=>by cases a<;>simp[Hf,Ie,jA.v])
theorem P9:Aj Tryz.prog (oL Tryz.f137.ntmps [(136,F68),(183,F31)] [(139,P32)] [] []):=R9 _ _ _ _ _ (.cons fS.g (.cons AFi.g .nil)) (.cons (pg tL) .nil) .nil
def ALj:Ai:=fun xs h κ=>xs.length=1∧B4 Tryz.prog (oL Tryz.f137.ntmps [(136,F68),(183,F31)] [(139,P32)] [] []) (Bd Tryz.f137) Tryz.f137.results.toList xs h κ
theorem uC:Af Tryz.prog G 137 ALj:=Q6 1 P9 Tryz.func137
def AU1:A7:=Bf (fun(e:Bw)=>[Ak e]) (fun e=>Cy e∧Al e=true) (fun e=>(Gz e).by) (Bl false)
set_option maxHeartbeats 1000000 in
theorem sB:FOk Tryz.prog G 97 AU1:=A8 fun e ⟨⟨hw,hst⟩,hok⟩=>by
 have hΓ:Aj Tryz.prog (oL Tryz.f97.ntmps [(136,F68),(138,F48)] [(139,P32)] [(137,ALj)] [(1, .one 0 (.many (.cons 1 (.one 2 (.one 3 (.one 4 (.one 5 (.done))))) (.cons 2 (.many (.cons 1 (.one 3 (.one 4 (.one 5 (.done)))) (.cons 3 (.one 1 (.one 4 (.one 5 (.done)))) (.nil)))) (.nil)))))]):=R9 _ _ _ _ _ (.cons fS.g (.cons AA3 .nil)) (.cons (pg tL) .nil) (.cons uC .nil);refine Aw hΓ Tryz.func97 ?_;conv=>whnf
 refine⟨7,rfl,⟨trivial⟩,?_⟩;conv=>whnf
 repeat' ((first|apply Ap<;>intro _|apply An)<;>conv=>whnf)
 all_goals try exact trivial
 all_goals try exact rfl
 ·refine vj P9 ?_;conv=>whnf
  refine⟨1,rfl,⟨trivial⟩,?_⟩;conv=>whnf
  repeat' ((first|apply Ap<;>intro _|apply An)<;>conv=>whnf)
  all_goals try exact⟨Ib⟩
  refine⟨.fld 0 0 0 32 32,[some 2],?_⟩;conv=>whnf
  repeat' ((first|apply Ap<;>intro _|apply An)<;>conv=>whnf)
  all_goals try exact⟨Ib⟩
  refine⟨e.seq,rfl,⟨trivial⟩,?_⟩;conv=>whnf
  repeat' ((first|apply Ap<;>intro _|apply An)<;>conv=>whnf)
  all_goals try exact⟨Ib⟩
  refine⟨.fld 2 33 0 32 32,[some 2],?_⟩;conv=>whnf
  repeat' ((first|apply Ap<;>intro _|apply An)<;>conv=>whnf)
  all_goals try exact⟨Ib⟩
  refine⟨e.stamp,rfl,⟨trivial⟩,?_⟩;conv=>whnf
  repeat' ((first|apply Ap<;>intro _|apply An)<;>conv=>whnf)
  all_goals try exact⟨Ib⟩
  refine⟨3,rfl,⟨trivial⟩,?_⟩;conv=>whnf
  repeat' ((first|apply Ap<;>intro _|apply An)<;>conv=>whnf)
  all_goals try exact⟨Ib⟩
  refine⟨e.kind,rfl,⟨trivial⟩,?_⟩;conv=>whnf
  repeat' ((first|apply Ap<;>intro _|apply An)<;>conv=>whnf)
  all_goals try exact⟨Ib⟩
  refine⟨.imm false e.val.length (bf e.val),[],?_⟩;conv=>whnf
  repeat' ((first|apply Ap<;>intro _|apply An)<;>conv=>whnf)
  all_goals try first|exact⟨Bc⟩|exact⟨fun _ _=>rfl⟩|exact⟨trivial⟩
  refine Or.inl ?_;conv=>whnf
  repeat' ((first|apply Ap<;>intro _|apply An)<;>conv=>whnf)
  all_goals try first|exact⟨Bc⟩|exact⟨⟨by decide,by decide⟩⟩
  refine⟨.fld 5 69 0 64 64,[some 0],?_⟩;conv=>whnf
  repeat' ((first|apply Ap<;>intro _|apply An)<;>conv=>whnf)
  all_goals try exact⟨Ib⟩
  refine Or.inl ?_;conv=>whnf
  repeat' ((first|apply Ap<;>intro _|apply An)<;>conv=>whnf)
  all_goals try first|exact⟨Bc⟩|exact⟨⟨by decide,by decide⟩⟩
  ·refine⟨?_⟩;refine(A0 ?_ (A0 ?_ (A0 ?_ (A0 ?_ (A0 ?_ (A0 ?_ (A0 ?_ (A0 ?_ (A0 ?_ (A0 ?_ (A0 ?_ A9)))))))))));all_goals(conv=>whnf)
   all_goals(repeat' (apply An<;>conv=>whnf))
   all_goals first
    |trivial
    |exact⟨⟨rfl,by decide⟩⟩
    |exact⟨fun _ _=>trivial⟩
  refine⟨⟨Mb e,Gz e⟩,⟨AE.tok (n:=11) ?_,trivial⟩,⟨Nw hw hok 4,Rd e,by have:=Lj hw hok;show(Gz e).by.length≤32768;omega,by show 11≤600;omega,rfl⟩,?_⟩
  ·refine(A0 ?_ (A0 ?_ (A0 ?_ (A0 ?_ (A0 ?_ (A0 ?_ (A0 ?_ (A0 ?_ (A0 ?_ (A0 ?_ (A0 ?_ A9)))))))))))
   ·exact .inl (Eq.trans rfl (Dh hw.2.2))
   ·exact .inl rfl
   ·exact .inl rfl
   ·exact .inr ⟨rfl,rfl⟩
   ·exact .inr ⟨rfl,rfl⟩
   ·exact .inr ⟨rfl,rfl⟩
   ·exact .inl (Eq.trans rfl (Dh hw.2.1))
   ·exact .inr ⟨rfl,rfl⟩
   ·exact .inl (Eq.trans rfl (Dh hw.1))
   ·exact .inr ⟨rfl,rfl⟩
   ·exact .inr ⟨rfl,rfl⟩
  intro r hr;replace hr:r=(Gz e).by:=hr
  rw[←hr];conv=>whnf
  repeat' ((first|apply Ap<;>intro _|apply An)<;>conv=>whnf)
  ·exact⟨fun _ _=>Bg _ _⟩
  ·exact Ld.refl _
 ·refine vj P9 ?_;conv=>whnf
  refine⟨1,rfl,⟨trivial⟩,?_⟩;conv=>whnf
  repeat' ((first|apply Ap<;>intro _|apply An)<;>conv=>whnf)
  all_goals try exact⟨Ib⟩
  refine⟨.fld 0 0 0 32 32,[some 2],?_⟩;conv=>whnf
  repeat' ((first|apply Ap<;>intro _|apply An)<;>conv=>whnf)
  all_goals try exact⟨Ib⟩
  refine⟨e.seq,rfl,⟨trivial⟩,?_⟩;conv=>whnf
  repeat' ((first|apply Ap<;>intro _|apply An)<;>conv=>whnf)
  all_goals try exact⟨Ib⟩
  refine⟨.fld 2 33 0 32 32,[some 2],?_⟩;conv=>whnf
  repeat' ((first|apply Ap<;>intro _|apply An)<;>conv=>whnf)
  all_goals try exact⟨Ib⟩
  refine⟨e.stamp,rfl,⟨trivial⟩,?_⟩;conv=>whnf
  repeat' ((first|apply Ap<;>intro _|apply An)<;>conv=>whnf)
  all_goals try exact⟨Ib⟩
  refine⟨3,rfl,⟨trivial⟩,?_⟩;conv=>whnf
  repeat' ((first|apply Ap<;>intro _|apply An)<;>conv=>whnf)
  all_goals try exact⟨Ib⟩
  refine⟨e.kind,rfl,⟨trivial⟩,?_⟩;conv=>whnf
  repeat' ((first|apply Ap<;>intro _|apply An)<;>conv=>whnf)
  all_goals try exact⟨Ib⟩
  refine⟨.imm false e.val.length (bf e.val),[],?_⟩;conv=>whnf
  repeat' ((first|apply Ap<;>intro _|apply An)<;>conv=>whnf)
  all_goals try first|exact⟨Bc⟩|exact⟨fun _ _=>rfl⟩|exact⟨trivial⟩
  refine Or.inl ?_;conv=>whnf
  repeat' ((first|apply Ap<;>intro _|apply An)<;>conv=>whnf)
  all_goals try first|exact⟨Bc⟩|exact⟨⟨by decide,by decide⟩⟩
  refine⟨.fld 5 69 0 64 64,[some 0],?_⟩;conv=>whnf
  repeat' ((first|apply Ap<;>intro _|apply An)<;>conv=>whnf)
  all_goals try exact⟨Ib⟩
  refine Or.inl ?_;conv=>whnf
  repeat' ((first|apply Ap<;>intro _|apply An)<;>conv=>whnf)
  all_goals try first|exact⟨Bc⟩|exact⟨⟨by decide,by decide⟩⟩
  ·refine⟨?_⟩;refine(A0 ?_ (A0 ?_ (A0 ?_ (A0 ?_ (A0 ?_ (A0 ?_ (A0 ?_ (A0 ?_ (A0 ?_ (A0 ?_ (A0 ?_ A9)))))))))));all_goals(conv=>whnf)
   all_goals(repeat' (apply An<;>conv=>whnf))
   all_goals first
    |trivial
    |exact⟨⟨rfl,by decide⟩⟩
    |exact⟨fun _ _=>trivial⟩
  refine⟨⟨Mb e,Gz e⟩,⟨AE.tok (n:=11) ?_,trivial⟩,⟨Nw hw hok 4,Rd e,by have:=Lj hw hok;show(Gz e).by.length≤32768;omega,by show 11≤600;omega,rfl⟩,?_⟩
  ·refine(A0 ?_ (A0 ?_ (A0 ?_ (A0 ?_ (A0 ?_ (A0 ?_ (A0 ?_ (A0 ?_ (A0 ?_ (A0 ?_ (A0 ?_ A9)))))))))))
   ·exact .inl (Eq.trans rfl (Dh hw.2.2))
   ·exact .inl rfl
   ·exact .inl rfl
   ·exact .inr ⟨rfl,rfl⟩
   ·exact .inr ⟨rfl,rfl⟩
   ·exact .inr ⟨rfl,rfl⟩
   ·exact .inl (Eq.trans rfl (Dh hw.2.1))
   ·exact .inr ⟨rfl,rfl⟩
   ·exact .inl (Eq.trans rfl (Dh hw.1))
   ·exact .inr ⟨rfl,rfl⟩
   ·exact .inr ⟨rfl,rfl⟩
  intro r hr;replace hr:r=(Gz e).by:=hr
  rw[←hr];conv=>whnf
  repeat' ((first|apply Ap<;>intro _|apply An)<;>conv=>whnf)
  ·exact⟨fun _ _=>Bg _ _⟩
  ·exact Ld.refl _
 ·refine vj P9 ?_;conv=>whnf
  refine⟨1,rfl,⟨trivial⟩,?_⟩;conv=>whnf
  repeat' ((first|apply Ap<;>intro _|apply An)<;>conv=>whnf)
  all_goals try exact⟨Ib⟩
  refine⟨.fld 0 0 0 32 32,[some 1],?_⟩;conv=>whnf
  repeat' ((first|apply Ap<;>intro _|apply An)<;>conv=>whnf)
  all_goals try exact⟨Ib⟩
  refine⟨e.seq,rfl,⟨trivial⟩,?_⟩;conv=>whnf
  repeat' ((first|apply Ap<;>intro _|apply An)<;>conv=>whnf)
  all_goals try exact⟨Ib⟩
  refine⟨.fld 2 33 0 32 32,[some 1],?_⟩;conv=>whnf
  repeat' ((first|apply Ap<;>intro _|apply An)<;>conv=>whnf)
  all_goals try exact⟨Ib⟩
  refine⟨e.stamp,rfl,⟨trivial⟩,?_⟩;conv=>whnf
  repeat' ((first|apply Ap<;>intro _|apply An)<;>conv=>whnf)
  all_goals try exact⟨Ib⟩
  refine⟨3,rfl,⟨trivial⟩,?_⟩;conv=>whnf
  repeat' ((first|apply Ap<;>intro _|apply An)<;>conv=>whnf)
  all_goals try exact⟨Ib⟩
  refine⟨e.kind,rfl,⟨trivial⟩,?_⟩;conv=>whnf
  repeat' ((first|apply Ap<;>intro _|apply An)<;>conv=>whnf)
  all_goals try exact⟨Ib⟩
  refine⟨.imm false e.val.length (bf e.val),[],?_⟩;conv=>whnf
  repeat' ((first|apply Ap<;>intro _|apply An)<;>conv=>whnf)
  all_goals try first|exact⟨Bc⟩|exact⟨fun _ _=>rfl⟩|exact⟨trivial⟩
  refine Or.inl ?_;conv=>whnf
  repeat' ((first|apply Ap<;>intro _|apply An)<;>conv=>whnf)
  all_goals try first|exact⟨Bc⟩|exact⟨⟨by decide,by decide⟩⟩
  refine⟨.fld 5 69 0 64 64,[some 0],?_⟩;conv=>whnf
  repeat' ((first|apply Ap<;>intro _|apply An)<;>conv=>whnf)
  all_goals try exact⟨Ib⟩
  refine Or.inl ?_;conv=>whnf
  repeat' ((first|apply Ap<;>intro _|apply An)<;>conv=>whnf)
  all_goals try first|exact⟨Bc⟩|exact⟨⟨by decide,by decide⟩⟩
  ·refine⟨?_⟩;refine(A0 ?_ (A0 ?_ (A0 ?_ (A0 ?_ (A0 ?_ (A0 ?_ (A0 ?_ (A0 ?_ (A0 ?_ (A0 ?_ (A0 ?_ A9)))))))))));all_goals(conv=>whnf)
   all_goals(repeat' (apply An<;>conv=>whnf))
   all_goals first
    |trivial
    |exact⟨⟨rfl,by decide⟩⟩
    |exact⟨fun _ _=>trivial⟩
  refine⟨⟨Mb e,Gz e⟩,⟨AE.tok (n:=11) ?_,trivial⟩,⟨Nw hw hok 4,Rd e,by have:=Lj hw hok;show(Gz e).by.length≤32768;omega,by show 11≤600;omega,rfl⟩,?_⟩
  ·refine(A0 ?_ (A0 ?_ (A0 ?_ (A0 ?_ (A0 ?_ (A0 ?_ (A0 ?_ (A0 ?_ (A0 ?_ (A0 ?_ (A0 ?_ A9)))))))))))
   ·exact .inl (Eq.trans rfl (Dh hw.2.2))
   ·exact .inl rfl
   ·exact .inl rfl
   ·exact .inr ⟨rfl,rfl⟩
   ·exact .inr ⟨rfl,rfl⟩
   ·exact .inr ⟨rfl,rfl⟩
   ·exact .inl (Eq.trans rfl (Dh hw.2.1))
   ·exact .inr ⟨rfl,rfl⟩
   ·exact .inl (Eq.trans rfl (Dh hw.1))
   ·exact .inr ⟨rfl,rfl⟩
   ·exact .inr ⟨rfl,rfl⟩
  intro r hr;replace hr:r=(Gz e).by:=hr
  rw[←hr];conv=>whnf
  repeat' ((first|apply Ap<;>intro _|apply An)<;>conv=>whnf)
  ·exact⟨fun _ _=>Bg _ _⟩
  ·exact Ld.refl _
def F84:A7:=Bf (fun(a:UInt32×Int)=>[u32 a.1, .int .i64 a.2]) (fun _=>True) (fun a=>Gf a.1 (IntKind.i64.wrap (0 - a.2))) u32
def xP:A7:=Bf (fun(a:UInt32×Int)=>[u32 a.1, .int .i64 a.2]) (fun _=>True) (fun a=>Gf a.1 a.2) u32
theorem Xq:FOk Tryz.prog [] 118 xP:=Ge Mc
theorem oS:FOk Tryz.prog [] 75 F84:=A8 fun a _=>by
 have hΓ:=Ad Tryz.f75.ntmps _ _ (FL.all (.cons Xq .nil)) (HL.all .nil);refine Aw hΓ Tryz.func75 ?_;conv=>whnf
 repeat' ((first|apply Ap<;>intro _|apply An)<;>conv=>whnf)
 refine⟨(a.1,IntKind.i64.wrap (0 - a.2)),⟨AE.refl _,AE.refl _,trivial⟩,⟨trivial⟩,?_⟩;intro r hr;conv=>whnf
 repeat' ((first|apply Ap<;>intro _|apply An)<;>conv=>whnf)
 rw[hr];exact Ld.refl _
def F82:A7:=Bf (fun(a:Unit)=>[]) (fun _=>True) (fun _=>aO) (fun r=> .row 1 64 (wV (gw r)))
theorem oQ:FOk Tryz.prog [] 73 F82:=A8 fun a _=>by
 have hΓ:=Ad Tryz.f73.ntmps _ _ (FL.all .nil) (HL.all .nil);refine Aw hΓ Tryz.func73 ?_;conv=>whnf
 repeat' ((first|apply Ap<;>intro _|apply An)<;>conv=>whnf)
 ·refine⟨?_⟩;repeat(refine A0 trivial ?_)
  exact A9
 ·refine Ld.row ?_;repeat(refine A0 rfl ?_)
  exact A9
theorem F0{l:List UInt8}{c:UInt8}{m:List (Option Nat)}{F:Nat→V}(h1:∀k,k<l.length→F k=bf l k)(h2:F l.length= .int .u8 (c.toNat:Nat)):∀k,k<l.length+1→Da m (F k) (bf (l++[c]) k):=fun k hk=>A5 (by
 rcases Nat.lt_or_ge k l.length with h|h
 ·rw[h1 k h,Q5 _ _ h]
 ·obtain rfl:k=l.length:=by omega
  rw[h2,jJ]) trivial
def F83:A7:=Bf (fun(a:By)=>[a.v, .int .i64 64, .int .i64 8]) pR (fun a=>Cg a.l a.l.length) (Bl false)
theorem Tv{n i:Nat}(hn:n≤1000000)(hi:i<8):IntKind.u8.wrap (Bt .u64 (n*8:Nat) (IntKind.u64.wrap (8*IntKind.u64.wrap (7 - (i:Int)))))=((Vc n (7 - i)).toNat:Nat):=by
 have h3:(IntKind.u64.wrap (8*IntKind.u64.wrap (7 - (i:Int)))).toNat=8*(7 - i):=by rw[IntKind.wrap_u64,IntKind.wrap_u64];omega
 simp only[Bt,h3,IntKind.bits];rw[Nat.min_eq_left (by omega),Int.fdiv_eq_ediv_of_nonneg _ (by exact Int.le_of_lt (Int.pow_pos (by decide))),IntKind.wrap_u8,Vc,UInt8.toNat_ofNat']
 have:(((n*8:Nat):Int)/2^(8*(7 - i)))=((n*8/2^(8*(7 - i)):Nat):Int):=by simp
 rw[this];omega
theorem Gs(n:Nat):Ac n<64:=Nat.mod_lt _ (by decide)
theorem oR:FOk Tryz.prog [] 74 F83:=A8 fun a ⟨ha,hn⟩=>by
 refine CP.by1 ha ?_;generalize a.l=l at hn;generalize a.b=b;have hΓ:=Ad Tryz.f74.ntmps _ _ (FL.all .nil) (HL.all .nil);refine Aw hΓ Tryz.func74 ?_;conv=>whnf
 repeat' ((first|apply Ap<;>intro _|apply An)<;>conv=>whnf)
 all_goals try exact⟨Bc⟩
 refine Or.inl ?_;conv=>whnf
 repeat' ((first|apply Ap<;>intro _|apply An)<;>conv=>whnf)
 all_goals try first|exact⟨Bc⟩|exact⟨⟨by show l.length*1≤_;omega,by omega⟩⟩
 refine Or.inl ?_;conv=>whnf
 repeat' ((first|apply Ap<;>intro _|apply An)<;>conv=>whnf)
 ·exact⟨rfl⟩
 ·exact⟨⟨by show(l.length+1)*1≤_;omega,by omega⟩⟩
 have hz:=Gs l.length;refine A4 (ι:=Nat) (fun i=>[(0,Bl b l),(1, .int .i64 64),(2, .int .i64 8),(7, .sl 0 [] 1 0 (l.length+1+i) (l.length+1+i))]) (fun i=>[some (.row 1 (l.length+1+i) (bf (l++[128]++List.replicate i 0)))]) (fun i=>i≤Ac l.length) (fun i=>Ac l.length - i) 0 [some 2] ?_ (fun i hi=>vo hΓ ?_)
 ·conv=>whnf
  repeat' ((first|apply Ap<;>intro _|apply An)<;>conv=>whnf)
  all_goals try exact⟨Ah⟩
  ·refine⟨?_⟩;simp only[List.replicate_zero,List.append_nil];refine F0 (fun k hk=>?_) ?_
   ·refine(if_pos hk).trans ?_;rfl
   ·exact(if_neg (Nat.lt_irrefl _)).trans (by rw[Nat.sub_self];rfl)
 ·have hll:(l++[128]++List.replicate i 0).length=l.length+1+i:=by simp;omega
  have wl:IntKind.i64.wrap (((l.length+1+i:Nat):Int)+8)=((l.length+1+i+8:Nat):Int):=by rw[A3 (by omega) (by omega)];omega
  have wm:IntKind.i64.wrap (((l.length+1+i+8:Nat):Int).tmod 64)=(((l.length+1+i+8)%64:Nat):Int):=by rw[Int.tmod_eq_emod_of_nonneg (by omega),A3 (by omega) (by omega)];omega
  conv=>whnf
  repeat' ((first|apply Ap<;>intro _|apply An)<;>conv=>whnf)
  ·exact⟨by decide⟩
  ·exact⟨by omega⟩
  ·rename_i g1
   have hi2:i<Ac l.length:=by
    rcases Nat.lt_or_ge i (Ac l.length)with h|h
    ·exact h
    ·exfalso
     have:i=Ac l.length:=by omega
     rw[wl,Int.tmod_eq_emod_of_nonneg (by omega)]at g1;simp only[bne_iff_ne,ne_eq]at g1;simp only[Ac]at this;omega
   refine Or.inl ?_;conv=>whnf
   repeat' ((first|apply Ap<;>intro _|apply An)<;>conv=>whnf)
   all_goals try first|exact⟨Bc⟩|exact⟨⟨by show(l.length+1+i+1)*1≤_;omega,by omega⟩⟩
   refine⟨i+1,[some 2],?_⟩;conv=>whnf
   repeat' (apply An<;>conv=>whnf)
   all_goals try exact⟨Ah⟩
   ·refine⟨?_⟩
    show∀k,k<l.length+1+i+1→_
    rw[Fj,←List.append_assoc,←hll];refine F0 (fun k hk=>?_) ?_
    ·exact if_pos (by omega)
    ·exact(if_neg (by omega)).trans (by rw[hll,Nat.sub_self];rfl)
   all_goals exact⟨⟨by omega,by omega⟩⟩
  ·rename_i g1
   have hi2:i=Ac l.length:=by
    rw[wl,Int.tmod_eq_emod_of_nonneg (by omega)]at g1;simp only[bne_eq_false_iff_eq]at g1;have h:=hi;simp only[Ac]at h⊢;omega
   subst hi2;have hM:(Cg l l.length).length=l.length+1+Ac l.length+8:=Ck _ _;refine vo hΓ ?_;conv=>whnf
   refine A4 (ι:=Nat) (fun j=>[(7, .sl 0 [] 1 0 (l.length+1+Ac l.length+j) (l.length+1+Ac l.length+j)),(8, .int .u64 (l.length*8:Nat)),(9, .int .i64 (7 - (j:Nat)))]) (fun j=>[some (.row 1 (l.length+1+Ac l.length+j) (bf (l++[128]++List.replicate (Ac l.length) 0++G7 l.length j)))]) (fun j=>j≤8) (fun j=>8 - j) 0 [some 0] ?_ (fun i hi=>vo hΓ ?_)
   ·conv=>whnf
    repeat' ((first|apply Ap<;>intro _|apply An)<;>conv=>whnf)
    all_goals try exact⟨Ah⟩
    ·refine⟨?_⟩;rw[IntKind.wrap_u64,IntKind.wrap_u64];omega
    ·refine⟨fun k hk=>A5 ?_ trivial⟩;simp only[G7,List.append_nil]
   ·rename_i hi0;have hll2:(l++[128]++List.replicate (Ac l.length) 0++G7 l.length i).length=l.length+1+Ac l.length+i:=by simp[Co];omega
    conv=>whnf
    apply Ap<;>intro h1<;>conv=>whnf
    ·have hi8:i<8:=by
      have:(0:Int)≤7 - (i:Nat):=by simpa using h1
      omega
     conv=>whnf
     repeat' (first|(apply Ap<;>intro hp<;>first|(exfalso;revert hp;simp<;>omega;done)|conv=>whnf)|(apply An<;>conv=>whnf))
     ·exact⟨by rw[IntKind.wrap_u64];omega⟩
     ·exact⟨by omega⟩
     refine Or.inl ?_;conv=>whnf
     repeat' ((first|apply Ap<;>intro _|apply An)<;>conv=>whnf)
     all_goals try first|exact⟨Bc⟩|exact⟨⟨by show(l.length+1+Ac l.length+i+1)*1≤_;omega,by omega⟩⟩
     refine⟨i+1,[some 2],?_⟩;conv=>whnf
     repeat' (apply An<;>conv=>whnf)
     all_goals try exact⟨Ah⟩
     ·exact⟨by rw[A3 (by omega) (by omega)];omega⟩
     ·refine⟨?_⟩
      show∀k,k<l.length+1+Ac l.length+i+1→_
      simp only[G7];rw[←List.append_assoc,←hll2];refine F0 (fun k hk=>?_) ?_
      ·exact if_pos (by omega)
      ·refine(if_neg (by omega)).trans ?_;rw[hll2,Nat.sub_self]
       show V.int .u8 _=_
       rw[Tv hn hi8]
    ·have hi8:i=8:=by
      have:¬(0:Int)≤7 - (i:Nat):=by simpa using h1
      omega
     subst hi8;refine vo hΓ ?_;conv=>whnf
     repeat' (apply An<;>conv=>whnf)
     ·exact⟨by omega⟩
     ·exact⟨fun k _=>Bg _ _⟩
     ·rw[Bl,hM];exact Ld.imm fun k hk=>by rw[Nat.zero_add];rfl
theorem nQ(h:Nat→UInt32)(l m:List UInt8):Bq h (l++m)=Bq (Bq h l).1 ((Bq h l).2++m):=by
 induction h,l using Bq.induct with
 |case1 h l h1 ih=>
  have e1:Bq h (l++m)=Bq (Ho h (l.take 64)) (l.drop 64++m):=by
   rw[Bq.eq_1 h (l++m),if_pos (by simp;omega),List.take_append_of_le_length h1,List.drop_append_of_le_length h1]
  have e2:Bq h l=Bq (Ho h (l.take 64)) (l.drop 64):=by rw[Bq.eq_1 h l,if_pos h1]
  rw[e1,e2,ih]
 |case2 h l h1=>
  have e2:Bq h l=(h,l):=by rw[Bq.eq_1 h l,if_neg h1]
  rw[e2]
theorem jC(h:Nat→UInt32)(l:List UInt8):(Bq h l).2.length=l.length%64:=by
 induction h,l using Bq.induct with
 |case1 h l h1 ih=>
  rw[Bq.eq_1 h l,if_pos h1,ih,List.length_drop];omega
 |case2 h l h1=>
  rw[Bq.eq_1 h l,if_neg h1]
  show l.length=l.length%64
  omega
theorem Wo(l:List UInt8)(q:Nat)(hq:(Cg l l.length).length=64*q):sha l=Og (Hy (gw Jt) (Cg l l.length) q):=by
 rw[←Qc _ _ _ hq,sha,oZ]
 congr 2
 have h1:Cg l l.length=l++([128]++List.replicate (Ac l.length) 0++G7 l.length 8):=by simp[Cg,List.append_assoc]
 have h2:Cg (Bq (gw Jt) l).2 l.length=(Bq (gw Jt) l).2++([128]++List.replicate (Ac l.length) 0++G7 l.length 8):=by
  rw[Cg,jC,show Ac (l.length%64)=Ac l.length by simp only[Ac];omega];simp[List.append_assoc]
 rw[h1,h2,←nQ]
theorem Si(p:List UInt8):∀i k,i≤k→sp p i k=0
 |0,k,_=>rfl
 |i+1,k,h=>by
  simp only[sp];rw[if_neg (by omega)];exact Si p i k (by omega)
theorem Th(l:List UInt8)(c:UInt8):Fe (l++[c])=Fe l<<<8|||UInt32.ofNat c.toNat:=by
 simp[Fe]
theorem Uf(x:UInt32)(c:UInt8):Ag .or .u32 (Ch .u32 (x.toNat:Nat) 8) (IntKind.u32.wrap (c.toNat:Nat))=((x<<<8|||UInt32.ofNat c.toNat).toNat:Nat):=by
 have hc:=c.toNat_lt;have h1:(UInt32.ofNat c.toNat).toNat=c.toNat:=by rw[UInt32.toNat_ofNat'];omega
 rw[←ADe,←Zw,h1,IntKind.wrap_u32]
 congr 1
 omega
theorem Ti(P:List UInt8){i t m q:Nat}(hP:P.length=64*q)(hi:i<q)(hm:m<4)(ht:t<16):
  Fe ((((P.drop (64*i)).take 64).drop (4*t)).take (m+1))=Fe ((((P.drop (64*i)).take 64).drop (4*t)).take m)<<<8|||UInt32.ofNat (P.getD (64*i+4*t+m) 0).toNat:=by
 have hl:m<(((P.drop (64*i)).take 64).drop (4*t)).length:=by simp;omega
 rw[List.take_succ_eq_append_getElem hl,Th]
 congr 2
 have hl2:64*i+(4*t+m)<P.length:=by omega
 simp[List.getD_eq_getElem?_getD,hl2,Nat.add_assoc]
theorem ALn(a b c d:UInt32):a+b+c+d=a+c+b+d:=by rw[UInt32.add_assoc a b c,UInt32.add_comm b c,←UInt32.add_assoc]
theorem S8(l:List UInt8):(Cg l l.length).length=64*((Cg l l.length).length/64):=by
 rw[Ck];simp only[Ac];omega
def I5(P:List UInt8)(j:Nat):List UInt8:=(P.drop (64*j)).take 64
def F50:A7:=Bf (fun(a:By)=>[a.v]) pR (fun a=>sha a.l) (arrV 32)
set_option maxHeartbeats 4000000 in
theorem f50_ok:FOk Tryz.prog [] 34 F50:=A8 fun a ⟨ha,hn⟩=>by
 refine CP.by1 ha ?_;generalize a.l=l at hn;generalize a.b=b
 show CP _ _ _ [Bl b l] fun v=>Ld v (arrV 32 (sha l))
 obtain⟨q,hq⟩:∃q,(Cg l l.length).length=64*q:=⟨_,S8 l⟩;have hz:=Gs l.length;have hq2:q≤20000:=by rw[Ck]at hq;omega
 rw[Wo l q hq];have hΓ:=Ad Tryz.f34.ntmps _ _ (FL.all (.cons oQ (.cons oR (.cons oS .nil)))) (HL.all .nil);refine Aw hΓ Tryz.func34 ?_;conv=>whnf
 refine⟨(),trivial,⟨trivial⟩,?_⟩;intro kk hkk;replace hkk:kk=aO:=hkk;subst hkk;conv=>whnf
 repeat' ((first|apply Ap<;>intro _|apply An)<;>conv=>whnf)
 all_goals try exact⟨Ah⟩
 refine⟨.of b l,⟨AE.refl _,AE.refl _,AE.refl _,trivial⟩,⟨trivial,hn⟩,?_⟩;intro P hP;replace hP:P=Cg l l.length:=hP;rw[←hP]at hq⊢;conv=>whnf
 refine A4 (ι:=Nat) (fun j=>[(2, .ref 0 []),(3, .ref 1 []),(4, .ref 2 []),(5,Bl false P),(6, .int .i64 (64*j:Nat))]) (fun j=>[some (arrV 32 []),some (.row 1 64 (wV (gw aO))),some (.row 1 8 (wV (Hy (gw Jt) P j)))]) (fun j=>j≤q) (fun j=>q - j) 0 [some 0,some 1,some 2] ?_ (fun i hi=>vo hΓ ?_)
 ·conv=>whnf
  repeat' ((first|apply Ap<;>intro _|apply An)<;>conv=>whnf)
  all_goals try exact⟨Ba⟩
  ·exact⟨lt8 (A5 rfl trivial) (A5 rfl trivial) (A5 rfl trivial) (A5 rfl trivial) (A5 rfl trivial) (A5 rfl trivial) (A5 rfl trivial) (A5 rfl trivial)⟩
 conv=>whnf
 apply Ap<;>intro h1<;>conv=>whnf
 ·have hj:i<q:=by
   have:((64*i:Nat):Int)<(P.length:Nat):=by simpa using h1
   omega
  refine A4 (ι:=Nat) (fun t=>[(2, .ref 0 []),(3, .ref 1 []),(4, .ref 2 []),(5,Bl false P),(6, .int .i64 (64*i:Nat)),(7, .ref 3 []),(8, .int .i64 (t:Nat))]) (fun t=>[some (arrV 32 []),some (.row 1 64 (wV (gw aO))),some (.row 1 8 (wV (Hy (gw Jt) P i))),some (.row 1 64 (wV (sp (I5 P i) t)))]) (fun t=>t≤64) (fun t=>64 - t) 0 [some 0,some 1,some 2,some 3] ?_ (fun t ht=>vo hΓ ?_)
  ·conv=>whnf
   repeat' ((first|apply Ap<;>intro _|apply An)<;>conv=>whnf)
   all_goals try exact⟨Ba⟩
  ·conv=>whnf
   apply Ap<;>intro h2<;>conv=>whnf
   ·have ht2:t<64:=by
     have:((t:Nat):Int)<64:=of_decide_eq_true h2
     omega
    conv=>whnf
    apply Ap<;>intro h3<;>conv=>whnf
    ·have ht3:t<16:=by
      have:((t:Nat):Int)<16:=of_decide_eq_true h3
      omega
     refine A4 (ι:=Nat) (fun m=>[(2, .ref 0 []),(3, .ref 1 []),(4, .ref 2 []),(5,Bl false P),(6, .int .i64 (64*i:Nat)),(7, .ref 3 []),(8, .int .i64 (t:Nat)),(9, .int .i64 (m:Nat))]) (fun m=>[some (arrV 32 []),some (.row 1 64 (wV (gw aO))),some (.row 1 8 (wV (Hy (gw Jt) P i))),some (.row 1 64 (wV fun k=>if k=t then Fe (((I5 P i).drop (4*t)).take m)else sp (I5 P i) t k))]) (fun m=>m≤4) (fun m=>4 - m) 0 [some 0,some 1,some 2,some 3] ?_ (fun m hm=>vo hΓ ?_)
     ·conv=>whnf
      repeat' ((first|apply Ap<;>intro _|apply An)<;>conv=>whnf)
      all_goals try first|exact⟨Bc⟩|exact⟨fun _ _=>rfl⟩
      ·refine⟨fun k _=>A5 ?_ trivial⟩
       show u32 (sp (I5 P i) t k)=u32 (if k=t then Fe (((I5 P i).drop (4*t)).take 0)else sp (I5 P i) t k)
       by_cases hkt:k=t
       ·rw[if_pos hkt,hkt,Si _ _ _ (Nat.le_refl _)];rfl
       ·rw[if_neg hkt]
     ·have hidx:m<4→IntKind.i64.wrap (IntKind.i64.wrap (((64*i:Nat):Int)+IntKind.i64.wrap (4*(t:Nat)))+(m:Nat))=((64*i+4*t+m:Nat):Int):=fun hm4=>by
       rw[A3 (x:=4*((t:Nat):Int)) (by omega) (by omega),A3 (x:=((64*i:Nat):Int)+4*(t:Nat)) (by omega) (by omega),A3 (by omega) (by omega)];omega
      conv=>whnf
      apply Ap<;>intro h4<;>conv=>whnf
      ·have hm4:m<4:=by
        have:((m:Nat):Int)<4:=of_decide_eq_true h4
        omega
       replace hidx:=hidx hm4;conv=>whnf
       repeat' ((first|apply Ap<;>intro _|apply An)<;>conv=>whnf)
       ·exact⟨by omega⟩
       ·exact⟨by omega⟩
       ·exact⟨by decide⟩
       ·exact⟨by rw[hidx];omega⟩
       ·exact⟨by omega⟩
       ·exact⟨by omega⟩
       refine⟨m+1,[some 0,some 1,some 2,some 3],?_⟩;conv=>whnf
       repeat' (apply An<;>conv=>whnf)
       all_goals try first|exact⟨Ba⟩|exact⟨by rw[A3 (by omega) (by omega)];rfl⟩
       refine⟨fun k hk=>A5 ?_ trivial⟩
       by_cases hkt:k=t
       ·refine(if_pos hkt).trans ?_
        show V.int .u32 (Ag .or .u32 (Ch .u32 (((if t=t then Fe (((I5 P i).drop (4*t)).take m)else sp (I5 P i) t t).toNat:Nat):Int) 8) (IntKind.u32.wrap (((P.getD (IntKind.i64.wrap (IntKind.i64.wrap (((64*i:Nat):Int)+IntKind.i64.wrap (4*(t:Nat)))+(m:Nat))).toNat 0).toNat:Nat):Int)))=u32 (if k=t then Fe (((I5 P i).drop (4*t)).take (m+1))else sp (I5 P i) t k)
        rw[if_pos rfl,if_pos hkt,hidx,Int.toNat_natCast,show Fe (((I5 P i).drop (4*t)).take (m+1))=_ from Ti P hq hj hm4 ht3];exact congrArg (V.int .u32) (Uf _ _)
       ·refine(if_neg hkt).trans ?_
        show u32 (if k=t then Fe (((I5 P i).drop (4*t)).take m)else sp (I5 P i) t k)=u32 (if k=t then Fe (((I5 P i).drop (4*t)).take (m+1))else sp (I5 P i) t k)
        rw[if_neg hkt,if_neg hkt]
      ·have hm4:m=4:=by
        have:¬((m:Nat):Int)<4:=of_decide_eq_false h4
        omega
       subst hm4;refine vo hΓ ?_;conv=>whnf
       refine vo hΓ ?_;conv=>whnf
       refine⟨t+1,[some 0,some 1,some 2,some 3],?_⟩;conv=>whnf
       repeat' (apply An<;>conv=>whnf)
       all_goals try first|exact⟨Ba⟩|exact⟨by rw[A3 (by omega) (by omega)];rfl⟩
       refine⟨fun k hk=>A5 ?_ trivial⟩
       show u32 (if k=t then Fe (((I5 P i).drop (4*t)).take 4)else sp (I5 P i) t k)=u32 (sp (I5 P i) (t+1) k)
       simp only[sp]
       by_cases hkt:k=t
       ·rw[if_pos hkt,if_pos hkt,if_pos ht3]
       ·rw[if_neg hkt,if_neg hkt]
    ·have ht3:¬t<16:=by
      have:¬((t:Nat):Int)<16:=of_decide_eq_false h3
      omega
     have e2:IntKind.i64.wrap ((t:Int) - 2)=((t - 2:Nat):Int):=by rw[IntKind.wrap_i64];omega
     have e7:IntKind.i64.wrap ((t:Int) - 7)=((t - 7:Nat):Int):=by rw[IntKind.wrap_i64];omega
     have e15:IntKind.i64.wrap ((t:Int) - 15)=((t - 15:Nat):Int):=by rw[IntKind.wrap_i64];omega
     have e16:IntKind.i64.wrap ((t:Int) - 16)=((t - 16:Nat):Int):=by rw[IntKind.wrap_i64];omega
     conv=>whnf
     repeat' ((first|apply Ap<;>intro _|apply An)<;>conv=>whnf)
     all_goals try exact⟨by rw[e15];omega⟩
     all_goals try exact⟨by rw[e2];omega⟩
     all_goals try exact⟨by omega⟩
     refine⟨(_,7),⟨AE.refl _,AE.refl _,trivial⟩,⟨trivial⟩,?_⟩;intro r1 g1;conv=>whnf
     repeat' ((first|apply Ap<;>intro _|apply An)<;>conv=>whnf)
     all_goals try exact⟨by omega⟩
     refine⟨(_,18),⟨AE.refl _,AE.refl _,trivial⟩,⟨trivial⟩,?_⟩;intro r2 g2;conv=>whnf
     repeat' ((first|apply Ap<;>intro _|apply An)<;>conv=>whnf)
     all_goals try exact⟨by omega⟩
     refine⟨(_,17),⟨AE.refl _,AE.refl _,trivial⟩,⟨trivial⟩,?_⟩;intro r3 g3;conv=>whnf
     repeat' ((first|apply Ap<;>intro _|apply An)<;>conv=>whnf)
     all_goals try exact⟨by omega⟩
     refine⟨(_,19),⟨AE.refl _,AE.refl _,trivial⟩,⟨trivial⟩,?_⟩;intro r4 g4;conv=>whnf
     repeat' ((first|apply Ap<;>intro _|apply An)<;>conv=>whnf)
     all_goals try exact⟨by omega⟩
     refine⟨t+1,[some 0,some 1,some 2,some 3],?_⟩;conv=>whnf
     repeat' (apply An<;>conv=>whnf)
     all_goals try first|exact⟨Ba⟩|exact⟨by rw[A3 (by omega) (by omega)];rfl⟩
     refine⟨fun k hk=>A5 ?_ trivial⟩
     by_cases hki:k=t
     ·refine(if_pos hki).trans ?_
      show V.int .u32 _=u32 (sp (I5 P i) (t+1) k)
      simp only[P2,ADf,uP,Ly,u32];refine congrArg (fun x:UInt32=>V.int .u32 (x.toNat:Nat)) ?_;simp only[e2,e15,Int.toNat_natCast]at g1 g2 g3 g4;simp only[sp,if_pos hki,if_neg ht3,lP,g1,g2,g3,g4,e2,e7,e15,e16,Int.toNat_natCast];exact ALn _ _ _ _
     ·refine(if_neg hki).trans ?_
      show u32 (sp (I5 P i) t k)=u32 (sp (I5 P i) (t+1) k)
      simp only[sp,if_neg hki]
   ·have ht2:t=64:=by
     have:¬((t:Nat):Int)<64:=of_decide_eq_false h2
     omega
    subst ht2;refine vo hΓ ?_;conv=>whnf
    refine A4 (ι:=Nat) (fun t=>[(2, .ref 0 []),(3, .ref 1 []),(4, .ref 2 []),(5,Bl false P),(6, .int .i64 (64*i:Nat)),(7, .ref 3 []),(12, .ref 4 []),(13, .int .i64 (t:Nat))]) (fun t=>[some (arrV 32 []),some (.row 1 64 (wV (gw aO))),some (.row 1 8 (wV (Hy (gw Jt) P i))),some (.row 1 64 (wV (sp (I5 P i) 64))),some (.row 1 8 (wV (wS (sp (I5 P i) 64) (Hy (gw Jt) P i) t)))]) (fun t=>t≤64) (fun t=>64 - t) 0 [some 0,some 1,some 2,some 3,some 4] ?_ (fun t ht=>vo hΓ ?_)
    ·conv=>whnf
     repeat' ((first|apply Ap<;>intro _|apply An)<;>conv=>whnf)
     all_goals try exact⟨Ba⟩
    ·conv=>whnf
     apply Ap<;>intro h5<;>conv=>whnf
     ·have ht5:t<64:=by
       have:((t:Nat):Int)<64:=of_decide_eq_true h5
       omega
      conv=>whnf
      repeat' ((first|apply Ap<;>intro _|apply An)<;>conv=>whnf)
      all_goals try exact⟨by omega⟩
      refine⟨(_,6),⟨AE.refl _,AE.refl _,trivial⟩,⟨trivial⟩,?_⟩;intro r1 g1;conv=>whnf
      repeat' ((first|apply Ap<;>intro _|apply An)<;>conv=>whnf)
      all_goals try exact⟨by omega⟩
      refine⟨(_,11),⟨AE.refl _,AE.refl _,trivial⟩,⟨trivial⟩,?_⟩;intro r2 g2;conv=>whnf
      repeat' ((first|apply Ap<;>intro _|apply An)<;>conv=>whnf)
      all_goals try exact⟨by omega⟩
      refine⟨(_,25),⟨AE.refl _,AE.refl _,trivial⟩,⟨trivial⟩,?_⟩;intro r3 g3;conv=>whnf
      repeat' ((first|apply Ap<;>intro _|apply An)<;>conv=>whnf)
      all_goals try exact⟨by omega⟩
      refine⟨(_,2),⟨AE.refl _,AE.refl _,trivial⟩,⟨trivial⟩,?_⟩;intro r4 g4;conv=>whnf
      repeat' ((first|apply Ap<;>intro _|apply An)<;>conv=>whnf)
      all_goals try exact⟨by omega⟩
      refine⟨(_,13),⟨AE.refl _,AE.refl _,trivial⟩,⟨trivial⟩,?_⟩;intro r5 g5;conv=>whnf
      repeat' ((first|apply Ap<;>intro _|apply An)<;>conv=>whnf)
      all_goals try exact⟨by omega⟩
      refine⟨(_,22),⟨AE.refl _,AE.refl _,trivial⟩,⟨trivial⟩,?_⟩;intro r6 g6;conv=>whnf
      repeat' ((first|apply Ap<;>intro _|apply An)<;>conv=>whnf)
      all_goals try exact⟨by omega⟩
      refine⟨t+1,[some 0,some 1,some 2,some 3,some 4],?_⟩;conv=>whnf
      repeat' (apply An<;>conv=>whnf)
      all_goals try first|exact⟨Ba⟩|exact⟨by rw[A3 (by omega) (by omega)];rfl⟩
      refine⟨lt8 ?_ ?_ ?_ ?_ ?_ ?_ ?_ ?_⟩;all_goals refine A5 ?_ trivial
      all_goals show V.int .u32 _=V.int .u32 _
      all_goals(try simp only[P2,mZ,Zv,Ly])
      ·simp only[g1,g2,g3,g4,g5,g6];exact rfl
      ·exact rfl
      ·exact rfl
      ·exact rfl
      ·simp only[g1,g2,g3];exact rfl
      ·exact rfl
      ·exact rfl
      ·exact rfl
     ·have ht5:t=64:=by
       have:¬((t:Nat):Int)<64:=of_decide_eq_false h5
       omega
      subst ht5;refine vo hΓ ?_;conv=>whnf
      refine A4 (ι:=Nat) (fun t=>[(2, .ref 0 []),(3, .ref 1 []),(4, .ref 2 []),(5,Bl false P),(6, .int .i64 (64*i:Nat)),(12, .ref 3 []),(18, .int .i64 (t:Nat))]) (fun t=>[some (arrV 32 []),some (.row 1 64 (wV (gw aO))),some (.row 1 8 (wV fun k=>if k<t then Ho (Hy (gw Jt) P i) (I5 P i) k else Hy (gw Jt) P i k)),some (.row 1 8 (wV (wS (sp (I5 P i) 64) (Hy (gw Jt) P i) 64)))]) (fun t=>t≤8) (fun t=>8 - t) 0 [some 0,some 1,some 2,some 4] ?_ (fun t ht=>vo hΓ ?_)
      ·conv=>whnf
       repeat' ((first|apply Ap<;>intro _|apply An)<;>conv=>whnf)
       all_goals try exact⟨Ba⟩
      ·conv=>whnf
       apply Ap<;>intro h6<;>conv=>whnf
       ·have ht6:t<8:=by
         have:((t:Nat):Int)<8:=of_decide_eq_true h6
         omega
        conv=>whnf
        repeat' ((first|apply Ap<;>intro _|apply An)<;>conv=>whnf)
        all_goals try exact⟨by omega⟩
        refine⟨t+1,[some 0,some 1,some 2,some 3],?_⟩;conv=>whnf
        repeat' (apply An<;>conv=>whnf)
        all_goals try first|exact⟨Ba⟩|exact⟨by rw[A3 (by omega) (by omega)];rfl⟩
        refine⟨fun k hk=>A5 ?_ trivial⟩
        by_cases hki:k=t
        ·refine(if_pos hki).trans ?_
         show V.int .u32 _=_
         simp only[Ly,Int.toNat_natCast,if_neg (Nat.lt_irrefl t),wV,if_pos (show k<t+1 by omega)];subst hki;rfl
        ·refine(if_neg hki).trans ?_;simp only[wV]
         by_cases h2:k<t
         ·rw[if_pos h2,if_pos (by omega)]
         ·rw[if_neg h2,if_neg (by omega)]
       ·have ht6:t=8:=by
         have:¬((t:Nat):Int)<8:=of_decide_eq_false h6
         omega
        subst ht6;refine vo hΓ ?_;conv=>whnf
        refine⟨i+1,[some 0,some 1,some 2],?_⟩;conv=>whnf
        repeat' (apply An<;>conv=>whnf)
        all_goals try first|exact⟨Ba⟩|exact⟨by rw[A3 (by omega) (by omega)];omega⟩
        refine⟨fun k hk=>A5 ?_ trivial⟩
        show u32 (if k<8 then Ho (Hy (gw Jt) P i) (I5 P i) k else Hy (gw Jt) P i k)=u32 (Hy (gw Jt) P (i+1) k)
        rw[if_pos hk];rfl
 ·have hj:i=q:=by
   have:¬((64*i:Nat):Int)<(P.length:Nat):=by simpa using h1
   omega
  subst hj;refine vo hΓ ?_;conv=>whnf
  refine A4 (ι:=Nat) (fun j=>[(2, .ref 0 []),(4, .ref 1 []),(19, .ref 2 []),(20, .int .i64 (j:Nat))]) (fun j=>[some (arrV 32 []),some (.row 1 8 (wV (Hy (gw Jt) P i))),some (.row 1 32 (fun k=> .int .u8 ((ob (Hy (gw Jt) P i) j k).toNat:Nat)))]) (fun j=>j≤32) (fun j=>32 - j) 0 [some 0,some 2,some 3] ?_ (fun j hj=>vo hΓ ?_)
  ·conv=>whnf
   repeat' ((first|apply Ap<;>intro _|apply An)<;>conv=>whnf)
   all_goals try exact⟨Ba⟩
  ·conv=>whnf
   apply Ap<;>intro h2<;>conv=>whnf
   ·have hj2:j<32:=by
     have:((j:Nat):Int)<32:=of_decide_eq_true h2
     omega
    have t1:IntKind.i64.wrap ((j:Int).tdiv 4)=((j/4:Nat):Int):=by rw[Int.tdiv_eq_ediv_of_nonneg (by omega),A3 (by omega) (by omega)];omega
    have t2:IntKind.u64.wrap (IntKind.i64.wrap (24 - IntKind.i64.wrap (8*(j:Int).tmod 4)))=((24 - 8*(j%4):Nat):Int):=by
     rw[Int.tmod_eq_emod_of_nonneg (by omega),A3 (x:=8*_) (by omega) (by omega),A3 (by omega) (by omega),IntKind.wrap_u64];omega
    conv=>whnf
    repeat' ((first|apply Ap<;>intro _|apply An)<;>conv=>whnf)
    all_goals try exact⟨by omega⟩
    all_goals try exact⟨by decide⟩
    all_goals try exact⟨by rw[t1];omega⟩
    all_goals try exact⟨by rw[t2];omega⟩
    refine⟨j+1,[some 0,some 1,some 2],?_⟩;conv=>whnf
    repeat' (apply An<;>conv=>whnf)
    all_goals try first|exact⟨Ba⟩|exact⟨by rw[A3 (by omega) (by omega)];rfl⟩
    refine⟨fun k hk=>A5 ?_ trivial⟩
    by_cases hki:k=j
    ·refine(if_pos hki).trans ?_
     show V.int .u8 _=V.int .u8 ((ob (Hy (gw Jt) P i) (j+1) k).toNat:Nat)
     rw[t1,t2,Int.toNat_natCast,Q8 _ _ (by omega),hki,ob,if_pos (by omega),Vd,UInt8.toNat_ofNat',IntKind.wrap_u8]
     congr 1
    ·refine(if_neg hki).trans ?_;simp only[ob]
     by_cases hk2:k<j
     ·rw[if_pos hk2,if_pos (by omega)]
     ·rw[if_neg hk2,if_neg (by omega)]
   ·have hj2:j=32:=by
     have:¬((j:Nat):Int)<32:=of_decide_eq_false h2
     omega
    subst hj2;refine vo hΓ ?_;conv=>whnf
    repeat' (apply An<;>conv=>whnf)
    ·exact⟨fun k _=>trivial⟩
    refine Ld.row fun k hk=>?_;rw[Ps _ hk,ob,if_pos (by omega)]
theorem R8(a b:List UInt8):Ct a b=Lib.compareBytes a b:=Lib.cmp_eq _ _
theorem Xi:Ct [] []=0:=by rw[R8];rfl
theorem Pe(a b:UInt8)(l m:List UInt8):Ct (a::l) (b::m)=if a<b then -1 else if b<a then 1 else Ct l m:=by rw[R8,R8];rfl
theorem Vq(b:UInt8)(m:List UInt8):Ct [] (b::m)= -1:=by rw[R8];rfl
theorem Pc(b:UInt8)(m:List UInt8):Ct (b::m) []=1:=by rw[R8];rfl
theorem Jd:∀{a b:List UInt8},Ct a b=0↔a=b
 |[],[]=>by simp[Xi]
 |[],b::m=>by simp[Vq]
 |a::l,[]=>by simp[Pc]
 |a::l,b::m=>by
  rw[Pe];have ih:=Jd (a:=l) (b:=m);simp only[UInt8.lt_iff_toNat_lt]
  constructor
  ·intro h
   split at h
   ·cases h
   ·split at h
    ·cases h
    ·rw[ih.1 h,UInt8.toNat_inj.1 (show a.toNat=b.toNat by omega)]
  ·intro h
   cases h
   rw[if_neg (Nat.lt_irrefl _),if_neg (Nat.lt_irrefl _)];exact ih.2 rfl
theorem bN:∀a b:List UInt8,Ct b a= - Ct a b
 |[],[]=>by simp[Xi]
 |[],b::m=>by simp[Vq,Pc]
 |a::l,[]=>by simp[Pc,Vq]
 |a::l,b::m=>by
  rw[Pe,Pe];have ih:=bN l m;simp only[UInt8.lt_iff_toNat_lt]
  split
  ·first|(rw[if_neg (by omega)];done)|(rw[if_neg (by omega)];rfl)
  ·split
   ·rfl
   ·exact ih
theorem Xj:∀{a b c:List UInt8},Ct a b<0→Ct b c<0→Ct a c<0
 |[],[],_,h,_=>by rw[Xi]at h;omega
 |_::_,[],_,h,_=>by rw[Pc]at h;omega
 |[],_::_,[],_,h=>by rw[Pc]at h;omega
 |_::_,_::_,[],_,h=>by rw[Pc]at h;omega
 |[],_::_,_::_,_,_=>by rw[Vq];omega
 |a::l,b::m,c::n,h1,h2=>by
  rw[Pe]at h1 h2⊢;simp only[UInt8.lt_iff_toNat_lt]at h1 h2⊢
  split at h1
  ·split at h2
   ·rw[if_pos (by omega)];omega
   ·split at h2
    ·omega
    ·rw[if_pos (by omega)];omega
  ·split at h1
   ·omega
   ·split at h2
    ·rw[if_pos (by omega)];omega
    ·split at h2
     ·omega
     ·rw[if_neg (by omega),if_neg (by omega)];exact Xj h1 h2
theorem fH{e:Bw}(hw:iQ e):(I6 e).2=0↔Al e=true:=by
 constructor
 ·intro h;unfold I6 at h
  split at h
  ·assumption
  ·cases h
 ·intro h;rw[Vt hw h]
theorem ABe{e:Bw}(hw:iQ e):(W9 e).2=0↔Al e=true:=by
 rw[←fH hw,W9]
 split
 ·rename_i h;simp[h]
 ·rfl
def F75:A7:=Bf (fun(e:Bw)=>[Ak e]) (fun e=>Cy e∧Al e=true) (fun e=>(W9 e).1) (arrV 32)
theorem AMt:FOk Tryz.prog G 55 F75:=A8 fun e ⟨he,hok⟩=>by
 have h1:=Vt he.1 hok;have h2:=Lj he.1 hok;have hΓ:=Ab Tryz.f55.ntmps _ _ [] (.cons (sB) (.cons (f50_ok.g) .nil)) .nil;refine Aw hΓ Tryz.func55 ?_;conv=>whnf
 repeat' ((first|apply Ap<;>intro _|apply An)<;>conv=>whnf)
 all_goals try exact⟨Ah⟩
 refine⟨e,⟨AE.refl _,trivial⟩,⟨he,hok⟩,?_⟩;intro r hr;replace hr:r=(Gz e).by:=hr
 conv=>whnf
 repeat' ((first|apply Ap<;>intro _|apply An)<;>conv=>whnf)
 refine⟨.of _ _,⟨AE.refl _,trivial⟩,⟨trivial,by show r.length≤1000000;rw[hr];omega⟩,?_⟩;intro w hw;replace hw:w=sha r:=hw;conv=>whnf
 repeat' ((first|apply Ap<;>intro _|apply An)<;>conv=>whnf)
 all_goals try exact⟨Ah⟩
 rw[show(W9 e).1=w by rw[W9,h1,hw,hr];rfl];exact Ld.refl _
def Uu(f:Fd):Int×List UInt8:=if f.n=0 then(0,Kb)else((f.n:Nat),(W9 (f.es (f.n - 1))).1)
def F47:A7:=Bf (fun(f:Fd)=>[Fl f]) (fun f=>G9 f∧f.n≤1000000∧(∀k,k<f.n→Al (f.es k)=true)) Uu (fun r=> .tup (.cons (.int .i64 r.1) (.cons (arrV 32 r.2) .nil)))
theorem AMi:FOk Tryz.prog G 119 F47:=A8 fun f ⟨hf,hn,he⟩=>by
 have hΓ:=Ab Tryz.f119.ntmps _ _ [] (.cons (AMt) .nil) .nil;refine Aw hΓ Tryz.func119 ?_;conv=>whnf
 apply Ap<;>intro h1<;>conv=>whnf
 ·have h2:f.n=0:=by
   simp only[beq_iff_eq]at h1;omega
  rw[Uu,if_pos h2];conv=>whnf
  repeat' ((first|apply Ap<;>intro _|apply An)<;>conv=>whnf)
  ·exact⟨fun _ _=>trivial⟩
  refine Ld.of ?_;refine congrArg (fun g=>V.tup (.cons (.int .i64 0) (.cons (.row 1 32 g) .nil))) ?_;exact funext fun k=>(Cz 32 k).symm
 ·have h2:¬f.n=0:=by
   simp only[beq_eq_false_iff_ne,ne_eq]at h1;omega
  have e0:IntKind.i64.wrap ((f.n:Int) - 1)=((f.n - 1:Nat):Int):=by rw[A3 (by omega) (by omega)];omega
  rw[Uu,if_neg h2];conv=>whnf
  repeat' ((first|apply Ap<;>intro _|apply An)<;>conv=>whnf)
  ·exact⟨by rw[e0];omega⟩
  ·exact⟨fun _ _=>trivial⟩
  ·exact⟨fun _ _=>trivial⟩
  ·exact⟨fun _ _=>trivial⟩
  rw[e0,Int.toNat_natCast];refine⟨f.es (f.n - 1),⟨AE.refl _,trivial⟩,⟨hf.2.1 _ (by omega),he _ (by omega)⟩,?_⟩;intro r hr;conv=>whnf
  repeat' ((first|apply Ap<;>intro _|apply An)<;>conv=>whnf)
  all_goals try exact⟨Ah⟩
  rw[hr];exact Ld.refl _
def Il:Bw:=⟨Kb,0,Kb,0,0,[],[],List.replicate 64 0⟩
theorem Sp:iQ Il:=⟨by simp[Il,Kb],by simp[Il,Kb],by simp[Il]⟩
def zV:V:= .st (.cons (.row 1 32 fun _=> .int .u8 0) (.cons (.int .i64 0) (.cons (.row 1 32 fun _=> .int .u8 0) (.cons (.int .i64 0) (.cons (.st (.cons (.int .i64 0) (.cons (.str []) (.cons .emp .nil)))) (.cons (.row 1 64 fun _=> .int .u8 0) .nil))))))
theorem iY:Cm zV (Ak Il):=by
 refine Qz.st (.cons (Cm.row fun k _=>(Cz 32 k).symm) (.cons (Cm.refl _) (.cons (Cm.row fun k _=>(Cz 32 k).symm) (.cons (Cm.refl _) (.cons ?_ (.cons (Cm.row fun k _=>(Cz 64 k).symm) .nil))))));exact Qz.st (.cons (Cm.refl _) (.cons (Cm.refl _) (.cons Cm.emp .nil)))
end Go.Proofs.YtaihjcpfjgpmoaaGreatDoor
