/- ModelPuts: for any arguments (kind, seed, authors, entries, operations, key) the call returns true and leaves its arguments as they were, where the two package variables hold what the program's text lays there. No other condition. -/
import Derived.Test.YtaihjcpfjgpmoaaGreatDoorTie
import Derived.Test.YtaihjcpfjgpmoaaGreatDoorCards
import Derived.Test.YtaihjcpfjgpmoaaGreatDoorNK
import Derived.Test.YtaihjcpfjgpmoaaGreatDoorL
set_option linter.unusedVariables false
set_option linter.unusedSimpArgs false
set_option maxRecDepth 100000
namespace Go.Proofs.YtaihjcpfjgpmoaaGreatDoor.modelPuts
open Go.ChangeShapes Go.WideShapes Go.ChangeAt Go.RowKit
set_option maxRecDepth 100000
theorem ANc(os:Os)(started:os.Started)(H:Type)(enc:TypeId×Value→H):
  ReturnsInHanded {} Tryz.checked os 5 .any (fun w args=>(Rows.modelPutsSpec.pre enc Tryz.prog Tryz.f5 [] false w args∧laidMetH Tryz.prog Ru w)∧sizedMet enc Tryz.prog Tryz.f5 (OpenSpec.ofChange Rows.modelPutsSpec) false w args)
   (Rows.modelPutsSpec.post enc Tryz.prog Tryz.f5 false true false false):=by
 refine returnsInHanded_of_change_and (C:=Tryz.checked) (X:=fun w _=>laidMetH Tryz.prog Ru w) (fun _ _ _ hh h=>h.of_heap hh) own started (by kernel_rfl) Tryz.func5
  (ChangeSpec.witness_shaped (enc:=enc) (C:=Tryz.checked) (os:=os) (X:=fun w _=>laidMetH Tryz.prog Ru w) false (World.laidAll Tryz.prog os Ru) #[.int .i64 0, .agg (Array.replicate 32 (.int .u8 0)), .slice none 0 0, .slice none 0 0, .slice none 0 0, .string ByteArray.empty] 8 (World.laidAll_os _ _ _)
    (pI os _) (by kernel_rfl) (by kernel_rfl) (by kernel_rfl) (ABh os _)) ?_
 intro W base args ds gs before hval0 hW _ _ hL _;have hval:∀(j:Nat) t v,Tryz.f5.params[j]?=some t→args[j]?=some v→Value.okWide Tryz.prog W .any base t v:=hval0;have hW':=hW;obtain⟨p,q,hA0,hV,rfl,_,_⟩:=hW;have hA:DataW.TrodAll enc Tryz.prog W 0 (fun _=>true) true Tryz.f5.params.toList args.toList ds p:=hA0;rw[Tryz.params5]at hA hval;obtain⟨v0,vs0,d0,ds0,p0,q0,hargs,rfl,rfl,h0,r0⟩:=trodAll_cons hA;obtain⟨v1,vs1,d1,ds1,p1,q1,rfl,rfl,rfl,h1,r1⟩:=trodAll_cons r0;obtain⟨v2,vs2,d2,ds2,p2,q2,rfl,rfl,rfl,h2,r2⟩:=trodAll_cons r1;obtain⟨v3,vs3,d3,ds3,p3,q3,rfl,rfl,rfl,h3,r3⟩:=trodAll_cons r2;obtain⟨v4,vs4,d4,ds4,p4,q4,rfl,rfl,rfl,h4,r4⟩:=trodAll_cons r3;obtain⟨v5,vs5,d5,ds5,p5,q5,rfl,rfl,rfl,h5,r5⟩:=trodAll_cons r4;obtain⟨rfl,rfl,rfl⟩:=trodAll_nil r5;obtain rfl:args=#[v0,v1,v2,v3,v4,v5]:=by cases args;simp_all
 obtain⟨rfl,rfl⟩:=trodVars_none hV;have lt0:∀x∈p0,x.block<W.heap.size:=by obtain⟨m,hm⟩:=h0;exact DataW.trod_lt m _ _ _ hm
 have lt1:∀x∈p1,x.block<W.heap.size:=by obtain⟨m,hm⟩:=h1;exact DataW.trod_lt m _ _ _ hm
 have lt2:∀x∈p2,x.block<W.heap.size:=by obtain⟨m,hm⟩:=h2;exact DataW.trod_lt m _ _ _ hm
 have lt3:∀x∈p3,x.block<W.heap.size:=by obtain⟨m,hm⟩:=h3;exact DataW.trod_lt m _ _ _ hm
 have lt4:∀x∈p4,x.block<W.heap.size:=by obtain⟨m,hm⟩:=h4;exact DataW.trod_lt m _ _ _ hm
 have lt5:∀x∈p5,x.block<W.heap.size:=by obtain⟨m,hm⟩:=h5;exact DataW.trod_lt m _ _ _ hm
 obtain⟨a0,t0,y0⟩:=DD.arg_int Tryz.underlying3 (hval 0 3 v0 rfl rfl) h0;obtain⟨a1,t1,y1⟩:=lU (hval 1 25 v1 rfl rfl) h1;obtain⟨n2,a2,t2,y2⟩:=wL (hval 2 44 v2 rfl rfl) h2;obtain⟨n3,a3,t3,y3⟩:=wK (hval 3 35 v3 rfl rfl) h3;obtain⟨n4,a4,t4⟩:=AC4 (hval 4 45 v4 rfl rfl) h4;obtain⟨a5,t5⟩:=AC5 (hval 5 9 v5 rfl rfl) h5;clear hA0 hval0;have hT:DD.Ts (DD.Env.law W) [.int .i64 a0,DD.arrV 32 a1,Gm false n2 a2, .imm false 133 n3 fun k=>Ak (a3 k), .imm false 3 n4 fun k=>aB (a4 k), .str a5] #[v0,v1,v2,v3,v4,v5].toList:=⟨t0,t1,t2,t3,t4,t5,trivial⟩;have hC:=AQq.ok [.int .i64 a0,DD.arrV 32 a1,Gm false n2 a2, .imm false 133 n3 fun k=>Ak (a3 k), .imm false 3 n4 fun k=>aB (a4 k), .str a5] (fun v=>v= .bool true) ⟨⟨a0,a1,n2,a2,n3,a3,n4,a4,a5⟩,⟨DD.AE.refl _,DD.AE.refl _,DD.AE.refl _,DD.AE.refl _,DD.AE.refl _,DD.AE.refl _,trivial⟩,⟨y1,y2,y3⟩,fun r hr=>hr▸rfl⟩;refine(DD.calls_of_CP Tryz.func5 (by kernel_rfl) (by decide) (AS2 hL) hT hC).mono fun e W' ⟨he,bel⟩=>?_;subst he;exact⟨_,rfl,_,_,_,[],_,[],hW',trodAll_mk1 (shut_bool Tryz.underlying4 _),(trodAll_cons_mk (Below.trod Pn (by kernel_rfl) (of_decide_eq_true (by kernel_rfl)) h0 bel lt0) (trodAll_cons_mk (Below.trod Pn (by kernel_rfl) (of_decide_eq_true (by kernel_rfl)) h1 bel lt1) (trodAll_cons_mk (Below.trod Pn (by kernel_rfl) (of_decide_eq_true (by kernel_rfl)) h2 bel lt2) (trodAll_cons_mk (Below.trod Pn (by kernel_rfl) (of_decide_eq_true (by kernel_rfl)) h3 bel lt3) (trodAll_cons_mk (Below.trod Pn (by kernel_rfl) (of_decide_eq_true (by kernel_rfl)) h4 bel lt4) (trodAll_cons_mk (Below.trod Pn (by kernel_rfl) (of_decide_eq_true (by kernel_rfl)) h5 bel lt5) trodAll_mk0)))))),rfl,bel.frame _,fun h=>by cases h⟩
theorem AX1:Rows.modelPutsRow.holds Tryz.pinned (OpenSpec.ofChange Rows.modelPutsSpec):=
 OpenClaim.holds_of_wide 5 Tryz.f5 rfl rfl rfl rfl rfl rfl rfl ⟨rfl,rfl,rfl,rfl,rfl⟩ rfl rfl rfl rfl rfl (by kernel_rfl) Tryz.func5 (by kernel_rfl)
  (of_decide_eq_true (by kernel_rfl)) (by unfold Func.isWrapper;first|(rw[if_pos (by decide+kernel)];kernel_rfl)|(rw[if_neg (by decide+kernel)];exact⟨rfl,rfl⟩))
  (fun os started H enc _=>ANc os started H enc)
theorem card_holds:Rows.ModelPutsCardSaid:=
 Claim7.holds_tied_plain_at .later [] [.data, .pinned] true (true, "029827bed9e42a5d8abe96eef220bce12d80a904329115cf0b33b0ab6676e080") false AX1 (fun _ h=>by cases h) (by kernel_rfl) (fun _ h=>by cases h) modelPuts_row_tie rfl ⟨rfl,rfl⟩ (by kernel_rfl) rfl
  (fun f fn hf hfn=>by
    obtain rfl:f=5:=Option.some.inj ((show Tryz.prog.funcNamed "codicil/codicillaw26.ModelPuts" =some 5 by kernel_rfl).symm.trans hf)|>.symm
    obtain rfl:fn=Tryz.f5:=(Option.some.inj (Tryz.func5.symm.trans hfn)).symm
    exact⟨by kernel_rfl,fun j t ht=>by
     rw[Tryz.params5]at ht;have hm:t∈[3,25,44,35,45,9]:=by have:=Array.mem_of_getElem? ht;simp at this⊢;omega
     have hall:([3,25,44,35,45,9].all fun u=> !Tryz.prog.wantsStandIn u)=true:=by kernel_rfl
     exact(show Tryz.prog.wantsStandIn t=false by simpa using List.all_eq_true.1 hall t hm)⟩)
  (by kernel_rfl)
end Go.Proofs.YtaihjcpfjgpmoaaGreatDoor.modelPuts
namespace Go.Proofs.YtaihjcpfjgpmoaaGreatDoor
theorem modelPuts_card:Rows.ModelPutsCardSaid:=modelPuts.card_holds
#print axioms modelPuts_card
end Go.Proofs.YtaihjcpfjgpmoaaGreatDoor
