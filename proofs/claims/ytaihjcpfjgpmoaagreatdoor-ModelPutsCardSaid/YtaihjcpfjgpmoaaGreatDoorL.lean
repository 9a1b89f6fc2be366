/- Part of the claim ModelPuts: M10, N61, LawA. -/
import Derived.Test.YtaihjcpfjgpmoaaGreatDoorRows
import Derived.PinnedBridge
import Derived.Lib.LaidU8
import Derived.FnData
import Derived.WalkKit
import Derived.ProofKit
import Derived.OpenShut
import Derived.ShutString
import Derived.ChangeOld
import Derived.Below
import Derived.SizedLaws
import Derived.Lib.SmallJoins
import Derived.Lay
import Derived.LaidOnce
import Derived.SevenTiedAt
import Derived.Test.YtaihjcpfjgpmoaaGreatDoorDC
import Derived.Test.YtaihjcpfjgpmoaaGreatDoorZF
set_option linter.unusedVariables false
set_option linter.unusedSimpArgs false
set_option maxRecDepth 100000
set_option maxHeartbeats 2000000
namespace Go.Proofs.YtaihjcpfjgpmoaaGreatDoor
open Go Go.DD
theorem Xd:Tryz.prog.cellsOf 5=1:=by kernel_rfl
theorem AEt:Tryz.prog.cellsOf 38=133:=by kernel_rfl
theorem Zl{f t n:Nat}{v:V}(hu:Tryz.prog.underlying t=some (.array n 5))(h:Ty Tryz.prog f t v):∃l:List UInt8,l.length=n∧RE v (arrV n l):=by
 obtain⟨g,m,rfl,hg⟩:=h.array hu Xd;obtain⟨l,h1,h2⟩:=jO fun k hk=>(hg k hk).int Tryz.underlying5;exact⟨l,h1,RE.row fun k hk=>RE.of (h2 k hk)⟩
theorem AD5{f:Nat}{v:V}(h:Ty Tryz.prog f 27 v):∃l:List UInt8,RE v (Bl false l)∧l.length≤9223372036854775807:=by
 obtain⟨n,g,m,rfl,hn,hg⟩:=h.slice Tryz.underlying27 Xd;obtain⟨l,h1,h2⟩:=jO fun k hk=>(hg k hk).int Tryz.underlying5;subst h1;exact⟨l,RE.imm fun k hk=>RE.of (h2 k hk),hn⟩
theorem AOt{f:Nat}{v:V}(h:Ty Tryz.prog f 38 v):∃e,RE v (Ak e)∧Cy e∧e.val.length≤9223372036854775807:=by
 obtain⟨x,m,rfl,hx⟩:=h.struct Tryz.underlying38 rfl
 match x,hx with
 | .cons a (.cons b (.cons c (.cons d (.cons e (.cons s .nil))))),⟨h1,h2,h3,h4,h5,h6,_⟩=>
  obtain⟨la,l1,r1⟩:=Zl Tryz.underlying25 h1;obtain⟨sq,rfl,_⟩:=h2.int Tryz.underlying3;obtain⟨lp,l3,r3⟩:=Zl Tryz.underlying25 h3;obtain⟨st,rfl,w4⟩:=h4.int Tryz.underlying3;obtain⟨ls,l6,r6⟩:=Zl Tryz.underlying36 h6;obtain⟨y,m',rfl,hy⟩:=h5.struct Tryz.underlying29 rfl
  match y,hy with
  | .cons k (.cons q (.cons u .nil)),⟨g1,g2,g3,_⟩=>
   obtain⟨kn,rfl,_⟩:=g1.int Tryz.underlying3;obtain⟨ky,rfl,_⟩:=g2.string Tryz.underlying9;obtain⟨lv,r8,l8⟩:=AD5 g3;have hst:st≤9223372036854775807:=(bounds_i64 w4).2;exact⟨⟨la,sq,lp,st,kn,ky,lv,ls⟩,RE.st ⟨r1,RE.refl _,r3,RE.refl _,RE.st ⟨RE.refl _,RE.refl _,r8,trivial⟩,r6,trivial⟩,⟨⟨l1,l3,l6⟩,hst⟩,l8⟩
theorem AJo{f:Nat}{v:V}(h:Ty Tryz.prog f 35 v):∃(n:Nat) (es:Nat→Bw),RE v (.imm false 133 n fun k=>Ak (es k))∧∀k,k<n→Cy (es k):=by
 obtain⟨n,g,m,rfl,_,hg⟩:=h.slice Tryz.underlying35 AEt
 have hk:∀k,∃e,k<n→RE (g k) (Ak e)∧Cy e:=fun k=>by
  by_cases hk:k<n
  ·obtain⟨e,he1,he2,_⟩:=AOt (hg k hk);exact⟨e,fun _=>⟨he1,he2⟩⟩
  ·exact⟨⟨[],0,[],0,0,[],[],[]⟩,fun h=>absurd h hk⟩
 obtain⟨es,he⟩:=Classical.axiomOfChoice hk;exact⟨n,es,RE.imm fun k hk=>(he k hk).1,fun k hk=>(he k hk).2⟩
theorem AIc:tN Tryz.prog 3 25=true:=by kernel_rfl
theorem ASs{f:Nat}{v:V}(h:Ty Tryz.prog f 29 v):∃o:Bw,RE v (aB o):=by
 obtain⟨y,m',rfl,hy⟩:=h.struct Tryz.underlying29 rfl
 match y,hy with
 | .cons k (.cons q (.cons u .nil)),⟨g1,g2,g3,_⟩=>
  obtain⟨kn,rfl,_⟩:=g1.int Tryz.underlying3;obtain⟨ky,rfl,_⟩:=g2.string Tryz.underlying9;obtain⟨lv,r8,_⟩:=AD5 g3;exact⟨⟨[],0,[],0,kn,ky,lv,[]⟩,RE.st ⟨RE.refl _,RE.refl _,r8,trivial⟩⟩
section
variable {H:Type} {M9:TypeId×Value→H} {w:World} {b0 base:Nat} {spare:Nat→Bool} {held:Bool} {x:Value} {d:DataW H} {ps:List MemPlace}
theorem lU(hval:Value.okWide Tryz.prog w .any b0 25 x)(h:DataW.Trod M9 Tryz.prog w base spare held 25 x d ps):∃l:List UInt8,T (Env.law w) (arrV 32 l) x∧l.length=32:=by
 obtain⟨v,h1,h2⟩:=vC Tryz.underlying25 AIc hval h;obtain⟨l,h3,h4⟩:=Zl Tryz.underlying25 h1;exact⟨l,h2 _ rfl h4,h3⟩
end
def Ru:List (String×DataW Unit):=[("unicode/utf8.acceptRanges",Rows.laid_unicode_utf8_acceptRanges),("unicode/utf8.first",Rows.laid_unicode_utf8_first)]
theorem AWq:Tryz.prog.globalNamed "unicode/utf8.acceptRanges" =some 2:=by kernel_rfl
theorem AN1:Tryz.prog.globalNamed "unicode/utf8.first" =some 1:=by kernel_rfl
theorem AAt:∀k,k<256→Lib.firstT k=(Bx k).toNat:=by decide
theorem yK:∀k,k<16→Lib.accLo k=(Lg k).1.toNat:=by decide
theorem yI:∀k,k<16→Lib.accHi k=(Lg k).2.toNat:=by decide
theorem AWr{w:World}(h:laidMet Tryz.prog Ru w):GlOk G (Env.law w):=by
 have h3:Lib.VarReads Tryz.prog w "unicode/utf8.first" Lib.firstData:=Pinned.utf8First_eq▸Lib.laidMet.reads h (.tail _ (.head _));have h4:Lib.VarReads Tryz.prog w "unicode/utf8.acceptRanges" Lib.acceptData:=Lib.laidMet.reads h (.head _)
 have c1:∀k,k<256→w.cell? ⟨1,k,none⟩=some (.int .u8 (Lib.firstT k)):=fun c hc=>by
  obtain⟨g,t,cs,fuel,p,hg,hty,hvar,hd⟩:=h3;obtain rfl:=Option.some.inj (AN1.symm.trans hg);obtain rfl:=Option.some.inj ((show(Tryz.prog.globals[1]?).map (·.type)=some 268 by kernel_rfl).symm.trans hty);have hcs:=Lib.cells_of_tab (n:=256) (show Tryz.prog.underlying _=some (.array 256 5) by kernel_rfl) Tryz.underlying5 Xd (by kernel_rfl) hd;rw[World.var?_cell hg hvar c,←Array.getElem?_toList,hcs];simp[Lib.firstTab,hc]
 have c2:∀i,i<16→w.cell? ⟨2,2*i,none⟩=some (.int .u8 (Lib.accLo i))∧w.cell? ⟨2,2*i+1,none⟩=some (.int .u8 (Lib.accHi i)):=fun i hi=>by
  obtain⟨g,t,cs,fuel,p,hg,hty,hvar,hd⟩:=h4;obtain rfl:=Option.some.inj (AWq.symm.trans hg);obtain rfl:=Option.some.inj ((show(Tryz.prog.globals[2]?).map (·.type)=some 271 by kernel_rfl).symm.trans hty);obtain⟨fuel',d,q,hdi,he⟩:=Lib.array_elem (n:=16) (e:=270) (by kernel_rfl) hd i hi;simp only[List.getElem?_map,List.getElem?_range hi,Option.map_some,Option.some.injEq]at hdi;subst hdi;rw[show Tryz.prog.cellsOf 270=2 by kernel_rfl]at he
  have hcs:=Lib.ints_of_struct Tryz.underlying270 (fun j f hj=>by
   match j,hj with
   |0,hj=>simp at hj;subst hj;exact⟨Tryz.underlying5,rfl,Xd⟩
   |1,hj=>simp at hj;subst hj;exact⟨Tryz.underlying5,rfl,Xd⟩
   |j+2,hj=>simp at hj) (by kernel_rfl) he
  have e0:=congrArg (·[0]?) hcs;have e1:=congrArg (·[1]?) hcs;simp only[List.getElem?_take,List.getElem?_drop]at e0 e1
  constructor
  ·rw[World.var?_cell hg hvar (2*i),←Array.getElem?_toList];simpa[Nat.mul_comm]using e0
  ·rw[World.var?_cell hg hvar (2*i+1),←Array.getElem?_toList];simpa[Nat.mul_comm]using e1
 refine GlOk.two ?_ (rL (c1 0 (by decide))) ?_ (rL (c2 0 (by decide)).1)
 ·simp only[AAs,R];intro k hk;refine⟨rfl,?_⟩
  show w.cell? ⟨1,0+k*1,none⟩=_
  rw[Nat.zero_add,Nat.mul_one,c1 k hk,AAt k hk]
 ·simp only[AQ5,R];intro k hk;refine⟨rfl,?_,?_,trivial⟩
  ·show w.cell? ⟨2,0+k*2,none⟩=_
   rw[Nat.zero_add,Nat.mul_comm,(c2 k hk).1,yK k hk]
  ·show w.cell? ⟨2,0+k*2+1,none⟩=_
   rw[Nat.zero_add,Nat.mul_comm,(c2 k hk).2,yI k hk]
theorem AEq:Tryz.prog.cellsOf 25=32:=by kernel_rfl
theorem AEr:Tryz.prog.cellsOf 29=3:=by kernel_rfl
theorem AIe:tN Tryz.prog 4 44=true:=by kernel_rfl
theorem AId:tN Tryz.prog 6 35=true:=by kernel_rfl
theorem AIf:tN Tryz.prog 6 45=true:=by kernel_rfl
theorem ANv:tN Tryz.prog 2 9=true:=by kernel_rfl
theorem mB{α:Type}{P:Nat→α→Prop}{n:Nat}(a:α)(h:∀k,k<n→∃x,P k x):∃f:Nat→α,∀k,k<n→P k (f k):=by
 obtain⟨f,hf⟩:=Classical.axiomOfChoice (fun k=>show∃x,k<n→P k x from by
  by_cases hk:k<n
  ·obtain⟨x,hx⟩:=h k hk;exact⟨x,fun _=>hx⟩
  ·exact⟨a,fun g=>absurd g hk⟩)
 exact⟨f,hf⟩
section
variable {H:Type} {M9:TypeId×Value→H} {w:World} {b0 base:Nat} {spare:Nat→Bool} {held:Bool} {x:Value} {d:DataW H} {ps:List MemPlace}
theorem wL(hval:Value.okWide Tryz.prog w .any b0 44 x)(h:DataW.Trod M9 Tryz.prog w base spare held 44 x d ps):∃(n:Nat) (s:Nat→List UInt8),T (Env.law w) (Gm false n s) x∧∀k,k<n→(s k).length=32:=by
 obtain⟨v,h1,h2⟩:=Sz Tryz.underlying44 AIe hval h;obtain⟨n,g,m,rfl,_,hg⟩:=h1.slice Tryz.underlying44 AEq;obtain⟨s,hs⟩:=mB [] fun k hk=>Zl Tryz.underlying25 (hg k hk);exact⟨n,s,h2 _ _ _ (RE.imm fun k hk=>(hs k hk).2),fun k hk=>(hs k hk).1⟩
theorem wK(hval:Value.okWide Tryz.prog w .any b0 35 x)(h:DataW.Trod M9 Tryz.prog w base spare held 35 x d ps):∃(n:Nat) (es:Nat→Bw),T (Env.law w) (.imm false 133 n fun k=>Ak (es k)) x∧∀k,k<n→Cy (es k):=by
 obtain⟨v,h1,h2⟩:=Sz Tryz.underlying35 AId hval h;obtain⟨n,es,h3,h4⟩:=AJo h1;exact⟨n,es,h2 _ _ _ h3,h4⟩
theorem AC4(hval:Value.okWide Tryz.prog w .any b0 45 x)(h:DataW.Trod M9 Tryz.prog w base spare held 45 x d ps):∃(n:Nat) (o:Nat→Bw),T (Env.law w) (.imm false 3 n fun k=>aB (o k)) x:=by
 obtain⟨v,h1,h2⟩:=Sz Tryz.underlying45 AIf hval h;obtain⟨n,g,m,rfl,_,hg⟩:=h1.slice Tryz.underlying45 AEr;obtain⟨o,ho⟩:=mB Il fun k hk=>ASs (hg k hk);exact⟨n,o,h2 _ _ _ (RE.imm fun k hk=>ho k hk)⟩
theorem AC5(hval:Value.okWide Tryz.prog w .any b0 9 x)(h:DataW.Trod M9 Tryz.prog w base spare held 9 x d ps):∃s:List UInt8,T (Env.law w) (.str s) x:=by
 obtain⟨b,rfl,_⟩:=Go.ChangeMaps.open_string Tryz.underlying9 hval h;obtain⟨fuel,h⟩:=h;obtain⟨v,h1,h2,h3⟩:=Pr 2 fuel 9 _ _ ANv h;obtain⟨s,rfl,_⟩:=h1.string Tryz.underlying9;exact⟨s, .inr ⟨rfl,rfl⟩,by simpa[Value.cells]using h3⟩
end
end Go.Proofs.YtaihjcpfjgpmoaaGreatDoor
namespace Go.Proofs.YtaihjcpfjgpmoaaGreatDoor
open Go.ChangeShapes Go.WideShapes Go.ChangeAt Go.RowKit
set_option maxRecDepth 100000
theorem Pn:laidOutB Tryz.prog=true:=by kernel_rfl
theorem own:ownKnob Tryz.prog.godebug=none:=by kernel_rfl
theorem pI(os:Os)(args:Array Value):((World.laidAll Tryz.prog os Ru).forCall (fun _ _=>0) ⟨#[],args,[]⟩).Shaped Tryz.prog:=World.shaped_of_ZipB (by kernel_rfl) (by kernel_rfl)
theorem ABh(os:Os)(args:Array Value):laidMetH Tryz.prog Ru ((World.laidAll Tryz.prog os Ru).forCall (fun _ _=>0) ⟨#[],args,[]⟩).memory:=by
 rw[MakeChecks.laidMetH_plain _ _ _ (by kernel_rfl)];exact laidMet_laidAll _ (by kernel_rfl) (by kernel_rfl)
theorem AS2{w:World}(h:laidMetH Tryz.prog Ru w):Go.DD.GlOk G (Go.DD.Env.law w):=by
 rw[MakeChecks.laidMetH_plain _ _ _ (by kernel_rfl)]at h;exact AWr h
end Go.Proofs.YtaihjcpfjgpmoaaGreatDoor
