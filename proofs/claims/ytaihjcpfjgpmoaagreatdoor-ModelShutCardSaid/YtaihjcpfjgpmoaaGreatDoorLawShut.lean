/- ModelShut: for any arguments (author, list of feeds, operation) the call returns true and leaves its arguments as they were, where the two package variables hold what the program's text lays there. No other condition. -/
import Derived.Test.YtaihjcpfjgpmoaaGreatDoorZG
import Derived.Test.YtaihjcpfjgpmoaaGreatDoorLawZS
import Derived.Test.YtaihjcpfjgpmoaaGreatDoorTie
import Derived.Test.YtaihjcpfjgpmoaaGreatDoorCards
namespace Go.Proofs.YtaihjcpfjgpmoaaGreatDoor.modelShut
open Go.ChangeShapes Go.WideShapes Go.ChangeAt Go.RowKit
set_option linter.unusedVariables false
set_option linter.unusedSimpArgs false
set_option maxRecDepth 100000
theorem lifted (os : Os) (started : os.Started) (H : Type) (enc : TypeId × Value → H) :
    ReturnsInHanded {} Tryz.checked os 4 .any (fun w args => (Rows.modelShutSpec.pre enc Tryz.prog Tryz.f4 [] false w args ∧ laidMetH Tryz.prog laidL w) ∧ sizedMet enc Tryz.prog Tryz.f4 (OpenSpec.ofChange Rows.modelShutSpec) false w args)
      (Rows.modelShutSpec.post enc Tryz.prog Tryz.f4 false true false false) := by
  refine returnsInHanded_of_change_and (C := Tryz.checked) (X := fun w _ => laidMetH Tryz.prog laidL w) (fun _ _ _ hh h => h.of_heap hh) own started (by kernel_rfl) Tryz.func4
    (ChangeSpec.witness_shaped (enc := enc) (C := Tryz.checked) (os := os) (X := fun w _ => laidMetH Tryz.prog laidL w) false (World.laidAll Tryz.prog os laidL) #[.agg (Array.replicate 32 (.int .u8 0)), .slice none 0 0, .agg #[.int .i64 0, .string ByteArray.empty, .slice none 0 0]] 8 (World.laidAll_os _ _ _)
      (laid_shape os _) (by kernel_rfl) (by kernel_rfl) (by kernel_rfl) (laid_met os _)) ?_
  intro W base args ds gs before hval0 hW _ _ hL _
  have hval : ∀ (j : Nat) t v, Tryz.f4.params[j]? = some t → args[j]? = some v → Value.okWide Tryz.prog W .any base t v := hval0
  have hW' := hW
  obtain ⟨p, q, hA0, hV, rfl, _, _⟩ := hW
  have hA : DataW.TrodAll enc Tryz.prog W 0 (fun _ => true) true Tryz.f4.params.toList args.toList ds p := hA0
  rw [Tryz.params4] at hA hval
  obtain ⟨v0, vs0, d0, ds0, p0, q0, hargs, rfl, rfl, h0, r0⟩ := trodAll_cons hA
  obtain ⟨v1, vs1, d1, ds1, p1, q1, rfl, rfl, rfl, h1, r1⟩ := trodAll_cons r0
  obtain ⟨v2, vs2, d2, ds2, p2, q2, rfl, rfl, rfl, h2, r2⟩ := trodAll_cons r1
  obtain ⟨rfl, rfl, rfl⟩ := trodAll_nil r2
  obtain rfl : args = #[v0, v1, v2] := by cases args; simp_all
  obtain ⟨rfl, rfl⟩ := trodVars_none hV
  have lt0 : ∀ x ∈ p0, x.block < W.heap.size := by obtain ⟨m, hm⟩ := h0; exact DataW.trod_lt m _ _ _ hm
  have lt1 : ∀ x ∈ p1, x.block < W.heap.size := by obtain ⟨m, hm⟩ := h1; exact DataW.trod_lt m _ _ _ hm
  have lt2 : ∀ x ∈ p2, x.block < W.heap.size := by obtain ⟨m, hm⟩ := h2; exact DataW.trod_lt m _ _ _ hm
  obtain ⟨a0, t0, y0⟩ := open_author (hval 0 25 v0 rfl rfl) h0
  obtain ⟨a1, t1, y1, _⟩ := open_feeds (hval 1 26 v1 rfl rfl) h1
  obtain ⟨a2, t2⟩ := open_op (hval 2 29 v2 rfl rfl) h2
  clear hA0 hval0
  have hT : DD.Ts (DD.Env.law W) [DD.arrV 32 a0, fdsV a1.b a1.n a1.l, opV a2] #[v0, v1, v2].toList := ⟨t0, t1, t2, trivial⟩
  have hC := f4_ok.ok [DD.arrV 32 a0, fdsV a1.b a1.n a1.l, opV a2] (fun v => v = .bool true) ⟨⟨a0, a1, a2⟩, ⟨DD.AE.refl _, DD.AE.refl _, DD.AE.refl _, trivial⟩, ⟨y0, y1⟩, fun r hr => hr ▸ rfl⟩
  refine (DD.calls_of_CP Tryz.func4 (by kernel_rfl) (by decide) (glOkH hL) hT hC).mono fun e W' ⟨he, bel⟩ => ?_
  subst he
  exact ⟨_, rfl, _, _, _, [], _, [], hW', trodAll_mk1 (shut_bool Tryz.underlying4 _), (trodAll_cons_mk (Below.trod laidOut (by kernel_rfl) (of_decide_eq_true (by kernel_rfl)) h0 bel lt0) (trodAll_cons_mk (Below.trod laidOut (by kernel_rfl) (of_decide_eq_true (by kernel_rfl)) h1 bel lt1) (trodAll_cons_mk (Below.trod laidOut (by kernel_rfl) (of_decide_eq_true (by kernel_rfl)) h2 bel lt2) trodAll_mk0))), rfl, bel.frame _, fun h => by cases h⟩
theorem over : Rows.modelShutRow.holds Tryz.pinned (OpenSpec.ofChange Rows.modelShutSpec) :=
  OpenClaim.holds_of_wide 4 Tryz.f4 rfl rfl rfl rfl rfl rfl rfl ⟨rfl, rfl, rfl, rfl, rfl⟩ rfl rfl rfl rfl rfl (by kernel_rfl) Tryz.func4 (by kernel_rfl)
    (of_decide_eq_true (by kernel_rfl)) (by unfold Func.isWrapper; first | (rw [if_pos (by decide +kernel)]; kernel_rfl) | (rw [if_neg (by decide +kernel)]; exact ⟨rfl, rfl⟩))
    (fun os started H enc _ => lifted os started H enc)
theorem card_holds : Rows.ModelShutCardSaid :=
  Claim7.holds_tied_plain_at .later [] [.data, .pinned] true (true, "029827bed9e42a5d8abe96eef220bce12d80a904329115cf0b33b0ab6676e080") false over (fun _ h => by cases h) (by kernel_rfl) (fun _ h => by cases h) modelShut_row_tie rfl ⟨rfl, rfl⟩ (by kernel_rfl) rfl
    (fun f fn hf hfn => by
      obtain rfl : f = 4 := Option.some.inj ((show Tryz.prog.funcNamed "codicil/codicillaw26.ModelShut" = some 4 by kernel_rfl).symm.trans hf) |>.symm
      obtain rfl : fn = Tryz.f4 := (Option.some.inj (Tryz.func4.symm.trans hfn)).symm
      exact ⟨by kernel_rfl, fun j t ht => by
        rw [Tryz.params4] at ht
        have hm : t ∈ [25, 26, 29] := by have := Array.mem_of_getElem? ht; simp at this ⊢; omega
        have hall : ([25, 26, 29].all fun u => !Tryz.prog.wantsStandIn u) = true := by kernel_rfl
        exact (show Tryz.prog.wantsStandIn t = false by simpa using List.all_eq_true.1 hall t hm)⟩)
    (by kernel_rfl)
end Go.Proofs.YtaihjcpfjgpmoaaGreatDoor.modelShut
namespace Go.Proofs.YtaihjcpfjgpmoaaGreatDoor
/-- The card, under a short name, for the claim. -/
theorem modelShut_card : Rows.ModelShutCardSaid := modelShut.card_holds
#print axioms modelShut_card
end Go.Proofs.YtaihjcpfjgpmoaaGreatDoor
