/- The row of SessGoes: for every session and every news the call returns true and leaves its arguments as they were. No condition. -/
import Derived.Test.YtaekeldgnlphkaaRows
import Derived.Test.YtaekeldgnlphkaaS5
import Derived.Test.YtaekeldgnlphkaaD26
import Derived.WalkKit
import Derived.ProofKit
import Derived.OpenShut
import Derived.ShutString
import Derived.ChangeOld
import Derived.Below
import Derived.SizedLaws
import Derived.Lib.SmallJoins
import Derived.Deep.Grids
namespace Go.Proofs.Ytaekeldgnlphkaa.sessGoes
open Go.ChangeShapes Go.WideShapes Go.ChangeAt Go.RowKit
open Go.ChangeMaps (open_string shut_string)
set_option linter.unusedVariables false
theorem laidOut : laidOutB Try.prog = true := by kernel_rfl
theorem cells24 : Try.prog.cellsOf 24 = 2 := by kernel_rfl
theorem cells4 : Try.prog.cellsOf 4 = 1 := by kernel_rfl
theorem own : ownKnob Try.prog.godebug = none := by kernel_rfl
theorem T_bools {W : World} {a : Addr} {len cap : Nat} {B : Nat → Bool} (hl : len ≤ cap) (h : ∀ i, i < cap → W.cell? (a.add i) = some (.bool (B i))) :
    DD.T (DD.Env.law W) (.imm false 1 len fun k => .bool (B k)) (.slice (some a) len cap) := by
  refine DD.T_imm.2 ⟨some a, cap, rfl, hl, ?_⟩
  by_cases h0 : len = 0
  · exact .inl h0
  · obtain ⟨b, off, spot⟩ := a
    have h1 := h 0 (by omega)
    have hspot : spot = none := by simpa [Addr.add] using World.cell?_spot h1
    subst hspot
    have hb : b < W.heap.size := by
      rw [Addr.add_lit] at h1
      simp only [World.cell?] at h1
      cases hh : W.heap[b]? with
      | none => rw [hh] at h1; simp at h1
      | some o => exact (Array.getElem?_eq_some_iff.1 hh).1
    refine .inr ⟨b, off, rfl, hb, fun k hk => ⟨rfl, ?_⟩⟩
    have h2 := h k (by omega)
    rw [Addr.add_lit] at h2
    simp only [DD.R, DD.cellsAt, Nat.mul_one]
    exact h2
set_option maxRecDepth 100000 in
theorem lifted (os : Os) (started : os.Started) (H : Type) (enc : TypeId × Value → H) :
    ReturnsInHanded {} Try.checked os 5 .any (Rows.sessGoesSpec.pre6 enc Try.prog Try.f5 Rows.sessGoesRow.domain false) (Rows.sessGoesSpec.post enc Try.prog Try.f5 false true false false) := by
  refine returnsInHanded_of_change_sized (C := Try.checked) own started (by kernel_rfl) Try.func5
    (ChangeSpec.witness6 (enc := enc) (C := Try.checked) false ⟨#[], #[.agg #[.int .i64 0, .int .i64 0], .slice none 0 0], []⟩ 8 (by kernel_rfl) (by kernel_rfl) (by kernel_rfl) (by kernel_rfl)) ?_
  intro W base args ds gs before hval0 hW hcnd hsz0 _
  have hval : ∀ (j : Nat) t v, Try.f5.params[j]? = some t → args[j]? = some v → Value.okWide Try.prog W .any base t v := hval0
  have hW' := hW
  obtain ⟨p, q, hA0, hV, rfl, hfz, hnd⟩ := hW
  have hA : DataW.TrodAll enc Try.prog W 0 (fun _ => true) true Try.f5.params.toList args.toList ds p := hA0
  rw [Try.params5] at hA hval
  obtain ⟨v0, vs0, d0, ds0, p0, q0, hargs, rfl, rfl, h0, r0⟩ := trodAll_cons hA
  obtain ⟨v1, vs1, d1, ds1, p1, q1, rfl, rfl, rfl, h1, r1⟩ := trodAll_cons r0
  obtain ⟨rfl, rfl, rfl⟩ := trodAll_nil r1
  obtain rfl : args = #[v0, v1] := by cases args; simp_all
  obtain ⟨rfl, rfl⟩ := trodVars_none hV
  have k0 := h0
  have k1 := h1
  have lt0 : ∀ x ∈ p0, x.block < W.heap.size := by obtain ⟨m, hm⟩ := k0; exact DataW.trod_lt m _ _ _ hm
  have lt1 : ∀ x ∈ p1, x.block < W.heap.size := by obtain ⟨m, hm⟩ := k1; exact DataW.trod_lt m _ _ _ hm
  obtain ⟨c0, c1, y0, y1, m, rfl, rfl, rfl, hy0, hy1⟩ := Joins.open_agg2 Try.underlying24 (by kernel_rfl) cells24 (hval 0 24 v0 rfl rfl) h0
  obtain ⟨b0, e0, z0, wb0⟩ := DataW.trod_int Try.underlying3 hy0
  obtain ⟨b1, e1, z1, wb1⟩ := DataW.trod_int Try.underlying3 hy1
  simp at e0 e1
  subst e0 e1
  clear hA0 hsz0
  have hS : ∃ (n : Nat) (g : Nat → Bool), DD.T (DD.Env.law W) (.imm false 1 n fun k => .bool (g k)) v1 := by
    obtain ⟨a1, len, cap, rfl⟩ := okWide_slice Try.underlying37 (hval 1 37 v1 rfl rfl)
    obtain ⟨fuel, hf⟩ := h1
    rcases Deep.open_bools Try.underlying37 Try.underlying4 cells4 hf with ⟨hcs, hx⟩ | ⟨a, len', cap', B, hcs, _, hl, hm, hx, hcell⟩
    · simp [Value.cells] at hcs
      obtain ⟨rfl, rfl, rfl⟩ := hcs
      exact ⟨0, fun _ => false, DD.T_imm.2 ⟨_, _, rfl, Nat.le_refl _, .inl rfl⟩⟩
    · simp [Value.cells] at hcs
      obtain ⟨rfl, rfl, rfl⟩ := hcs
      exact ⟨_, B, T_bools hl hcell⟩
  obtain ⟨n, g, hS⟩ := hS
  have hT : DD.Ts (DD.Env.law W) [sv b0 b1, .imm false 1 n fun k => .bool (g k)] #[Value.agg #[.int .i64 b0, .int .i64 b1], v1].toList :=
    ⟨DD.T_mkAgg rfl rfl (by simp [sv, DD.R, DD.RL, DD.vsize]), hS, trivial⟩
  refine (DD.calls_of_CP Try.func5 (by kernel_rfl) (by decide) (fun _ h => by cases h) hT (f5_ok.ok _ _ ⟨b0, b1, false, n, g, rfl, rfl⟩)).mono fun e W' ⟨he, bel⟩ => ?_
  subst he
  exact ⟨_, rfl, _, _, _, [], _, [], hW', trodAll_mk1 (shut_bool Try.underlying4 _), (trodAll_cons_mk (Below.trod laidOut (by kernel_rfl) (of_decide_eq_true (by kernel_rfl)) k0 bel lt0) (trodAll_cons_mk (Below.trod laidOut (by kernel_rfl) (of_decide_eq_true (by kernel_rfl)) k1 bel lt1) trodAll_mk0)), rfl, bel.frame _, fun h => by cases h⟩
theorem over : Rows.sessGoesRow.holds Try.pinned (OpenSpec.ofChange Rows.sessGoesSpec) :=
  OpenClaim.holds_of_wide 5 Try.f5 rfl rfl rfl rfl rfl rfl rfl ⟨rfl, rfl, rfl, rfl, rfl⟩ rfl rfl rfl rfl rfl (by kernel_rfl) Try.func5 (by kernel_rfl)
    (of_decide_eq_true (by kernel_rfl)) (by unfold Func.isWrapper; first | (rw [if_pos (by decide +kernel)]; kernel_rfl) | (rw [if_neg (by decide +kernel)]; exact ⟨rfl, rfl⟩))
    (fun os started H enc _ => lifted os started H enc)
theorem proved : Rows.SessGoesSaid := over
#print axioms proved
end Go.Proofs.Ytaekeldgnlphkaa.sessGoes
namespace Go.Proofs.Ytaekeldgnlphkaa
/-- The row, under a short name, for the claim. -/
theorem sessGoes_holds : Rows.SessGoesSaid := sessGoes.proved
end Go.Proofs.Ytaekeldgnlphkaa
