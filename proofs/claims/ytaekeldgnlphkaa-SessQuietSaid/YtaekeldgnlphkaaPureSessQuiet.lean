/- SessQuiet: for every n, without news the pauses of a session double up to the longest one and stay so: the statement's function tells true. No condition beyond n being an int. -/
import Derived.Test.YtaekeldgnlphkaaPSessQuietx1
namespace Go.Proofs.Ytaekeldgnlphkaa.Pure
open Go.RowKit Go.Proofs.Ytaekeldgnlphkaa.PSessQuiet Go.Proofs.YtaekeldgnlphkaaW.PrintWords Go.Proofs.YtaekeldgnlphkaaW.PrintLast

theorem quiet_all : ∀ n : Fin 100, codicillaw21_SessQuiet.l0 300 (n.val : Int) 1 1 1 1 0 = some true := by decide +kernel

theorem quiet_start (a0 : Int) : ∃ n : Fin 100, wrap64 (Int.tmod (IntKind.u64.wrap a0) 100) = (n.val : Int) := by
  have h0 : 0 ≤ IntKind.u64.wrap a0 := by show 0 ≤ a0 % _; exact Int.emod_nonneg _ (by decide)
  have h : 0 ≤ Int.tmod (IntKind.u64.wrap a0) 100 ∧ Int.tmod (IntKind.u64.wrap a0) 100 < 100 := by
    rw [Int.tmod_eq_emod_of_nonneg h0]; omega
  refine ⟨⟨(Int.tmod (IntKind.u64.wrap a0) 100).toNat, by omega⟩, ?_⟩
  unfold wrap64
  simp only
  omega

theorem SessQuiet : codicillaw21_SessQuiet.Pure := by
  intro a0 _
  obtain ⟨n, hn⟩ := quiet_start a0
  refine ⟨300, ?_⟩
  have h := quiet_all n
  unfold codicillaw21_SessQuiet.f sess_New.f
  rw [hn]
  exact h

end Go.Proofs.Ytaekeldgnlphkaa.Pure
