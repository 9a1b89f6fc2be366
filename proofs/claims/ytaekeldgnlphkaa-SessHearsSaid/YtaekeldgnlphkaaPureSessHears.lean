/- SessHears: behind news a session is a new one, told by as many ticks as anybody likes: the statement's function tells true for every session and every number. No condition beyond the arguments being ints. -/
import Derived.Test.YtaekeldgnlphkaaPSessHearsx2
namespace Go.Proofs.Ytaekeldgnlphkaa.Pure
open Go.RowKit Go.Proofs.Ytaekeldgnlphkaa.PSessHears Go.Proofs.YtaekeldgnlphkaaW.PrintWords Go.Proofs.YtaekeldgnlphkaaW.PrintLast

theorem hears_all : ∀ n : Fin 50, codicillaw21_SessHears.l0 200 (n.val : Int) 0 1 0 1 0 = some true := by decide +kernel

theorem hears_start (a0 : Int) : ∃ n : Fin 50, wrap64 (Int.tmod (IntKind.u64.wrap a0) 50) = (n.val : Int) := by
  have h0 : 0 ≤ IntKind.u64.wrap a0 := by show 0 ≤ a0 % _; exact Int.emod_nonneg _ (by decide)
  have h : 0 ≤ Int.tmod (IntKind.u64.wrap a0) 50 ∧ Int.tmod (IntKind.u64.wrap a0) 50 < 50 := by
    rw [Int.tmod_eq_emod_of_nonneg h0]; omega
  refine ⟨⟨(Int.tmod (IntKind.u64.wrap a0) 50).toNat, by omega⟩, ?_⟩
  unfold wrap64
  simp only
  omega

theorem in_some (a b c : Int) : codicilref17_in.f a b c = some (decide (b ≤ a ∧ a ≤ c)) := by
  unfold codicilref17_in.f
  by_cases h : a ≥ b
  · rw [if_pos h]; congr 1; by_cases h2 : a ≤ c <;> simp [h2] <;> omega
  · rw [if_neg h]; congr 1; simp; omega

theorem sess_some (a b : Int) : codicilref17_Sess.f a b = some (decide ((0 ≤ b ∧ b ≤ 3) ∧ 1 ≤ a ∧ a ≤ 8)) := by
  unfold codicilref17_Sess.f
  rw [in_some]; simp only [Option.bind_some]
  by_cases h : 0 ≤ b ∧ b ≤ 3
  · simp [h, in_some]
  · rw [decide_eq_false h, decide_eq_false (fun h2 => h h2.1)]; rfl

theorem check_ok (a b : Int) (hb : 0 ≤ b ∧ b ≤ 3) (ha : 1 ≤ a ∧ a ≤ 8) : sess_Check.f a b = some 0 := by
  unfold sess_Check.f
  rw [if_neg (by omega), if_neg (by omega), if_neg (by omega), if_neg (by omega)]

theorem heard_some (a b : Int) (hb : 0 ≤ b ∧ b ≤ 3) (ha : 1 ≤ a ∧ a ≤ 8) : sess_Heard.f a b = some (1, 0, 0) := by
  unfold sess_Heard.f
  rw [check_ok a b hb ha]; rfl

theorem SessHears (a0 a1 n : Int) : ∃ k, codicillaw21_SessHears.f k a0 a1 n = some true := by
  by_cases h : (0 ≤ a1 ∧ a1 ≤ 3) ∧ 1 ≤ a0 ∧ a0 ≤ 8
  · obtain ⟨m, hm⟩ := hears_start n
    refine ⟨201, ?_⟩
    unfold codicillaw21_SessHears.f
    rw [sess_some, decide_eq_true h]
    simp only [Option.bind_some, if_true]
    rw [heard_some _ _ h.1 h.2]
    unfold sess_New.f
    simp only [Option.bind_some]
    rw [if_pos (trivial), if_pos (trivial)]
    show codicillaw21_SessHears.j0 201 n (0 != 0) 1 0 1 0 = some true
    show codicillaw21_SessHears.l0 200 (wrap64 ((IntKind.u64.wrap n).tmod 50)) 0 1 0 1 0 = some true
    rw [hm]
    exact hears_all m
  · refine ⟨0, ?_⟩
    unfold codicillaw21_SessHears.f
    rw [sess_some, decide_eq_false h]
    simp
end Go.Proofs.Ytaekeldgnlphkaa.Pure
