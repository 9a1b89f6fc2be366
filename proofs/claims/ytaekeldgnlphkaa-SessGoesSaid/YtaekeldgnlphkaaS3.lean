/- The ticks at which frontiers of a new session go. -/
import Derived.Test.YtaekeldgnlphkaaS2
namespace Go.Proofs.Ytaekeldgnlphkaa
set_option linter.unusedVariables false
open Go Go.DD
/-- The session behind the i-th tick. -/
def wk : Nat → Int × Int | 0 => (1, 0) | i + 1 => (tickR (wk i).1 (wk i).2).1
def goesAt (i : Nat) : Bool := i == 1 || i == 3 || i == 7 || i == 15
theorem wk_step : ∀ i : Fin 16, tickR (wk i).1 (wk i).2 = (wk (i + 1), goesAt (i + 1), 0) := by decide
def F9 : FSpec := fun xs Φ => match xs with | [] => Φ (.bool true) | _ => False
theorem f9_ok : FOk Try.prog [] 9 F9 where
  sng := fun xs Φ h => by unfold F9 at h; split at h <;> first | exact h.elim | exact ⟨_, h, fun _ h' => h'⟩
  ok := fun xs Φ h => by
    unfold F9 at h
    split at h
    · have hΓ := ctxOk Try.f9.ntmps [(7, F7), (8, F8)] (fun p hp => by
        simp only [List.mem_cons, List.not_mem_nil, or_false] at hp
        rcases hp with rfl | rfl
        · exact f7_ok
        · exact f8_ok)
      refine CP_of_OK hΓ Try.func9 (c := bodyOf Try.f9) rfl (by decide) rfl rfl (by simp) (vc_ok hΓ mixed 1000 _ [] _ (by kernel_rfl) rfl ?_)
      conv => whnf
      refine OK_loopC (ι := Nat) (fun i => [(0, .ff), (1, .ref 0 []), (2, .int .i64 (i + 1 : Nat))]) (fun i => [some (sv (wk i).1 (wk i).2)]) (fun i => i ≤ 16) (fun i => 16 - i) 0 [some 0] ?_ (fun i hi => vc_ok hΓ mixed 1000 _ [] _ (by kernel_rfl) rfl ?_)
      · conv => whnf
        repeat' (first | (refine And.intro ?_ ?_ <;> conv => whnf))
        all_goals first | exact ⟨rfl⟩ | exact ⟨⟨rfl, rfl⟩⟩ | exact ⟨by decide⟩
      · conv => whnf
        have hs : i < 16 → tickR (wk i).1 (wk i).2 = (wk (i + 1), goesAt (i + 1), 0) := fun h => wk_step ⟨i, h⟩
        repeat' (first | (refine And.intro (fun _ => ?_) (fun _ => ?_) <;> conv => whnf) | (refine And.intro ?_ ?_ <;> conv => whnf))
        all_goals try (refine ⟨i + 1, [some 0], ?_⟩; conv => whnf)
        repeat' (first | (refine And.intro ?_ ?_ <;> conv => whnf))
        all_goals try first | exact ⟨rfl⟩ | exact ⟨⟨rfl, rfl⟩⟩
        all_goals (by_cases hlt : i < 16)
        all_goals first
          | (exfalso; simp only [hs hlt] at *; simp_all [goesAt]; done)
          | (exfalso; simp only [hs hlt] at *; simp_all [goesAt]; omega)
          | (refine ⟨?_⟩; simp only [hs hlt]; done)
          | (refine ⟨?_⟩; rw [wrap64 (by omega) (by omega)]; omega)
          | (refine ⟨?_⟩; omega)
          | (exfalso; simp only [decide_eq_true_eq] at *; omega)
          | (refine cast (congrArg Φ ?_) h; simp_all; done)
          | skip
        · exfalso
          rename_i h1 h2 h3 h4 h5 h6
          simp only [hs hlt] at h6
          simp only [beq_eq_false_iff_ne, ne_eq] at h3 h4 h5
          have e : (((i + 1 : Nat) : Int) == 15) = goesAt (i + 1) := by
            have a1 : ((i + 1) == 1) = false := by simp; omega
            have a2 : ((i + 1) == 3) = false := by simp; omega
            have a3 : ((i + 1) == 7) = false := by simp; omega
            simp only [goesAt, a1, a2, a3, Bool.false_or]
            by_cases h15 : i + 1 = 15
            · simp [h15]
            · have : ¬ (((i + 1 : Nat) : Int) = 15) := by omega
              rw [beq_eq_false_iff_ne.2 this, beq_eq_false_iff_ne.2 h15]
          rw [e] at h6
          simp at h6
        · exact vc_ok hΓ mixed 1000 _ [] _ (by kernel_rfl) rfl (by conv => whnf
                                                                   exact h)
    · exact h.elim
end Go.Proofs.Ytaekeldgnlphkaa
