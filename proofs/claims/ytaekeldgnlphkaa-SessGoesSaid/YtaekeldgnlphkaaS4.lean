/- The law's function: every session's tick and news are the page's. -/
import Derived.Test.YtaekeldgnlphkaaS3
namespace Go.Proofs.Ytaekeldgnlphkaa
set_option linter.unusedVariables false
open Go Go.DD
def F4 : FSpec := fun xs Φ => match xs with
  | [.st (.cons (.int .i64 _) (.cons (.int .i64 _) .nil))] => Φ (.bool true)
  | _ => False

theorem f4_ok : FOk Try.prog [] 4 F4 where
  sng := fun xs Φ h => by unfold F4 at h; split at h <;> first | exact h.elim | exact ⟨_, h, fun _ h' => h'⟩ | exact ⟨_, h.2, fun _ h' => ⟨h.1, h'⟩⟩
  ok := fun xs Φ h => by
    unfold F4 at h
    split at h
    · rename_i w b
      have hΓ := ctxOk Try.f4.ntmps [(10, F10), (12, F12), (8, F8), (11, F11), (13, F13), (9, F9)] (fun p hp => by
        simp only [List.mem_cons, List.not_mem_nil, or_false] at hp
        rcases hp with rfl | rfl | rfl | rfl | rfl | rfl
        · exact f10_ok
        · exact f12_ok
        · exact f8_ok
        · exact f11_ok
        · exact f13_ok
        · exact f9_ok
        )
      refine CP_of_OK hΓ Try.func4 (c := bodyOf Try.f4) rfl (by decide) rfl rfl (by simp) (vc_ok hΓ mixed 1000 _ [] _ (by kernel_rfl) rfl ?_)
      conv => whnf
      repeat' (first | (refine And.intro (fun _ => ?_) (fun _ => ?_) <;> conv => whnf) | (refine And.intro ?_ ?_ <;> conv => whnf))
      all_goals try exact h
      all_goals (by_cases hk : okS w b = true)
      all_goals first
        | (exfalso; have e : (tickR w b).2.2 = 0 := by (simp only [tickR, hk, if_true]; split <;> rfl)
           simp_all; done)
        | (exfalso; simp_all [tickR]; done)
        | exact hk
    · exact h.elim
end Go.Proofs.Ytaekeldgnlphkaa
