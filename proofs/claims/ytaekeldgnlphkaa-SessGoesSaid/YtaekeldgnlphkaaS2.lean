/- Sessions: new, right, a tick, news; the page's. -/
import Derived.Test.YtaekeldgnlphkaaS1
namespace Go.Proofs.Ytaekeldgnlphkaa
set_option linter.unusedVariables false
open Go Go.DD
def sv (w b : Int) : V := .st (.cons (.int .i64 w) (.cons (.int .i64 b) .nil))
def okS (w b : Int) : Bool := decide (0 ≤ b) && decide (b ≤ 3) && decide (1 ≤ w) && decide (w ≤ 8)
/-- What a tick tells: the session behind it, whether a frontier goes, an error. -/
def tickR (w b : Int) : (Int × Int) × Bool × Int :=
  if okS w b then (if 1 < w then ((w - 1, b), false, 0) else ((2 ^ (min (b + 1) 3).toNat, min (b + 1) 3), true, 0)) else ((0, 0), false, 1)

def F7 : FSpec := fun xs Φ => match xs with | [] => Φ (sv 1 0) | _ => False
def F12 : FSpec := fun xs Φ => match xs with
  | [.st (.cons (.int .i64 w) (.cons (.int .i64 b) .nil))] => Φ (.int .i64 (if okS w b then 0 else 1))
  | _ => False
def F10 : FSpec := fun xs Φ => match xs with
  | [.st (.cons (.int .i64 w) (.cons (.int .i64 b) .nil))] => Φ (.bool (okS w b))
  | _ => False
def F8 : FSpec := fun xs Φ => match xs with
  | [.st (.cons (.int .i64 w) (.cons (.int .i64 b) .nil))] => Φ (.tup (.cons (sv (tickR w b).1.1 (tickR w b).1.2) (.cons (.bool (tickR w b).2.1) (.cons (.int .i64 (tickR w b).2.2) .nil))))
  | _ => False
def F11 : FSpec := fun xs Φ => match xs with
  | [.st (.cons (.int .i64 w) (.cons (.int .i64 b) .nil))] => Φ (.tup (.cons (sv (if okS w b then 1 else 0) 0) (.cons (.int .i64 (if okS w b then 0 else 1)) .nil)))
  | _ => False
def F13 : FSpec := fun xs Φ => match xs with
  | [.st (.cons (.int .i64 w) (.cons (.int .i64 b) .nil))] => okS w b = true ∧ Φ (.tup (.cons (sv (tickR w b).1.1 (tickR w b).1.2) (.cons (.bool (tickR w b).2.1) .nil)))
  | _ => False

theorem okS_iff {w b : Int} : okS w b = true ↔ (0 ≤ b ∧ b ≤ 3) ∧ 1 ≤ w ∧ w ≤ 8 := by
  simp only [okS, Bool.and_eq_true, decide_eq_true_eq]; constructor <;> (intro h; omega)
theorem wrap_id {x : Int} (h0 : -9223372036854775808 ≤ x) (h1 : x ≤ 9223372036854775807) : IntKind.i64.wrap x = x := by
  rw [IntKind.wrap_i64]; omega
theorem f7_ok : FOk Try.prog [] 7 F7 where
  sng := fun xs Φ h => by unfold F7 at h; split at h <;> first | exact h.elim | exact ⟨_, h, fun _ h' => h'⟩
  ok := fun xs Φ h => by
    unfold F7 at h
    split at h
    · have hΓ := ctxOk Try.f7.ntmps [] (fun _ h => by cases h)
      refine CP_of_OK hΓ Try.func7 (c := bodyOf Try.f7) rfl (by decide) rfl rfl (by simp) (vc_ok hΓ mixed 1000 _ [] _ (by kernel_rfl) rfl ?_)
      conv => whnf
      exact h
    · exact h.elim




theorem f12_ok : FOk Try.prog [] 12 F12 where
  sng := fun xs Φ h => by unfold F12 at h; split at h <;> first | exact h.elim | exact ⟨_, h, fun _ h' => h'⟩ | exact ⟨_, h.2, fun _ h' => ⟨h.1, h'⟩⟩
  ok := fun xs Φ h => by
    unfold F12 at h
    split at h
    · rename_i w b
      have hΓ := ctxOk Try.f12.ntmps [] (fun _ h => by cases h)
      refine CP_of_OK hΓ Try.func12 (c := bodyOf Try.f12) rfl (by decide) rfl rfl (by simp) (vc_ok hΓ mixed 1000 _ [] _ (by kernel_rfl) rfl ?_)
      conv => whnf
      repeat' (first | (refine And.intro (fun _ => ?_) (fun _ => ?_) <;> conv => whnf) | (refine And.intro ?_ ?_ <;> conv => whnf))
      all_goals (refine cast (congrArg Φ ?_) h)
      all_goals (simp only [decide_eq_true_eq, decide_eq_false_iff_not] at *)
      all_goals (congr 1; simp only [okS, Bool.and_eq_true, decide_eq_true_eq]; split <;> omega)
    · exact h.elim

theorem f10_ok : FOk Try.prog [] 10 F10 where
  sng := fun xs Φ h => by unfold F10 at h; split at h <;> first | exact h.elim | exact ⟨_, h, fun _ h' => h'⟩ | exact ⟨_, h.2, fun _ h' => ⟨h.1, h'⟩⟩
  ok := fun xs Φ h => by
    unfold F10 at h
    split at h
    · rename_i w b
      have hΓ := ctxOk Try.f10.ntmps [(14, F14)] (fun p hp => by
        simp only [List.mem_cons, List.not_mem_nil, or_false] at hp
        rcases hp with rfl
        · exact f14_ok
        )
      refine CP_of_OK hΓ Try.func10 (c := bodyOf Try.f10) rfl (by decide) rfl rfl (by simp) (vc_ok hΓ mixed 1000 _ [] _ (by kernel_rfl) rfl ?_)
      conv => whnf
      repeat' (first | (refine And.intro (fun _ => ?_) (fun _ => ?_) <;> conv => whnf) | (refine And.intro ?_ ?_ <;> conv => whnf))
      all_goals (refine cast (congrArg Φ ?_) h)
      · rename_i h1
        simp only [okS, h1, Bool.true_and]
      · rename_i h1
        simp only [okS, h1, Bool.false_and]
    · exact h.elim

theorem f8_ok : FOk Try.prog [] 8 F8 where
  sng := fun xs Φ h => by unfold F8 at h; split at h <;> first | exact h.elim | exact ⟨_, h, fun _ h' => h'⟩ | exact ⟨_, h.2, fun _ h' => ⟨h.1, h'⟩⟩
  ok := fun xs Φ h => by
    unfold F8 at h
    split at h
    · rename_i w b
      have hΓ := ctxOk Try.f8.ntmps [(12, F12)] (fun p hp => by
        simp only [List.mem_cons, List.not_mem_nil, or_false] at hp
        rcases hp with rfl
        · exact f12_ok
        )
      refine CP_of_OK hΓ Try.func8 (c := bodyOf Try.f8) rfl (by decide) rfl rfl (by simp) (vc_ok hΓ mixed 1000 _ [] _ (by kernel_rfl) rfl ?_)
      conv => whnf
      repeat' (first | (refine And.intro (fun _ => ?_) (fun _ => ?_) <;> conv => whnf) | (refine And.intro ?_ ?_ <;> conv => whnf))
      · rename_i h1
        refine cast (congrArg Φ ?_) h
        by_cases hk : okS w b = true <;> simp_all [tickR, sv]
      · rename_i h1 h2
        have hk : okS w b = true := by by_cases hk : okS w b = true <;> simp_all
        obtain ⟨h3, h4⟩ := okS_iff.1 hk
        refine cast (congrArg Φ ?_) h
        rw [wrap_id (by omega) (by omega)]
        simp only [decide_eq_true_eq] at h2
        simp [tickR, sv, hk, h2]
      · rename_i h1 h2
        have hk : okS w b = true := by by_cases hk : okS w b = true <;> simp_all
        obtain ⟨h3, h4⟩ := okS_iff.1 hk
        refine ⟨?_⟩
        rw [wrap_id (by omega) (by omega)]
        omega
      · rename_i h1 h2
        have hk : okS w b = true := by by_cases hk : okS w b = true <;> simp_all
        obtain ⟨h3, h4⟩ := okS_iff.1 hk
        refine cast (congrArg Φ ?_) h
        rw [wrap_id (by omega) (by omega)]
        simp only [decide_eq_false_iff_not] at h2
        have hb : min (b + 1) 3 = 1 ∨ min (b + 1) 3 = 2 ∨ min (b + 1) 3 = 3 := by omega
        simp only [tickR, sv, hk, h2, if_true, if_false]
        rcases hb with hb | hb | hb <;> rw [hb] <;> rfl
    · exact h.elim

theorem f11_ok : FOk Try.prog [] 11 F11 where
  sng := fun xs Φ h => by unfold F11 at h; split at h <;> first | exact h.elim | exact ⟨_, h, fun _ h' => h'⟩ | exact ⟨_, h.2, fun _ h' => ⟨h.1, h'⟩⟩
  ok := fun xs Φ h => by
    unfold F11 at h
    split at h
    · rename_i w b
      have hΓ := ctxOk Try.f11.ntmps [(12, F12), (7, F7)] (fun p hp => by
        simp only [List.mem_cons, List.not_mem_nil, or_false] at hp
        rcases hp with rfl | rfl
        · exact f12_ok
        · exact f7_ok
        )
      refine CP_of_OK hΓ Try.func11 (c := bodyOf Try.f11) rfl (by decide) rfl rfl (by simp) (vc_ok hΓ mixed 1000 _ [] _ (by kernel_rfl) rfl ?_)
      conv => whnf
      repeat' (first | (refine And.intro (fun _ => ?_) (fun _ => ?_) <;> conv => whnf) | (refine And.intro ?_ ?_ <;> conv => whnf))
      all_goals (refine cast (congrArg Φ ?_) h)
      all_goals (by_cases hk : okS w b = true <;> simp_all [sv])
    · exact h.elim

theorem f13_ok : FOk Try.prog [] 13 F13 where
  sng := fun xs Φ h => by unfold F13 at h; split at h <;> first | exact h.elim | exact ⟨_, h, fun _ h' => h'⟩ | exact ⟨_, h.2, fun _ h' => ⟨h.1, h'⟩⟩
  ok := fun xs Φ h => by
    unfold F13 at h
    split at h
    · rename_i w b
      have hΓ := ctxOk Try.f13.ntmps [] (fun _ h => by cases h)
      refine CP_of_OK hΓ Try.func13 (c := bodyOf Try.f13) rfl (by decide) rfl rfl (by simp) (vc_ok hΓ mixed 1000 _ [] _ (by kernel_rfl) rfl ?_)
      conv => whnf
      repeat' (first | (refine And.intro (fun _ => ?_) (fun _ => ?_) <;> conv => whnf) | (refine And.intro ?_ ?_ <;> conv => whnf))
      all_goals (obtain ⟨hk, h⟩ := h; obtain ⟨h3, h4⟩ := okS_iff.1 hk)
      · rename_i h1
        refine cast (congrArg Φ ?_) h
        rw [wrap_id (by omega) (by omega)]
        simp only [decide_eq_true_eq] at h1
        simp [tickR, sv, hk, h1]
      · refine ⟨?_⟩
        rw [IntKind.wrap_u64]
        omega
      · rename_i h1
        refine cast (congrArg Φ ?_) h
        rw [wrap_id (x := b + 1) (by omega) (by omega), IntKind.wrap_u64]
        simp only [decide_eq_false_iff_not] at h1
        have hb : min (b + 1) 3 = 1 ∨ min (b + 1) 3 = 2 ∨ min (b + 1) 3 = 3 := by omega
        simp only [tickR, sv, hk, h1, if_true, if_false]
        rcases hb with hb | hb | hb <;> rw [hb] <;> rfl
    · exact h.elim
end Go.Proofs.Ytaekeldgnlphkaa
