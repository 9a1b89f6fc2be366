/- The law's function: of any 2 to the power MaxBack ticks one lets a frontier go, whatever news come when. -/
import Derived.Test.YtaekeldgnlphkaaS4
namespace Go.Proofs.Ytaekeldgnlphkaa
set_option linter.unusedVariables false
open Go Go.DD
def F5 : FSpec := fun xs Φ => ∃ (w b : Int) (l : Bool) (n : Nat) (g : Nat → Bool), xs = [sv w b, .imm l 1 n (fun k => .bool (g k))] ∧ Φ (.bool true)
/-- What holds at the loop's head. -/
structure Inv (n : Nat) (i : Nat) (w b since last : Int) (first : Bool) : Prop where
  hi : i ≤ n
  hw : 1 ≤ w ∧ w ≤ 8
  hb : 0 ≤ b ∧ b ≤ 3
  hs : 0 ≤ since ∧ since + w ≤ 8
  hl : 0 ≤ last
  hf : first = true → last = 0
  hg : first = false → since + w = 2 ^ b.toNat ∧ last ≤ 2 ^ b.toNat
theorem tick_wait {w b : Int} (hk : okS w b = true) (h : 1 < w) : tickR w b = ((w - 1, b), false, 0) := by simp [tickR, hk, h]
theorem tick_goes {w b : Int} (hk : okS w b = true) (h : ¬ 1 < w) : tickR w b = ((2 ^ (min (b + 1) 3).toNat, min (b + 1) 3), true, 0) := by simp [tickR, hk, h]
theorem f5_ok : FOk Try.prog [] 5 F5 where
  sng := fun xs Φ h => by
    obtain ⟨w, b, l, n, g, rfl, h⟩ := h
    exact ⟨_, h, fun _ h' => ⟨w, b, l, n, g, rfl, h'⟩⟩
  ok := fun xs Φ h => by
    obtain ⟨w0, b0, l, n, g, rfl, h⟩ := h
    have hΓ := ctxOk Try.f5.ntmps [(10, F10), (11, F11), (8, F8), (12, F12), (7, F7), (9, F9)] (fun p hp => by
        simp only [List.mem_cons, List.not_mem_nil, or_false] at hp
        rcases hp with rfl | rfl | rfl | rfl | rfl | rfl
        · exact f10_ok
        · exact f11_ok
        · exact f8_ok
        · exact f12_ok
        · exact f7_ok
        · exact f9_ok)
    refine CP_of_OK hΓ Try.func5 (c := bodyOf Try.f5) rfl (by decide) rfl rfl (by simp) (vc_ok hΓ mixed 1000 _ [] _ (by kernel_rfl) rfl ?_)
    conv => whnf
    repeat' (first | (refine And.intro (fun _ => ?_) (fun _ => ?_) <;> conv => whnf) | (refine And.intro ?_ ?_ <;> conv => whnf))
    · exact h
    · exact h
    · rename_i h1 h2
      refine OK_loopC (ι := Nat × Int × Int × Int × Int × Bool)
        (fun ⟨i, w, b, since, last, first⟩ => [(1, .imm l 1 n fun k => .bool (g k)), (2, .ref 0 []), (4, .ff), (5, .int .i64 since), (6, .int .i64 last), (7, .ff), (8, .bool first), (9, .int .i64 i)])
        (fun ⟨i, w, b, since, last, first⟩ => [some (sv w b)])
        (fun ⟨i, w, b, since, last, first⟩ => Inv n i w b since last first) (fun ⟨i, w, b, since, last, first⟩ => n - i) (0, w0, b0, 0, 0, true) [some 0] ?_
        (fun ⟨i, w, b, since, last, first⟩ hi => vc_ok hΓ mixed 1000 _ [] _ (by kernel_rfl) rfl ?_)
      · conv => whnf
        repeat' (first | (refine And.intro ?_ ?_ <;> conv => whnf))
        all_goals first | exact ⟨rfl⟩ | exact ⟨⟨rfl, rfl⟩⟩ | exact ⟨fun _ _ => rfl⟩ | skip
        have hk := okS_iff.1 (show okS w0 b0 = true by simpa using h1)
        exact ⟨Nat.zero_le _, by omega, by omega, by omega, by omega, fun _ => rfl, fun h => by cases h⟩
      · replace hi : Inv n i w b since last first := hi
        obtain ⟨hi1, hw, hb, hs, hl, hf, hg⟩ := hi
        have hk : okS w b = true := okS_iff.2 ⟨hb, hw⟩
        have e1 : tickR (if okS w b = true then 1 else 0) 0 = ((2, 1), true, 0) := by rw [if_pos hk]; decide
        have e2 : IntKind.i64.wrap (since + 1) = since + 1 := wrap64 (by omega) (by omega)
        have e3 : (if okS w b = true then (0 : Int) else 1) = 0 := if_pos hk
        have hn : n ≤ 200 := by simp only [decide_eq_false_iff_not] at h2; omega
        have e5 : IntKind.i64.wrap (i + 1) = ((i + 1 : Nat) : Int) := by rw [wrap64 (by omega) (by omega)]; omega
        have hb' : b = 0 ∨ b = 1 ∨ b = 2 ∨ b = 3 := by omega
        have e4 : (1 < w ∧ tickR w b = ((w - 1, b), false, 0)) ∨ (w = 1 ∧ ∃ w' b', tickR w b = ((w', b'), true, 0) ∧ 0 ≤ b' ∧ b' ≤ 3 ∧ 2 ≤ w' ∧ w' ≤ 8 ∧ w' = 2 ^ b'.toNat ∧ (2 : Int) ^ b.toNat ≤ w') := by
          by_cases h1w : 1 < w
          · exact .inl ⟨h1w, tick_wait hk h1w⟩
          · refine .inr ⟨by omega, _, _, tick_goes hk h1w, by omega, by omega, ?_⟩
            rcases hb' with rfl | rfl | rfl | rfl <;> decide
        have e6 : okS (tickR w b).1.1 (tickR w b).1.2 = true := by
          rcases e4 with ⟨h3, h4⟩ | ⟨h3, w', b', h4, h5⟩
          · rw [h4]; exact okS_iff.2 ⟨hb, by simp only; omega⟩
          · rw [h4]; exact okS_iff.2 ⟨by simp only; omega, by simp only; omega⟩
        have e7 : (tickR w b).2.2 = 0 := by rcases e4 with ⟨h3, h4⟩ | ⟨h3, w', b', h4, h5⟩ <;> rw [h4]
        conv => whnf
        repeat' (first | (refine And.intro (fun _ => ?_) (fun _ => ?_) <;> conv => whnf) | (refine And.intro ?_ ?_ <;> conv => whnf))
        all_goals (try simp only [e1, e2, e3, e6, e7, if_true, decide_eq_true_eq, decide_eq_false_iff_not, Bool.not_eq_true', bne_self_eq_false, Bool.true_eq_false, Bool.false_eq_true, Bool.not_true] at *)
        · exact ⟨⟨by omega, by omega⟩⟩
        · exfalso
          rename_i hx
          rw [if_pos (show okS 2 1 = true by decide)] at hx
          exact absurd hx (by decide)
        · exfalso; omega
        · refine ⟨(i + 1, 2, 1, 0, 0, false), [some 0], ?_⟩
          conv => whnf
          repeat' (first | (refine And.intro ?_ ?_ <;> conv => whnf))
          all_goals first | exact ⟨rfl⟩ | exact ⟨⟨rfl, rfl⟩⟩ | exact ⟨fun _ _ => rfl⟩ | exact ⟨e5⟩ | exact ⟨e2⟩ | skip
          all_goals first
            | (refine ⟨?_⟩; rw [e1]; done)
            | (refine ⟨?_⟩; rw [hf (by simp_all)]; done)
            | exact ⟨⟨(show Inv n (i + 1) (2) (1) (0) (0) (false) from ⟨by omega, by omega, by omega, by omega, by omega, (fun h => by cases h), (fun _ => by decide)⟩), by show n - (i + 1) < n - i; omega⟩⟩
        · exfalso; omega
        · exfalso
          rename_i hgo _ _ _ _ hfi hlt
          rcases e4 with ⟨h3, h4⟩ | ⟨h3, w', b', h4, h5⟩
          · rw [h4] at hgo; cases hgo
          · have := hg hfi; omega
        · rename_i hgo _ _ _ _ hfi hlt
          rcases e4 with ⟨h3, h4⟩ | ⟨h3, w', b', h4, h5⟩
          · rw [h4] at hgo; cases hgo
          refine ⟨(i + 1, w', b', 0, since + 1, false), [some 0], ?_⟩
          conv => whnf
          repeat' (first | (refine And.intro ?_ ?_ <;> conv => whnf))
          all_goals first | exact ⟨rfl⟩ | exact ⟨⟨rfl, rfl⟩⟩ | exact ⟨fun _ _ => rfl⟩ | exact ⟨e5⟩ | exact ⟨e2⟩ | skip
          all_goals first
            | (refine ⟨?_⟩; rw [h4]; done)
            | (refine ⟨?_⟩; rw [hfi]; done)
            | (have h6 := hg hfi
               exact ⟨⟨(show Inv n (i + 1) (w') (b') (0) (since + 1) (false) from ⟨by omega, by omega, by omega, by omega, by omega, (fun h => by cases h), (fun _ => ⟨by omega, by omega⟩)⟩), by show n - (i + 1) < n - i; omega⟩⟩)
        · rename_i hgo hfi _ _ _ _
          have hfi : first = true := by simpa using hfi
          have hla := hf hfi
          rcases e4 with ⟨h3, h4⟩ | ⟨h3, w', b', h4, h5⟩
          · rw [h4] at hgo; cases hgo
          refine ⟨(i + 1, w', b', 0, last, false), [some 0], ?_⟩
          conv => whnf
          repeat' (first | (refine And.intro ?_ ?_ <;> conv => whnf))
          all_goals first | exact ⟨rfl⟩ | exact ⟨⟨rfl, rfl⟩⟩ | exact ⟨fun _ _ => rfl⟩ | exact ⟨e5⟩ | exact ⟨e2⟩ | skip
          all_goals first
            | (refine ⟨?_⟩; rw [h4]; done)
            | (refine ⟨?_⟩; rw [hfi]; done)
            | exact ⟨⟨(show Inv n (i + 1) (w') (b') (0) (last) (false) from ⟨by omega, by omega, by omega, by omega, by omega, (fun h => by cases h), (fun _ => ⟨by omega, by omega⟩)⟩), by show n - (i + 1) < n - i; omega⟩⟩
        · rename_i hgo _ _ _ _
          rcases e4 with ⟨h3, h4⟩ | ⟨h3, w', b', h4, h5⟩
          case inr => rw [h4] at hgo; cases hgo
          refine ⟨(i + 1, w - 1, b, since + 1, last, first), [some 0], ?_⟩
          conv => whnf
          repeat' (first | (refine And.intro ?_ ?_ <;> conv => whnf))
          all_goals first | exact ⟨rfl⟩ | exact ⟨⟨rfl, rfl⟩⟩ | exact ⟨fun _ _ => rfl⟩ | exact ⟨e5⟩ | exact ⟨e2⟩ | skip
          all_goals first
            | (refine ⟨?_⟩; rw [h4]; done)
            | exact ⟨⟨(show Inv n (i + 1) (w - 1) (b) (since + 1) (last) (first) from ⟨by omega, by omega, by omega, by omega, by omega, hf, (fun h => ⟨by have := hg h; omega, (hg h).2⟩)⟩), by show n - (i + 1) < n - i; omega⟩⟩
        · refine vc_ok hΓ mixed 1000 _ [] _ (by kernel_rfl) rfl ?_
          conv => whnf
          repeat' (first | (refine And.intro (fun _ => ?_) (fun _ => ?_) <;> conv => whnf) | (refine And.intro ?_ ?_ <;> conv => whnf))
          · exact h
          · exfalso
            rename_i hx
            rw [if_pos (show okS 1 0 = true by decide)] at hx
            exact absurd hx (by decide)
end Go.Proofs.Ytaekeldgnlphkaa
