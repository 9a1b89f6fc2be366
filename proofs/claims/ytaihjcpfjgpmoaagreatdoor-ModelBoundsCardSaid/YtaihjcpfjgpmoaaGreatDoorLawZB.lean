/- ModelBounds: the body is true. -/
import Derived.Test.YtaihjcpfjgpmoaaGreatDoorZG
namespace Go.Proofs.YtaihjcpfjgpmoaaGreatDoor
set_option linter.unusedVariables false
set_option linter.unusedSimpArgs false
set_option maxRecDepth 100000
open Go Go.DD
structure I64 (x : Int) : Prop where
  lo : -9223372036854775808 ≤ x
  hi : x ≤ 9223372036854775807
def F3 : FSpec := mkG (fun (a : Int × Int × Int) => [.int .i64 a.1, .int .i64 a.2.1, .int .i64 a.2.2]) (fun a => a.1 ≤ 9223372036854775807 ∧ a.2.1 ≤ 9223372036854775807 ∧ a.2.2 ≤ 9223372036854775807) (fun _ => true) .bool
theorem w1 (n : Nat) (h : ((n : Nat) : Int) < 9223372036854775807) : IntKind.i64.wrap ((n : Int) + 1) = ((n + 1 : Nat) : Int) := by rw [wrap_id (by omega) (by omega)]; omega
set_option maxHeartbeats 4000000 in
theorem f3_ok : FOk Tryz.prog G 3 F3 := mkG_ok fun ⟨n, e, r⟩ ⟨hn, he, hr⟩ => by
  replace hn : n ≤ 9223372036854775807 := hn
  replace he : e ≤ 9223372036854775807 := he
  replace hr : r ≤ 9223372036854775807 := hr
  by_cases hneg : n < 0 ∨ e < 0 ∨ r < 0
  · have hΓ := ctxG_ok Tryz.f3.ntmps [(6, Fbound), (7, F17)] [] [] (.cons (fbound_ok.g) (.cons (f17_ok) .nil)) .nil
    refine CP_of_OK hΓ Tryz.func3 (c := bodyOf Tryz.f3) rfl (by decide) rfl rfl (by simp) (vc_ok hΓ mixed 1000 _ [] _ (by kernel_rfl) rfl ?_)
    conv => whnf
    repeat' (first | (refine And.intro (fun _ => ?_) (fun _ => ?_) <;> conv => whnf) | (refine And.intro ?_ ?_ <;> conv => whnf))
    refine ⟨(n, e, r), ⟨AE.refl _, AE.refl _, AE.refl _, trivial⟩, ⟨hn, he, hr⟩, ?_⟩
    intro b hb
    obtain rfl : b = 0 := hb.trans (if_pos hneg)
    conv => whnf
    repeat' (first | (refine And.intro (fun hp => ?_) (fun hp => ?_) <;> first | (exfalso; revert hp; (first | (simp; done) | (simp; omega)); done) | conv => whnf) | (refine And.intro ?_ ?_ <;> conv => whnf))
    all_goals first
      | (exfalso
         simp only [decide_eq_true_eq, decide_eq_false_iff_not] at *
         omega)
      | skip
    all_goals
      refine ⟨(), trivial, ⟨trivial⟩, ?_⟩
      intro q hq
      replace hq : q = true := hq
      subst hq
      conv => whnf
      repeat' (first | (refine And.intro (fun _ => ?_) (fun _ => ?_) <;> conv => whnf) | (refine And.intro ?_ ?_ <;> conv => whnf))
      exact Ld.refl _
  · obtain ⟨n, rfl⟩ := Int.eq_ofNat_of_zero_le (show 0 ≤ n by omega)
    obtain ⟨e, rfl⟩ := Int.eq_ofNat_of_zero_le (show 0 ≤ e by omega)
    obtain ⟨r, rfl⟩ := Int.eq_ofNat_of_zero_le (show 0 ≤ r by omega)
    have hM := maxN_eq
    have b8 := bound_ge8 (n := n) (e := e) (r := r) (by omega) (by omega) (by omega)
    have bM := bound_le n e r
    have bs : n < 1048576 → e < 1048576 → r < 1048576 → IntKind.i64.wrap (IntKind.i64.wrap (IntKind.i64.wrap (IntKind.i64.wrap (2 * (e : Int)) + IntKind.i64.wrap (2 * (n : Int))) + 1) * IntKind.i64.wrap (8 + IntKind.i64.wrap (2 * (r : Int)))) = (boundN n e r : Nat) := fun h1 h2 h3 => by
      have h4 := bound_small h1 h2 h3
      have h5 := int_mul (a := 2 * e + 2 * n + 1) (b := 8 + 2 * r) (by omega) (by omega)
      rw [← h4] at h5
      rw [wrap_id (x := 2 * (e : Int)) (by omega) (by omega), wrap_id (x := 2 * (n : Int)) (by omega) (by omega), wrap_id (x := 2 * (r : Int)) (by omega) (by omega), wrap_id (x := 2 * (e : Int) + 2 * (n : Int)) (by omega) (by omega), wrap_id (x := 2 * (e : Int) + 2 * (n : Int) + 1) (by omega) (by omega), wrap_id (x := 8 + 2 * (r : Int)) (by omega) (by omega)]
      have h6 : (2 * (e : Int) + 2 * (n : Int) + 1) * (8 + 2 * (r : Int)) = (boundN n e r : Nat) := by rw [h4]; push_cast; rfl
      rw [h6, wrap_id (by omega) (by omega)]
    by_cases c1 : (n : Int) < 9223372036854775807 <;> by_cases c2 : (e : Int) < 9223372036854775807 <;> by_cases c3 : (r : Int) < 9223372036854775807
    all_goals
      have hΓ := ctxG_ok Tryz.f3.ntmps [(6, Fbound), (7, F17)] [] [] (.cons (fbound_ok.g) (.cons (f17_ok) .nil)) .nil
      refine CP_of_OK hΓ Tryz.func3 (c := bodyOf Tryz.f3) rfl (by decide) rfl rfl (by simp) (vc_ok hΓ mixed 1000 _ [] _ (by kernel_rfl) rfl ?_)
      conv => whnf
      repeat' (first | (refine And.intro (fun _ => ?_) (fun _ => ?_) <;> conv => whnf) | (refine And.intro ?_ ?_ <;> conv => whnf))
      refine ⟨((n : Int), (e : Int), (r : Int)), ⟨AE.refl _, AE.refl _, AE.refl _, trivial⟩, ⟨hn, he, hr⟩, ?_⟩
      intro b hb
      replace hb : b = boundN n e r := hb.trans (if_neg hneg)
      rw [← hb] at b8 bM bs
      have f0 : ∀ m : Nat, ¬ ((m : Nat) : Int) < 0 := fun m => by omega
      have f8 : ¬ ((b : Nat) : Int) < 8 := by omega
      conv => whnf
      repeat' (first | (refine And.intro (fun hp => ?_) (fun hp => ?_) <;> first | (exfalso; revert hp; (first | (simp [f0, f8, c1, c2, c3]; done)); done) | conv => whnf) | (refine And.intro ?_ ?_ <;> conv => whnf))
      all_goals try
        (exfalso
         revert hp
         simp only [bne_iff_ne, ne_eq]
         intro h
         refine h (bs ?_ ?_ ?_).symm <;> (simp only [decide_eq_true_eq] at *; omega))
      all_goals first
        | (have c' : ¬ (n : Int) < 9223372036854775807 := c1
           clear c')
        | (have c' : (n : Int) < 9223372036854775807 := c1
           refine ⟨(((n + 1 : Nat) : Int), (e : Int), (r : Int)), ⟨AE.of (congrArg (V.int .i64) (w1 n c')), AE.refl _, AE.refl _, trivial⟩, ⟨by show ((n + 1 : Nat) : Int) ≤ 9223372036854775807; omega, he, hr⟩, ?_⟩
           intro z hz
           replace hz : z = boundN (n + 1) e r := hz.trans (if_neg (by rw [not_or, not_or]; exact ⟨f0 _, f0 _, f0 _⟩))
           have hz2 : ¬ ((z : Nat) : Int) < (b : Nat) := by
             have : b ≤ z := by rw [hz, hb]; exact bound_mono (by omega) (by omega) (by omega) (by omega) (by omega) (by omega)
             omega
           clear hz
           conv => whnf
           repeat' (first | (refine And.intro (fun hp => ?_) (fun hp => ?_) <;> first | (exfalso; revert hp; (first | (simp [f0, f8, c1, c2, c3, hz2]; done)); done) | conv => whnf) | (refine And.intro ?_ ?_ <;> conv => whnf))
           skip)
      all_goals first
        | (have c' : ¬ (e : Int) < 9223372036854775807 := c2
           clear c')
        | (have c' : (e : Int) < 9223372036854775807 := c2
           refine ⟨((n : Int), ((e + 1 : Nat) : Int), (r : Int)), ⟨AE.refl _, AE.of (congrArg (V.int .i64) (w1 e c')), AE.refl _, trivial⟩, ⟨hn, by show ((e + 1 : Nat) : Int) ≤ 9223372036854775807; omega, hr⟩, ?_⟩
           intro z hz
           replace hz : z = boundN n (e + 1) r := hz.trans (if_neg (by rw [not_or, not_or]; exact ⟨f0 _, f0 _, f0 _⟩))
           have hz2 : ¬ ((z : Nat) : Int) < (b : Nat) := by
             have : b ≤ z := by rw [hz, hb]; exact bound_mono (by omega) (by omega) (by omega) (by omega) (by omega) (by omega)
             omega
           clear hz
           conv => whnf
           repeat' (first | (refine And.intro (fun hp => ?_) (fun hp => ?_) <;> first | (exfalso; revert hp; (first | (simp [f0, f8, c1, c2, c3, hz2]; done)); done) | conv => whnf) | (refine And.intro ?_ ?_ <;> conv => whnf))
           skip)
      all_goals first
        | (have c' : ¬ (r : Int) < 9223372036854775807 := c3
           clear c')
        | (have c' : (r : Int) < 9223372036854775807 := c3
           refine ⟨((n : Int), (e : Int), ((r + 1 : Nat) : Int)), ⟨AE.refl _, AE.refl _, AE.of (congrArg (V.int .i64) (w1 r c')), trivial⟩, ⟨hn, he, by show ((r + 1 : Nat) : Int) ≤ 9223372036854775807; omega⟩, ?_⟩
           intro z hz
           replace hz : z = boundN n e (r + 1) := hz.trans (if_neg (by rw [not_or, not_or]; exact ⟨f0 _, f0 _, f0 _⟩))
           have hz2 : ¬ ((z : Nat) : Int) < (b : Nat) := by
             have : b ≤ z := by rw [hz, hb]; exact bound_mono (by omega) (by omega) (by omega) (by omega) (by omega) (by omega)
             omega
           clear hz
           conv => whnf
           repeat' (first | (refine And.intro (fun hp => ?_) (fun hp => ?_) <;> first | (exfalso; revert hp; (first | (simp [f0, f8, c1, c2, c3, hz2]; done)); done) | conv => whnf) | (refine And.intro ?_ ?_ <;> conv => whnf))
           skip)
      all_goals
        refine ⟨(9223372036854775807, (e : Int), (r : Int)), ⟨AE.refl _, AE.refl _, AE.refl _, trivial⟩, ⟨Int.le_refl _, he, hr⟩, ?_⟩
        intro z hz
        replace hz : z = boundN maxN e r := hz.trans (if_neg (by rw [not_or, not_or]; exact ⟨by show ¬ (9223372036854775807 : Int) < 0; decide, f0 _, f0 _⟩))
        replace hz : z = 9223372036854775807 := hz.trans ((bound_max (by omega) (by omega)).trans hM)
        subst hz
        conv => whnf
        repeat' (first | (refine And.intro (fun hp => ?_) (fun hp => ?_) <;> first | (exfalso; revert hp; (simp; done); done) | conv => whnf) | (refine And.intro ?_ ?_ <;> conv => whnf))
        refine ⟨(), trivial, ⟨trivial⟩, ?_⟩
        intro q hq
        replace hq : q = true := hq
        subst hq
        conv => whnf
        repeat' (first | (refine And.intro (fun _ => ?_) (fun _ => ?_) <;> conv => whnf) | (refine And.intro ?_ ?_ <;> conv => whnf))
        exact Ld.refl _
end Go.Proofs.YtaihjcpfjgpmoaaGreatDoor
