/- Part of the claim: Z66. -/
import Derived.Test.YtimaobccedeafaaGreatDoorZI
/- StateGrows. -/
namespace Go.Proofs.YtimaobccedeafaaGreatDoor
set_option linter.unusedVariables false
set_option linter.unusedSimpArgs false
set_option maxRecDepth 100000
open Go Go.DD
theorem pick_of (k0 : Int) {n : Nat} (h1 : 1 ≤ n) (h2 : n ≤ 1000) : ∃ kk : Nat, kk < n ∧ IntKind.i64.wrap ((IntKind.u64.wrap k0).tmod (IntKind.u64.wrap (n : Nat))) = (kk : Nat) := by
  rw [IntKind.wrap_u64 (n : Nat), Int.emod_eq_of_lt (by omega) (by omega)]
  have h3 : 0 ≤ IntKind.u64.wrap k0 := by rw [IntKind.wrap_u64]; exact Int.emod_nonneg _ (by decide)
  rw [Int.tmod_eq_emod_of_nonneg h3]
  have h4 := Int.emod_nonneg (IntKind.u64.wrap k0) (show (n : Int) ≠ 0 by omega)
  have h5 := Int.emod_lt_of_pos (IntKind.u64.wrap k0) (show (0 : Int) < n by omega)
  refine ⟨(IntKind.u64.wrap k0 % (n : Int)).toNat, by omega, ?_⟩
  rw [wrap_id (by omega) (by omega), Int.toNat_of_nonneg h4]
theorem anyRef_no {f : Nat → V} (h : ∀ j, hasRef (f j) = false) : ∀ (n lo : Nat), anyRef f lo n = false
  | 0, _ => rfl
  | n + 1, lo => by simp only [anyRef, h, anyRef_no h n, Bool.or_false]
theorem hasRef_fdV (f : Fd) : hasRef (fdV f) = false := rfl
structure GrA where
  a : Fds
  k : Int
def F7 : FSpec := mkG (fun (x : GrA) => [fdsV x.a.b x.a.n x.a.l, .int .i64 x.k]) (fun x => tyL x.a) (fun _ => true) .bool
theorem f7_ok : FOk Tryz.prog G 7 F7 := mkG_ok fun ⟨a, k0⟩ ta => by
  replace ta : tyL a := ta
  show CP _ _ _ [fdsV a.b a.n a.l, .int .i64 k0] fun v => Ld v (.bool true)
  have hΓ := ctxG_ok Tryz.f7.ntmps [(9, F9c), (11, F11), (13, F13), (16, F16), (17, F17), (18, F71)] [(10, H10)] [] (.cons (f9c_ok.g) (.cons (f11_ok) (.cons (f13_ok) (.cons (f16_ok) (.cons (f17_ok) (.cons (f18_ok.g) .nil)))))) (.cons (hg h10_ok) .nil)
  refine CP_of_OK hΓ Tryz.func7 (c := bodyOf Tryz.f7) rfl (by decide) rfl rfl (by simp) (vc_ok hΓ mixed 1000 _ [] _ (by kernel_rfl) rfl ?_)
  conv => whnf
  refine ⟨a, ⟨AE.refl _, trivial⟩, ⟨trivial⟩, ?_⟩
  intro r hr
  replace hr : r = heavy18 a.n a.l := hr
  conv => whnf
  repeat' (first | (refine And.intro (fun _ => ?_) (fun _ => ?_) <;> conv => whnf) | (refine And.intro ?_ ?_ <;> conv => whnf))
  · exact Ld.refl _
  rename_i g1
  replace g1 : r = false := g1
  rw [g1] at hr
  obtain ⟨la1, la2⟩ := light hr.symm ta
  refine ⟨a, ⟨AE.refl _, trivial⟩, ⟨fun k hk => (la2 k hk).set⟩, ?_⟩
  intro u hu
  replace hu : u = feedsOk a.n a.l := hu
  conv => whnf
  refine And.intro (fun _ => ?_) (fun g3 => ?_)
  · conv => whnf
    repeat' (first | (refine And.intro (fun _ => ?_) (fun _ => ?_) <;> conv => whnf) | (refine And.intro ?_ ?_ <;> conv => whnf))
    exact Ld.refl _
  replace g3 : u = true := by simpa using g3
  rw [g3] at hu
  obtain ⟨kk, hkk, ek⟩ := pick_of k0 (feedsOk_look hu.symm).1 (show a.n ≤ 1000 by omega)
  conv => whnf
  repeat' (first | (refine And.intro (fun _ => ?_) (fun _ => ?_) <;> conv => whnf) | (refine And.intro ?_ ?_ <;> conv => whnf))
  all_goals (try simp only [ek, Int.toNat_natCast, Nat.zero_add])
  all_goals try first | exact ⟨rfl⟩ | exact ⟨⟨rfl, rfl⟩⟩ | exact ⟨⟨rfl, rfl, rfl⟩⟩ | exact ⟨by omega⟩ | exact ⟨⟨by omega, by omega⟩⟩ | exact ⟨⟨by omega, by omega, by omega⟩⟩ | exact ⟨by rw [IntKind.wrap_u64, Int.emod_eq_of_lt (by omega) (by omega)]; have := (feedsOk_look hu.symm).1; omega⟩ | exact Ld.refl _
  rename_i g4 g5
  rw [ek] at g4 g5
  replace g4 : (a.l kk).shut = false := g4
  replace g5 : (a.l kk).n ≠ 0 := by simpa using g5
  refine ⟨a, [], ?_⟩
  conv => whnf
  repeat' (first | (refine And.intro (fun _ => ?_) (fun _ => ?_) <;> conv => whnf) | (refine And.intro ?_ ?_ <;> conv => whnf))
  all_goals (try simp only [ek, Int.toNat_natCast, Nat.zero_add])
  all_goals try first | exact ⟨rfl⟩ | exact ⟨⟨rfl, rfl⟩⟩ | exact ⟨⟨rfl, rfl, rfl⟩⟩ | exact ⟨by omega⟩ | exact ⟨⟨by omega, by omega⟩⟩ | exact ⟨⟨by omega, by omega, by omega⟩⟩ | exact ⟨fun _ _ => rfl⟩ | exact ⟨by omega, fun k hk => (la2 k hk).2⟩
  all_goals try first | exact ⟨rfl⟩ | exact ⟨⟨rfl, rfl⟩⟩ | exact ⟨⟨rfl, rfl, rfl⟩⟩ | exact ⟨by omega⟩ | exact ⟨⟨by omega, by omega⟩⟩ | exact ⟨⟨by omega, by omega, by omega⟩⟩ | exact ⟨⟨trivial, trivial⟩⟩ | exact ⟨trivial⟩ | exact ⟨fun _ _ => trivial⟩ | exact ⟨by have := (la2 kk hkk).2.1; rw [wrap_id (by omega) (by omega)]; omega⟩
  have okk := (la2 kk hkk).2.1
  generalize hF : (fun j => if j = kk then upd (fdV (a.l kk)) [Step.f 1 32] _ else fdV (a.l j)) = F
  have hFj : ∀ j, F j = fdV (cutF (decide (j = kk)) (a.l j)) := fun j => by
    rw [← hF]
    by_cases hj : j = kk
    · subst hj
      refine (if_pos rfl).trans ?_
      show V.st (.cons (arrV 32 _) (.cons (.imm false 133 _ _) (.cons (.bool _) (.cons _ .nil)))) = _
      rw [show decide (j = j) = true from decide_eq_true rfl]
      have e1 : (IntKind.i64.wrap (((a.l j).n : Int) - 1)).toNat - Int.toNat 0 = (a.l j).n - 1 := by
        rw [wrap_id (by omega) (by omega)]; omega
      have e2 : ∀ k, Int.toNat 0 + k = k := fun k => Nat.zero_add k
      rw [e1]
      simp only [e2]
      rfl
    · refine (if_neg hj).trans ?_
      rw [show decide (j = kk) = false from decide_eq_false hj]
      rfl
  clear hF
  have hno : ∀ k, k < a.n → noref (F (0 + k)) := fun k _ => by rw [hFj]; exact noref_fdV _
  have hAE : AE (.imm true 300 a.n fun k => F (0 + k)) (fdsV true a.n fun j => cutF (decide (j = kk)) (a.l j)) := AE.imm fun k _ => by rw [Nat.zero_add, hFj]
  have ca : tyL ⟨true, a.n, fun j => cutF (decide (j = kk)) (a.l j)⟩ := fun k hk => preF_cutF (ta k hk)
  have cb : feedsOk a.n (fun j => cutF (decide (j = kk)) (a.l j)) = true := feedsOk_change hu.symm (fun k _ => cutF_author _ _) fun k hk => look_cutF ((feedsOk_look hu.symm).2.2 k hk)
  have cne : headR (a.l kk) ≠ headR (cutF (decide (kk = kk)) (a.l kk)) := fun h => by
    have h1 := congrArg Hd.n h
    rw [show decide (kk = kk) = true from decide_eq_true rfl] at h1
    have h2 := (OkF.lastN ⟨ta kk hkk, (feedsOk_look hu.symm).2.2 kk hkk⟩).2.1
    have h3 := (OkF.lastN (f := cutF true (a.l kk)) ⟨preF_cutF (ta kk hkk), look_cutF ((feedsOk_look hu.symm).2.2 kk hkk)⟩).2.1
    rw [headR, headR, if_neg (by simp [g4]), if_neg (by rw [cutF_shut]; simp [g4])] at h1
    replace h1 : (lastR (a.l kk)).1 = (lastR (cutF true (a.l kk))).1 := h1
    rw [h2, h3] at h1
    have h4 : (cutF true (a.l kk)).n = (a.l kk).n - 1 := rfl
    omega
  refine ⟨a, ⟨AE.refl _, trivial⟩, ⟨ta⟩, ?_⟩
  intro s1 hs1
  replace hs1 : s1 = stateR a := hs1
  conv => whnf
  repeat' (first | (refine And.intro (fun _ => ?_) (fun _ => ?_) <;> conv => whnf) | (refine And.intro ?_ ?_ <;> conv => whnf))
  generalize hq : anyRef F _ _ = q
  have hq2 : q = false := by rw [← hq]; exact anyRef_no (fun j => by rw [hFj]; rfl) _ _
  subst hq2
  clear hq
  conv => whnf
  repeat' (first | (refine And.intro (fun _ => ?_) (fun _ => ?_) <;> conv => whnf) | (refine And.intro ?_ ?_ <;> conv => whnf))
  all_goals try first | exact ⟨rfl⟩ | exact ⟨⟨rfl, rfl⟩⟩ | exact ⟨⟨rfl, rfl, rfl⟩⟩ | exact ⟨by omega⟩ | exact ⟨⟨by omega, by omega⟩⟩ | exact ⟨⟨by omega, by omega, by omega⟩⟩ | exact ⟨hno⟩
  refine ⟨⟨true, a.n, fun j => cutF (decide (j = kk)) (a.l j)⟩, ⟨hAE, trivial⟩, ⟨ca⟩, ?_⟩
  intro s2 hs2
  conv => whnf
  repeat' (first | (refine And.intro (fun _ => ?_) (fun _ => ?_) <;> conv => whnf) | (refine And.intro ?_ ?_ <;> conv => whnf))
  refine ⟨a, [], ?_⟩
  have ek1 : IntKind.i64.wrap ((kk : Int) + 1) = ((kk + 1 : Nat) : Int) := by rw [wrap_id (by omega) (by omega)]; omega
  conv => whnf
  repeat' (first | (refine And.intro (fun _ => ?_) (fun _ => ?_) <;> conv => whnf) | (refine And.intro ?_ ?_ <;> conv => whnf))
  all_goals try first | exact ⟨rfl⟩ | exact ⟨⟨rfl, rfl⟩⟩ | exact ⟨⟨rfl, rfl, rfl⟩⟩ | exact ⟨by omega⟩ | exact ⟨⟨by omega, by omega⟩⟩ | exact ⟨⟨by omega, by omega, by omega⟩⟩ | exact ⟨fun _ _ => rfl⟩ | exact ⟨by omega, fun k hk => (la2 k hk).2⟩ | exact ⟨by rw [ek1]; omega⟩ | exact ⟨by rw [ek1, Int.toNat_natCast]; omega⟩
  refine Or.inr ?_
  have c2 : tyL ⟨true, a.n - 1, fun j => if kk ≤ j then a.l (j + 1) else a.l j⟩ := fun k hk => by
    replace hk : k < a.n - 1 := hk
    show preF (if kk ≤ k then a.l (k + 1) else a.l k)
    split
    · exact ta _ (by omega)
    · exact ta _ (by omega)
  have nsame2 : sameR ⟨a, ⟨true, a.n - 1, fun j => if kk ≤ j then a.l (j + 1) else a.l j⟩⟩ = false := Bool.eq_false_iff.2 fun hh => by
    have h1 : a.n = a.n - 1 := (same_heads ta c2 hh).2.2.1
    have := (feedsOk_look hu.symm).1
    omega
  have nsame : sameR ⟨a, ⟨true, a.n, fun j => cutF (decide (j = kk)) (a.l j)⟩⟩ = false := Bool.eq_false_iff.2 fun hh => cne ((same_heads ta ca hh).2.2.2 kk hkk)
  have nstate : ¬ s1.1 = s2.1 := fun hh => cne ((state_tells ta ca hu.symm cb (by rw [← hs1, hh, hs2])).2 kk hkk)
  have e1 : s1.2 = 0 := by rw [hs1, stateR_err, if_pos hu.symm]
  have e2 : s2.2 = 0 := by rw [hs2, stateR_err]; exact if_pos cb
  have hfal : ∀ j, hasRef (F j) = false := fun j => by rw [hFj]; rfl
  conv => whnf
  refine And.intro ⟨by rw [ek1, Int.toNat_natCast]; omega⟩ ?_
  conv => whnf
  repeat' (first | (refine And.intro (fun hp => ?_) (fun hp => ?_) <;> first | (exfalso; revert hp; simp [e1, e2]; done) | conv => whnf) | (refine And.intro ?_ ?_ <;> conv => whnf))
  generalize hq : anyRef F _ _ = q
  obtain rfl : q = false := by rw [← hq]; exact anyRef_no hfal _ _
  clear hq
  conv => whnf
  repeat' (first | (refine And.intro (fun hp => ?_) (fun hp => ?_) <;> first | (exfalso; revert hp; simp [e1, e2]; done) | conv => whnf) | (refine And.intro ?_ ?_ <;> conv => whnf))
  all_goals try first | exact ⟨rfl⟩ | exact ⟨⟨rfl, rfl⟩⟩ | exact ⟨⟨rfl, rfl, rfl⟩⟩ | exact ⟨by omega⟩ | exact ⟨⟨by omega, by omega⟩⟩ | exact ⟨⟨by omega, by omega, by omega⟩⟩ | exact ⟨hno⟩
  refine ⟨⟨a, ⟨true, a.n, fun j => cutF (decide (j = kk)) (a.l j)⟩⟩, ⟨AE.refl _, hAE, trivial⟩, ⟨ta, ca⟩, ?_⟩
  intro t1 ht1
  replace ht1 : t1 = false := ht1.trans nsame
  conv => whnf
  repeat' (first | (refine And.intro (fun hp => ?_) (fun hp => ?_) <;> first | (exfalso; revert hp; simp [ht1]; done) | conv => whnf) | (refine And.intro ?_ ?_ <;> conv => whnf))
  generalize hq : anyRef F _ _ = q
  obtain rfl : q = false := by rw [← hq]; exact anyRef_no hfal _ _
  clear hq
  conv => whnf
  repeat' (first | (refine And.intro (fun hp => ?_) (fun hp => ?_) <;> first | (exfalso; revert hp; simp [ht1]; done) | conv => whnf) | (refine And.intro ?_ ?_ <;> conv => whnf))
  all_goals try first | exact ⟨rfl⟩ | exact ⟨⟨rfl, rfl⟩⟩ | exact ⟨⟨rfl, rfl, rfl⟩⟩ | exact ⟨by omega⟩ | exact ⟨⟨by omega, by omega⟩⟩ | exact ⟨⟨by omega, by omega, by omega⟩⟩ | exact ⟨hno⟩
  refine ⟨⟨⟨true, a.n, fun j => cutF (decide (j = kk)) (a.l j)⟩, a⟩, ⟨hAE, AE.refl _, trivial⟩, ⟨ca, ta⟩, ?_⟩
  intro t2 ht2
  replace ht2 : t2 = false := ht2.trans ((sameR_comm _ _).trans nsame)
  conv => whnf
  repeat' (first | (refine And.intro (fun hp => ?_) (fun hp => ?_) <;> first | (exfalso; revert hp; simp [ht1, ht2]; done) | conv => whnf) | (refine And.intro ?_ ?_ <;> conv => whnf))
  generalize hq : anyRef _ _ _ = q
  obtain rfl : q = false := by rw [← hq]; exact anyRef_no (fun j => by show hasRef (if _ then _ else _) = false; split <;> rfl) _ _
  clear hq
  conv => whnf
  repeat' (first | (refine And.intro (fun hp => ?_) (fun hp => ?_) <;> first | (exfalso; revert hp; simp [ht1, ht2]; done) | conv => whnf) | (refine And.intro ?_ ?_ <;> conv => whnf))
  · exact ⟨by rw [ek1, Int.toNat_natCast, Int.toNat_natCast]; omega⟩
  · exact ⟨fun k _ => by show noref (if _ then _ else _); split <;> exact noref_fdV _⟩
  refine ⟨⟨a, ⟨true, a.n - 1, fun j => if kk ≤ j then a.l (j + 1) else a.l j⟩⟩, ⟨AE.refl _, AE.imm' ?_ ?_, trivial⟩, ⟨ta, c2⟩, ?_⟩
  · show _ = a.n - 1
    simp only [ek1, Int.toNat_natCast]; omega
  · intro k hk
    replace hk : k < a.n - 1 := hk
    have e : (IntKind.i64.wrap ((kk : Int) + 1)).toNat = kk + 1 := by rw [ek1, Int.toNat_natCast]
    show (if _ then fdV (a.l _) else fdV (a.l _)) = fdV (if kk ≤ k then a.l (k + 1) else a.l k)
    by_cases h : kk ≤ k
    · rw [if_pos (by rw [e]; omega), if_pos h]
      exact congrArg (fun q => fdV (a.l q)) (by rw [e]; omega)
    · rw [if_neg (by rw [e]; omega), if_neg h]
      exact congrArg (fun q => fdV (a.l q)) (by omega)
  intro t3 ht3
  replace ht3 : t3 = false := ht3.trans nsame2
  conv => whnf
  repeat' (first | (refine And.intro (fun hp => ?_) (fun hp => ?_) <;> first | (exfalso; revert hp; simp [ht1, ht2, ht3]; done) | conv => whnf) | (refine And.intro ?_ ?_ <;> conv => whnf))
  refine ⟨(.of false s1.1, .of false s2.1), ⟨AE.refl _, AE.refl _, trivial⟩, ⟨⟨trivial, by rw [hs1]; exact stateR_len ta⟩, trivial⟩, ?_⟩
  intro t4 ht4
  replace ht4 : t4 = false := ht4.trans (decide_eq_false nstate)
  conv => whnf
  repeat' (first | (refine And.intro (fun hp => ?_) (fun hp => ?_) <;> first | (exfalso; revert hp; simp [ht1, ht2, ht3, ht4]; done) | conv => whnf) | (refine And.intro ?_ ?_ <;> conv => whnf))
  refine ⟨(), trivial, ⟨trivial⟩, ?_⟩
  intro z hz
  obtain rfl : z = true := hz
  conv => whnf
  repeat' (first | (refine And.intro (fun _ => ?_) (fun _ => ?_) <;> conv => whnf) | (refine And.intro ?_ ?_ <;> conv => whnf))
  exact Ld.refl _
end Go.Proofs.YtimaobccedeafaaGreatDoor
