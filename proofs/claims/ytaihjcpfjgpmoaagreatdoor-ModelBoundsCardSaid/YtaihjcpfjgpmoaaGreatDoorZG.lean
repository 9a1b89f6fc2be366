/- Part of the claim: Z57, M1, M2, M3, M4, M5, M6, M7, M8, M10, LawA. -/
import Derived.Test.YtaihjcpfjgpmoaaGreatDoorZF
import Derived.Test.YtaihjcpfjgpmoaaGreatDoorZA
import Derived.Test.YtaihjcpfjgpmoaaGreatDoorZC
import Derived.Test.YtaihjcpfjgpmoaaGreatDoorDC
import Derived.Test.YtaihjcpfjgpmoaaGreatDoorZD
import Derived.Test.YtaihjcpfjgpmoaaGreatDoorRows
import Derived.PinnedBridge
import Derived.Lib.LaidU8
import Derived.FnData
import Derived.WalkKit
import Derived.ProofKit
import Derived.OpenShut
import Derived.ShutString
import Derived.ChangeOld
import Derived.Below
import Derived.SizedLaws
import Derived.Lib.SmallJoins
import Derived.Lay
import Derived.LaidOnce
import Derived.SevenTiedAt
/- feeds.New. -/
namespace Go.Proofs.YtaihjcpfjgpmoaaGreatDoor
set_option linter.unusedVariables false
set_option linter.unusedSimpArgs false
set_option maxRecDepth 100000
open Go Go.DD
structure RwA where
  b : Bool
  n : Nat
  l : Rw
def seqV : V := .fn 94 (.cons (.ref 0 []) .nil)
def H77 : SpecH := mkHS (fun (x : RwA) => [seqV, .fn 53 .nil]) (fun x => [some (rowsV x.b x.n x.l)]) (fun x => (1 ≤ x.n ∧ x.n ≤ 8) ∧ ∀ k, k < x.n → (x.l k).length = 32) (fun x => .sl 1 [] 32 0 x.n x.n) (fun x => [some (rowsV x.b x.n x.l), some (rowV32 x.n (sortI x.l (x.n - 1)))])
theorem c108_ok : CtxOk Tryz.prog (ctxG Tryz.f92.ntmps [] [(132, H132)] []) := ctxG_ok Tryz.f92.ntmps [] [(132, H132)] [] .nil (.cons (h132_ok) .nil)
def S108 : SpecH := fun xs h κ => xs.length = 1 ∧ inlineS Tryz.prog (ctxG Tryz.f92.ntmps [] [(132, H132)] []) (bodyOf Tryz.f92) Tryz.f92.results.toList xs h κ
theorem s108_ok : SpecHOk Tryz.prog G 92 S108 := inline_ok (c := bodyOf Tryz.f92) (np := 1) c108_ok Tryz.func92 rfl (by decide) rfl (by decide)
theorem c77_ok : CtxOk Tryz.prog (ctxG Tryz.f51.ntmps [] [(92, S108), (93, H109)] []) := ctxG_ok Tryz.f51.ntmps [] [(92, S108), (93, H109)] [] .nil (.cons (s108_ok) (.cons (hg h109_ok) .nil))
def S77 : SpecH := fun xs h κ => xs.length = 2 ∧ inlineS Tryz.prog (ctxG Tryz.f51.ntmps [] [(92, S108), (93, H109)] []) (bodyOf Tryz.f51) Tryz.f51.results.toList xs h κ
theorem s77_ok : SpecHOk Tryz.prog G 51 S77 := inline_ok (c := bodyOf Tryz.f51) (np := 2) c77_ok Tryz.func51 rfl (by decide) rfl (by decide)
theorem h77_ok : SpecHOk Tryz.prog G 51 H77 := mkHS_ok s77_ok (fun ⟨b, n, l⟩ κ ⟨⟨hn1, hn⟩, hl⟩ h => by
  refine ⟨rfl, ?_⟩
  replace hn : n ≤ 8 := hn
  replace hn1 : 1 ≤ n := hn1
  replace hl : ∀ k, k < n → (l k).length = 32 := hl
  refine vc_ok (CtxOk.inner c77_ok _) mixed 1000 _ [] _ (by kernel_rfl) rfl ?_
  conv => whnf
  refine ⟨rfl, ?_⟩
  refine vc_ok (CtxOk.inner c108_ok _) mixed 1000 _ [] _ (by kernel_rfl) rfl ?_
  conv => whnf
  refine ⟨0, b, n, l, rfl, rfl, ⟨by omega, by omega⟩, ?_⟩
  conv => whnf
  refine ⟨⟨n, l⟩, [some 1], ?_⟩
  conv => whnf
  repeat' (first | (refine And.intro (fun _ => ?_) (fun _ => ?_) <;> conv => whnf) | (refine And.intro ?_ ?_ <;> conv => whnf))
  all_goals try first | exact ⟨rfl⟩ | exact ⟨⟨rfl, rfl⟩⟩ | exact ⟨⟨rfl, rfl, rfl⟩⟩ | exact ⟨by omega⟩ | exact ⟨⟨by omega, by omega⟩⟩ | exact ⟨⟨by omega, by omega, by omega⟩⟩ | exact ⟨fun k _ => leV_refl _ (by simp [arrV, pln, bf])⟩ | exact ⟨⟨hn, hl⟩⟩ | exact ⟨fun _ _ => rfl⟩
  refine ⟨[some 0, some 1], .sl 1 [] 32 0 n n, [some (rowsV b n l), some (rowV32 n (sortI l (n - 1)))], ?_⟩
  conv => whnf
  repeat' (refine And.intro ?_ ?_ <;> conv => whnf)
  all_goals try first | exact ⟨rfl⟩ | exact ⟨⟨rfl, rfl⟩⟩ | exact ⟨⟨rfl, rfl, rfl⟩⟩ | exact ⟨by omega⟩ | exact ⟨⟨by omega, by omega⟩⟩ | exact ⟨⟨by omega, by omega, by omega⟩⟩ | exact ⟨fun k _ => leV_refl _ (by simp [arrV, pln, bf])⟩ | exact ⟨fun _ _ => rfl⟩
  exact h
  ) (fun _ => by simp) (fun _ => by simp [rok, roks]) (fun x u hu => by
    simp at hu
    rcases hu with rfl | rfl
    · simp [rowsV, rok]
    · simp only [rowV32, rok]
      intro k _
      simp only [arrV, noref]
      intro q _
      trivial)
def newFd (a : List UInt8) : Fd := { author := a, n := 0, es := fun _ => ent0, shut := false, pf := ⟨ent0, ent0⟩ }
/-- Two alike beside one another, among the first so many. -/
def dupB (s : Rw) : Nat → Bool | 0 => false | i + 1 => dupB s i || (decide (0 < i) && decide (s i = s (i - 1)))
def newR (x : RwA) : Nat × Rw × Int := if x.n < 1 ∨ 8 < x.n then (0, x.l, 2) else if dupB (sortI x.l (x.n - 1)) x.n then (0, x.l, 11) else (x.n, sortI x.l (x.n - 1), 0)
def F44 : FSpec := mkG (fun (x : RwA) => [rowsV x.b x.n x.l]) (fun x => x.n ≤ 1000000 ∧ ∀ k, k < x.n → (x.l k).length = 32) newR (fun r => .tup (.cons (fdsV false r.1 fun k => newFd (r.2.1 k)) (.cons (.int .i64 r.2.2) .nil)))
theorem c78_ok : CtxOk Tryz.prog (ctxG Tryz.f52.ntmps [] [] []) := ctxG_ok Tryz.f52.ntmps [] [] [] .nil .nil
def S78 : SpecH := fun xs h κ => xs.length = 1 ∧ inlineS Tryz.prog (ctxG Tryz.f52.ntmps [] [] []) (bodyOf Tryz.f52) Tryz.f52.results.toList xs h κ
theorem s78_ok : SpecHOk Tryz.prog G 52 S78 := inline_ok (c := bodyOf Tryz.f52) (np := 1) c78_ok Tryz.func52 rfl (by decide) rfl (by decide)
def newV (a : List UInt8) : V := .st (.cons (arrV 32 a) (.cons .emp (.cons .ff (.cons (.st (.cons zV (.cons zV .nil))) .nil))))
theorem leV_zV (m : List (Option Nat)) : leV m zV (entV ent0) := by
  simp only [zV, entV, leV]
  refine ⟨_, rfl, ?_⟩
  simp only [leVs, leV, opV, byV, arrV, ent0]
  refine ⟨⟨_, rfl, fun k _ => leV_eq (bf_rep 32 k).symm trivial⟩, trivial, ⟨_, rfl, fun k _ => leV_eq (bf_rep 32 k).symm trivial⟩, trivial, ⟨_, rfl, ?_⟩, ⟨_, rfl, fun k _ => leV_eq (bf_rep 64 k).symm trivial⟩, trivial⟩
  simp only [leVs, leV]
  exact ⟨trivial, trivial, .inl (by simp), trivial⟩
theorem leV_new (m : List (Option Nat)) (a : List UInt8) : leV m (newV a) (fdV (newFd a)) := by
  simp only [newV, fdV, leV]
  refine ⟨_, rfl, ?_⟩
  simp only [leVs, leV, newFd, arrV, pfV]
  refine ⟨⟨_, rfl, fun k _ => leV_refl _ trivial⟩, .inl (by simp), rfl, ⟨_, rfl, ?_⟩, trivial⟩
  simp only [leVs]
  exact ⟨leV_zV m, leV_zV m, trivial⟩
theorem dupB_up {s : Rw} {i : Nat} (h : dupB s i = true) : ∀ {n : Nat}, i ≤ n → dupB s n = true
  | n, hn => by
    induction n with
    | zero => obtain rfl : i = 0 := by omega
              exact h
    | succ n ih =>
      rcases Nat.lt_or_ge n i with h1 | h1
      · obtain rfl : i = n + 1 := by omega
        exact h
      · rw [dupB, ih h1, Bool.true_or]
theorem f44_ok : FOk Tryz.prog G 21 F44 := mkG_ok fun ⟨b, n, l⟩ ⟨hn6, hl⟩ => by
  replace hn6 : n ≤ 1000000 := hn6
  replace hl : ∀ k, k < n → (l k).length = 32 := hl
  have hΓ := ctxG_ok Tryz.f21.ntmps [] [(52, S78), (51, H77)] [] .nil (.cons (s78_ok) (.cons (h77_ok) .nil))
  refine CP_of_OK hΓ Tryz.func21 (c := bodyOf Tryz.f21) rfl (by decide) rfl rfl (by simp) (vc_ok hΓ mixed 1000 _ [] _ (by kernel_rfl) rfl ?_)
  conv => whnf
  repeat' (first | (refine And.intro (fun _ => ?_) (fun _ => ?_) <;> conv => whnf) | (refine And.intro ?_ ?_ <;> conv => whnf))
  all_goals (try simp only [decide_eq_true_eq, decide_eq_false_iff_not] at *)
  · rename_i g1
    have e : newR ⟨b, n, l⟩ = (0, l, 2) := if_pos (.inl (by show n < 1; omega))
    rw [e]
    exact Ld.two Ld.emp (by simp) rfl (by simp [fdsV]) rfl
  · rename_i g1 g2
    have e : newR ⟨b, n, l⟩ = (0, l, 2) := if_pos (.inr (by show 8 < n; omega))
    rw [e]
    exact Ld.two Ld.emp (by simp) rfl (by simp [fdsV]) rfl
  all_goals
    rename_i g1 g2
    have hn1 : 1 ≤ n := by omega
    have hn8 : n ≤ 8 := by omega
  · rfl
  refine vc_ok (CtxOk.inner c78_ok _) mixed 1000 _ [] _ (by kernel_rfl) rfl ?_
  conv => whnf
  refine ⟨⟨b, n, l⟩, [some 0], ?_⟩
  conv => whnf
  repeat' (first | (refine And.intro (fun _ => ?_) (fun _ => ?_) <;> conv => whnf) | (refine And.intro ?_ ?_ <;> conv => whnf))
  all_goals try first | exact ⟨rfl⟩ | exact ⟨⟨rfl, rfl⟩⟩ | exact ⟨⟨rfl, rfl, rfl⟩⟩ | exact ⟨by omega⟩ | exact ⟨⟨by omega, by omega⟩⟩ | exact ⟨⟨by omega, by omega, by omega⟩⟩ | exact ⟨fun _ _ => rfl⟩ | exact ⟨⟨⟨hn1, hn8⟩, hl⟩⟩
  have hs := sortI_len hl (m := n - 1) (by omega)
  have e : newR ⟨b, n, l⟩ = if dupB (sortI l (n - 1)) n then (0, l, 11) else (n, sortI l (n - 1), 0) := if_neg (by show ¬ (n < 1 ∨ 8 < n); omega)
  rw [e]
  clear e
  revert hs
  generalize sortI l (n - 1) = s
  intro hs
  refine OK_loopC (ι := Nat) (fun i => [(4, .sl 0 [] 32 0 n n), (5, .sl 1 [] 300 0 i i), (19, .sl 0 [] 32 0 n n), (20, .int .i64 (n : Nat)), (21, .int .i64 (i : Nat))]) (fun i => [some (rowV32 n s), some (.row 300 i fun k => fdV (newFd (s k)))]) (fun i => i ≤ n ∧ dupB s i = false) (fun i => n - i) 0 [some 2, none] ?_ (fun i hi => vc_ok hΓ mixed 1000 _ [] _ (by kernel_rfl) rfl ?_)
  · conv => whnf
    repeat' (first | (refine And.intro (fun _ => ?_) (fun _ => ?_) <;> conv => whnf) | (refine And.intro ?_ ?_ <;> conv => whnf))
    all_goals try first | exact ⟨rfl⟩ | exact ⟨⟨rfl, rfl⟩⟩ | exact ⟨⟨rfl, rfl, rfl⟩⟩ | exact ⟨by omega⟩ | exact ⟨⟨by omega, by omega⟩⟩ | exact ⟨⟨by omega, by omega, by omega⟩⟩ | exact ⟨fun k _ => leV_refl _ (by simp [arrV, pln, bf])⟩
    exact ⟨⟨Nat.zero_le _, rfl⟩⟩
  · obtain ⟨hi1, hi2⟩ := hi
    conv => whnf
    refine And.intro (fun h3 => ?_) (fun h3 => ?_) <;> conv => whnf
    · have hin : i < n := by simpa using h3
      have e1 : 0 < i → IntKind.i64.wrap ((i : Int) - 1) = ((i - 1 : Nat) : Int) := fun h => by rw [wrap_id (by omega) (by omega)]; omega
      have hd : dupB s (i + 1) = (decide (0 < i) && decide (s i = s (i - 1))) := by rw [dupB, hi2, Bool.false_or]
      conv => whnf
      repeat' (first | (refine And.intro (fun _ => ?_) (fun _ => ?_) <;> conv => whnf) | (refine And.intro ?_ ?_ <;> conv => whnf))
      all_goals try first | exact ⟨rfl⟩ | exact ⟨⟨rfl, rfl⟩⟩ | exact ⟨⟨rfl, rfl, rfl⟩⟩ | exact ⟨by omega⟩ | exact ⟨⟨by omega, by omega⟩⟩ | exact ⟨⟨by omega, by omega, by omega⟩⟩ | exact ⟨fun _ _ => rfl⟩
      all_goals (try simp only [decide_eq_true_eq, decide_eq_false_iff_not, Int.toNat_natCast, Nat.zero_add] at *)
      all_goals try (rw [e1 (by omega)] at *)
      all_goals try exact ⟨by omega⟩
      · rename_i g3 g4
        replace g3 : 0 < i := by omega
        have g5 : s i = s (i - 1) := by
          have := (rowEq_bf (hs i hin) (hs (i - 1) (by omega))).symm.trans g4
          exact of_decide_eq_true this
        have hd2 : dupB s n = true := dupB_up (i := i + 1) (by rw [hd, decide_eq_true g3, decide_eq_true g5]; rfl) (show i + 1 ≤ n by omega)
        rw [if_pos hd2]
        exact Ld.two Ld.emp (by simp) rfl (by simp [fdsV]) rfl
      · rename_i g3 g4
        replace g3 : 0 < i := by omega
        have g5 : ¬ s i = s (i - 1) := by
          have := (rowEq_bf (hs i hin) (hs (i - 1) (by omega))).symm.trans g4
          exact of_decide_eq_false this
        rw [decide_eq_false g5, Bool.and_false] at hd
        refine Or.inl ?_
        conv => whnf
        repeat' (first | (refine And.intro (fun _ => ?_) (fun _ => ?_) <;> conv => whnf) | (refine And.intro ?_ ?_ <;> conv => whnf))
        all_goals try first | exact ⟨rfl⟩ | exact ⟨⟨rfl, rfl⟩⟩ | exact ⟨⟨rfl, rfl, rfl⟩⟩ | exact ⟨by omega⟩ | exact ⟨⟨by omega, by omega⟩⟩ | exact ⟨⟨by omega, by omega, by omega⟩⟩
        · exact ⟨by show (i + 1) * 448 ≤ _ ∧ i + 1 ≤ _; omega⟩
        refine ⟨i + 1, [some 0, some 4], ?_⟩
        conv => whnf
        repeat' (refine And.intro ?_ ?_ <;> conv => whnf)
        all_goals try first | exact ⟨rfl⟩ | exact ⟨⟨rfl, rfl⟩⟩ | exact ⟨⟨rfl, rfl, rfl⟩⟩ | exact ⟨by omega⟩ | exact ⟨⟨by omega, by omega⟩⟩ | exact ⟨⟨by omega, by omega, by omega⟩⟩ | exact ⟨fun k _ => leV_refl _ (by simp [arrV, pln, bf])⟩ | exact ⟨by rw [wrap_id (by omega) (by omega)]; rfl⟩
        · refine ⟨fun k hk => ?_⟩
          by_cases hki : k < i
          · exact leV_eq (if_pos hki) (pln_fdV _)
          · obtain rfl : k = i := by omega
            have e : ∀ (F : V), F = newV (s k) → leV [some 0, some 4] F (fdV (newFd (s k))) := fun F e => by rw [e]; exact leV_new _ _
            refine e _ ((if_neg (Nat.lt_irrefl k)).trans ?_)
            rw [Nat.sub_self]
            rfl
        · exact ⟨⟨⟨by omega, hd⟩, by omega⟩⟩
      · rename_i g3
        replace g3 : ¬ 0 < i := by omega
        rw [decide_eq_false g3, Bool.false_and] at hd
        refine Or.inl ?_
        conv => whnf
        repeat' (first | (refine And.intro (fun _ => ?_) (fun _ => ?_) <;> conv => whnf) | (refine And.intro ?_ ?_ <;> conv => whnf))
        all_goals try first | exact ⟨rfl⟩ | exact ⟨⟨rfl, rfl⟩⟩ | exact ⟨⟨rfl, rfl, rfl⟩⟩ | exact ⟨by omega⟩ | exact ⟨⟨by omega, by omega⟩⟩ | exact ⟨⟨by omega, by omega, by omega⟩⟩
        · exact ⟨by show (i + 1) * 448 ≤ _ ∧ i + 1 ≤ _; omega⟩
        refine ⟨i + 1, [some 0, some 4], ?_⟩
        conv => whnf
        repeat' (refine And.intro ?_ ?_ <;> conv => whnf)
        all_goals try first | exact ⟨rfl⟩ | exact ⟨⟨rfl, rfl⟩⟩ | exact ⟨⟨rfl, rfl, rfl⟩⟩ | exact ⟨by omega⟩ | exact ⟨⟨by omega, by omega⟩⟩ | exact ⟨⟨by omega, by omega, by omega⟩⟩ | exact ⟨fun k _ => leV_refl _ (by simp [arrV, pln, bf])⟩ | exact ⟨by rw [wrap_id (by omega) (by omega)]; rfl⟩
        · refine ⟨fun k hk => ?_⟩
          by_cases hki : k < i
          · exact leV_eq (if_pos hki) (pln_fdV _)
          · obtain rfl : k = i := by omega
            have e : ∀ (F : V), F = newV (s k) → leV [some 0, some 4] F (fdV (newFd (s k))) := fun F e => by rw [e]; exact leV_new _ _
            refine e _ ((if_neg (Nat.lt_irrefl k)).trans ?_)
            rw [Nat.sub_self]
            rfl
        · exact ⟨⟨⟨by omega, hd⟩, by omega⟩⟩
    · have hin : i = n := by
        have : ¬ ((i : Nat) : Int) < (n : Nat) := by simpa using h3
        omega
      subst hin
      rw [if_neg (by rw [hi2]; simp)]
      refine vc_ok hΓ mixed 1000 _ [] _ (by kernel_rfl) rfl ?_
      conv => whnf
      conv => whnf
      repeat' (first | (refine And.intro (fun _ => ?_) (fun _ => ?_) <;> conv => whnf) | (refine And.intro ?_ ?_ <;> conv => whnf))
      · exact ⟨by omega⟩
      · exact ⟨fun _ _ => own_fdV _⟩
      · refine Ld.two (Ld.imm fun k _ => ?_) (by simp) rfl (by simp [fdsV]) rfl
        rw [Nat.zero_add]
end Go.Proofs.YtaihjcpfjgpmoaaGreatDoor

/- Bounds: sums that stop at the greatest number, products of words; the bound. -/
namespace Go.Proofs.YtaihjcpfjgpmoaaGreatDoor
set_option linter.unusedVariables false
set_option linter.unusedSimpArgs false
set_option maxRecDepth 100000
open Go Go.DD
def maxN : Nat := 9223372036854775807
theorem maxN_eq : maxN = 9223372036854775807 := rfl
def plusN (a b : Nat) : Nat := if maxN - b < a then maxN else a + b
def roundsN (n e : Nat) : Nat := plusN (plusN (plusN e e) (plusN n n)) 1
def eachN (r : Nat) : Nat := plusN 8 (plusN r r)
def boundN (n e r : Nat) : Nat := if maxN < roundsN n e * eachN r then maxN else roundsN n e * eachN r
theorem plusN_eq {a b : Nat} (ha : a ≤ maxN) (hb : b ≤ maxN) : plusN a b = min (a + b) maxN := by
  unfold plusN
  split <;> omega
theorem roundsN_eq {n e : Nat} (hn : n ≤ maxN) (he : e ≤ maxN) : roundsN n e = min (2 * e + 2 * n + 1) maxN := by
  have hM : 1 ≤ maxN := by have := maxN_eq; omega
  have h1 := plusN_eq he he
  have h2 := plusN_eq hn hn
  have h3 := plusN_eq (a := plusN e e) (b := plusN n n) (by omega) (by omega)
  have h4 := plusN_eq (a := plusN (plusN e e) (plusN n n)) (b := 1) (by omega) hM
  unfold roundsN
  rw [h4, h3, h1, h2]
  clear h1 h2 h3 h4
  generalize maxN = M at *
  omega
theorem eachN_eq {r : Nat} (hr : r ≤ maxN) : eachN r = min (8 + 2 * r) maxN := by
  have hM : 8 ≤ maxN := by have := maxN_eq; omega
  have h1 := plusN_eq hr hr
  have h3 := plusN_eq (a := 8) (b := plusN r r) hM (by omega)
  unfold eachN
  rw [h3, h1]
  clear h1 h3
  generalize maxN = M at *
  omega
theorem boundN_eq (n e r : Nat) : boundN n e r = min (roundsN n e * eachN r) maxN := by
  unfold boundN
  split <;> omega
theorem bound_le (n e r : Nat) : boundN n e r ≤ maxN := by rw [boundN_eq]; omega
theorem bound_mono {n e r n' e' r' : Nat} (hn : n ≤ n') (he : e ≤ e') (hr : r ≤ r') (hn' : n' ≤ maxN) (he' : e' ≤ maxN) (hr' : r' ≤ maxN) : boundN n e r ≤ boundN n' e' r' := by
  rw [boundN_eq, boundN_eq]
  have h : roundsN n e * eachN r ≤ roundsN n' e' * eachN r' := Nat.mul_le_mul (by rw [roundsN_eq (by omega) (by omega), roundsN_eq hn' he']; omega) (by rw [eachN_eq (by omega), eachN_eq hr']; omega)
  omega
theorem bound_ge8 {n e r : Nat} (hn : n ≤ maxN) (he : e ≤ maxN) (hr : r ≤ maxN) : 8 ≤ boundN n e r := by
  rw [boundN_eq]
  have h : 1 * 8 ≤ roundsN n e * eachN r := Nat.mul_le_mul (by rw [roundsN_eq hn he]; have := maxN_eq; omega) (by rw [eachN_eq hr]; have := maxN_eq; omega)
  have := maxN_eq
  omega
theorem bound_small {n e r : Nat} (hn : n < 1048576) (he : e < 1048576) (hr : r < 1048576) : boundN n e r = (2 * e + 2 * n + 1) * (8 + 2 * r) := by
  have h1 : roundsN n e = 2 * e + 2 * n + 1 := by rw [roundsN_eq (by rw [maxN_eq]; omega) (by rw [maxN_eq]; omega)]; rw [maxN_eq]; omega
  have h2 : eachN r = 8 + 2 * r := by rw [eachN_eq (by rw [maxN_eq]; omega)]; rw [maxN_eq]; omega
  rw [boundN_eq, h1, h2]
  have h : (2 * e + 2 * n + 1) * (8 + 2 * r) ≤ 4194304 * 4194304 := Nat.mul_le_mul (by omega) (by omega)
  have := maxN_eq
  omega
theorem bound_max {e r : Nat} (he : e ≤ maxN) (hr : r ≤ maxN) : boundN maxN e r = maxN := by
  have h1 : roundsN maxN e = maxN := by rw [roundsN_eq (Nat.le_refl _) he]; have := maxN_eq; omega
  rw [boundN_eq, h1]
  have h : maxN * 8 ≤ maxN * eachN r := Nat.mul_le_mul (Nat.le_refl _) (by rw [eachN_eq hr]; have := maxN_eq; omega)
  have := maxN_eq
  omega
/-- A product of words, by halves. -/
theorem mul64_hi {x y : Nat} (hx : x < 2 ^ 64) (hy : y < 2 ^ 64) :
    x / 2 ^ 32 * (y / 2 ^ 32) + (x / 2 ^ 32 * (y % 2 ^ 32) + x % 2 ^ 32 * (y % 2 ^ 32) / 2 ^ 32) / 2 ^ 32 + ((x / 2 ^ 32 * (y % 2 ^ 32) + x % 2 ^ 32 * (y % 2 ^ 32) / 2 ^ 32) % 2 ^ 32 + x % 2 ^ 32 * (y / 2 ^ 32)) / 2 ^ 32 = x * y / 2 ^ 64 := by
  have hx1 : x = 2 ^ 32 * (x / 2 ^ 32) + x % 2 ^ 32 := (Nat.div_add_mod x (2 ^ 32)).symm
  have hy1 : y = 2 ^ 32 * (y / 2 ^ 32) + y % 2 ^ 32 := (Nat.div_add_mod y (2 ^ 32)).symm
  have hx3 : x % 2 ^ 32 ≤ 4294967295 := by omega
  have hy3 : y % 2 ^ 32 ≤ 4294967295 := by omega
  have hx4 : x / 2 ^ 32 ≤ 4294967295 := by omega
  have hy4 : y / 2 ^ 32 ≤ 4294967295 := by omega
  generalize x / 2 ^ 32 = a at *
  generalize x % 2 ^ 32 = b at *
  generalize y / 2 ^ 32 = c at *
  generalize y % 2 ^ 32 = d at *
  have h : x * y = a * c * 2 ^ 64 + (a * d + b * c) * 2 ^ 32 + b * d := by
    rw [hx1, hy1]
    simp only [Nat.add_mul, Nat.mul_add]
    have e1 : 2 ^ 32 * a * (2 ^ 32 * c) = a * c * 2 ^ 64 := by
      rw [show (2 ^ 64 : Nat) = 2 ^ 32 * 2 ^ 32 by decide]
      ac_rfl
    have e2 : 2 ^ 32 * a * d = a * d * 2 ^ 32 := by ac_rfl
    have e3 : b * (2 ^ 32 * c) = b * c * 2 ^ 32 := by ac_rfl
    omega
  rw [h]
  generalize a * c = p
  generalize a * d = q
  generalize b * c = s
  generalize b * d = t
  omega

def Fplus : FSpec := mkG (fun (a : Nat × Nat) => [.int .i64 (a.1 : Nat), .int .i64 (a.2 : Nat)]) (fun a => a.1 ≤ maxN ∧ a.2 ≤ maxN) (fun a => plusN a.1 a.2) (fun r => .int .i64 (r : Nat))
theorem fplus_ok : FOk Tryz.prog [] 19 Fplus := mkG_ok fun ⟨a, b⟩ ⟨ha, hb⟩ => by
  replace ha : a ≤ 9223372036854775807 := ha
  replace hb : b ≤ 9223372036854775807 := hb
  have w1 : IntKind.i64.wrap (9223372036854775807 - (b : Int)) = ((9223372036854775807 - b : Nat) : Int) := by rw [wrap_id (by omega) (by omega)]; omega
  have hΓ := ctxOk Tryz.f19.ntmps [] [] (FL.all .nil) (HL.all .nil)
  refine CP_of_OK hΓ Tryz.func19 (c := bodyOf Tryz.f19) rfl (by decide) rfl rfl (by simp) (vc_ok hΓ mixed 1000 _ [] _ (by kernel_rfl) rfl ?_)
  conv => whnf
  repeat' (first | (refine And.intro (fun _ => ?_) (fun _ => ?_) <;> conv => whnf) | (refine And.intro ?_ ?_ <;> conv => whnf))
  all_goals (try simp only [w1, decide_eq_true_eq, decide_eq_false_iff_not] at *)
  · rename_i h
    refine Ld.of (congrArg (V.int .i64) ?_)
    show (9223372036854775807 : Int) = (plusN a b : Nat)
    rw [plusN, if_pos (by rw [maxN_eq]; omega)]; rfl
  · rename_i h
    refine Ld.of (congrArg (V.int .i64) ?_)
    show IntKind.i64.wrap ((a : Int) + b) = (plusN a b : Nat)
    rw [plusN, if_neg (by rw [maxN_eq]; omega), wrap_id (by omega) (by omega)]; omega
theorem lo32 (x : Nat) (hx : x < 2 ^ 64) : bitsI .and .u64 (x : Nat) 4294967295 = ((x % 2 ^ 32 : Nat) : Int) := by
  have h := u64_and x 4294967295 hx (by decide)
  rw [show ((4294967295 : Nat) : Int) = 4294967295 from rfl] at h
  rw [h]
  congr 1
  exact Nat.and_two_pow_sub_one_eq_mod x 32
theorem hi32 (x : Nat) : shrI .u64 (x : Nat) 32 = ((x / 2 ^ 32 : Nat) : Int) := by
  rw [shrI, show (2 : Int) ^ min (Int.toNat 32) IntKind.u64.bits = 4294967296 from rfl, Int.fdiv_eq_ediv_of_nonneg _ (by decide)]
  omega
theorem mul32 {a b : Nat} (ha : a ≤ 4294967295) (hb : b ≤ 4294967295) : a * b ≤ 18446744065119617025 := Nat.le_trans (Nat.mul_le_mul ha hb) (Nat.le_refl _)
def Fmul : FSpec := mkG (fun (a : Nat × Nat) => [.int .u64 (a.1 : Nat), .int .u64 (a.2 : Nat)]) (fun a => a.1 < 2 ^ 64 ∧ a.2 < 2 ^ 64) (fun a => (a.1 * a.2 / 2 ^ 64, a.1 * a.2 % 2 ^ 64)) (fun r => .tup (.cons (.int .u64 (r.1 : Nat)) (.cons (.int .u64 (r.2 : Nat)) .nil)))
theorem fmul_ok : FOk Tryz.prog [] 20 Fmul := mkG_ok fun ⟨x, y⟩ ⟨hx, hy⟩ => by
  replace hx : x < 2 ^ 64 := hx
  replace hy : y < 2 ^ 64 := hy
  have h0 := mul64_hi hx hy
  have e1 := lo32 x hx
  have e2 := lo32 y hy
  have e3 := hi32 x
  have e4 := hi32 y
  have bp := mul32 (a := x / 2 ^ 32) (b := y / 2 ^ 32) (by omega) (by omega)
  have bq := mul32 (a := x / 2 ^ 32) (b := y % 2 ^ 32) (by omega) (by omega)
  have bs := mul32 (a := x % 2 ^ 32) (b := y / 2 ^ 32) (by omega) (by omega)
  have bt := mul32 (a := x % 2 ^ 32) (b := y % 2 ^ 32) (by omega) (by omega)
  have ew : IntKind.u64.wrap (((x * y : Nat)) : Int) = ((x * y % 2 ^ 64 : Nat) : Int) := by
    rw [IntKind.wrap_u64]; omega
  have hΓ := ctxOk Tryz.f20.ntmps [] [] (FL.all .nil) (HL.all .nil)
  refine CP_of_OK hΓ Tryz.func20 (c := bodyOf Tryz.f20) rfl (by decide) rfl rfl (by simp) (vc_ok hΓ mixed 1000 _ [] _ (by kernel_rfl) rfl ?_)
  conv => whnf
  repeat' (first | (refine And.intro (fun _ => ?_) (fun _ => ?_) <;> conv => whnf) | (refine And.intro ?_ ?_ <;> conv => whnf))
  all_goals try first | exact ⟨rfl⟩ | exact ⟨⟨rfl, rfl⟩⟩ | exact ⟨⟨rfl, rfl, rfl⟩⟩ | exact ⟨by omega⟩ | exact ⟨⟨by omega, by omega⟩⟩ | exact ⟨⟨by omega, by omega, by omega⟩⟩
  refine Ld.of ?_
  show V.tup (.cons (.int .u64 _) (.cons (.int .u64 (IntKind.u64.wrap ((x : Int) * (y : Int)))) .nil)) = V.tup (.cons (.int .u64 ((x * y / 2 ^ 64 : Nat) : Int)) (.cons (.int .u64 ((x * y % 2 ^ 64 : Nat) : Int)) .nil))
  rw [← Int.natCast_mul, ew]
  refine congrArg (fun n => V.tup (.cons (.int .u64 n) (.cons (.int .u64 ((x * y % 2 ^ 64 : Nat) : Int)) .nil))) ?_
  rw [← h0]
  simp only [e1, e2, e3, e4, ← Int.natCast_mul]
  generalize x / 2 ^ 32 * (y / 2 ^ 32) = p at *
  generalize x / 2 ^ 32 * (y % 2 ^ 32) = q at *
  generalize x % 2 ^ 32 * (y / 2 ^ 32) = s at *
  generalize x % 2 ^ 32 * (y % 2 ^ 32) = t at *
  simp only [u64_wrap p (by omega), u64_wrap q (by omega), u64_wrap s (by omega), u64_wrap t (by omega), hi32, ← Int.natCast_add, u64_wrap (q + t / 2 ^ 32) (by omega), lo32 (q + t / 2 ^ 32) (by omega), u64_wrap ((q + t / 2 ^ 32) % 2 ^ 32 + s) (by omega), u64_wrap (p + (q + t / 2 ^ 32) / 2 ^ 32) (by omega)]
  rw [u64_wrap _ (by omega)]
def Fbound : FSpec := mkG (fun (a : Int × Int × Int) => [.int .i64 a.1, .int .i64 a.2.1, .int .i64 a.2.2]) (fun a => a.1 ≤ 9223372036854775807 ∧ a.2.1 ≤ 9223372036854775807 ∧ a.2.2 ≤ 9223372036854775807) (fun a => if a.1 < 0 ∨ a.2.1 < 0 ∨ a.2.2 < 0 then 0 else boundN a.1.toNat a.2.1.toNat a.2.2.toNat) (fun r => .int .i64 (r : Nat))
theorem fbound_ok : FOk Tryz.prog [] 6 Fbound := mkG_ok fun ⟨n, e, r⟩ ⟨hn, he, hr⟩ => by
  replace hn : n ≤ 9223372036854775807 := hn
  replace he : e ≤ 9223372036854775807 := he
  replace hr : r ≤ 9223372036854775807 := hr
  have hM := maxN_eq
  have hpl : ∀ a b, b ≤ maxN → plusN a b ≤ maxN := fun a b hb => by unfold plusN; split <;> omega
  have hΓ := ctxOk Tryz.f6.ntmps [(19, Fplus), (20, Fmul)] [] (FL.all (.cons fplus_ok (.cons fmul_ok .nil))) (HL.all .nil)
  refine CP_of_OK hΓ Tryz.func6 (c := bodyOf Tryz.f6) rfl (by decide) rfl rfl (by simp) (vc_ok hΓ mixed 1000 _ [] _ (by kernel_rfl) rfl ?_)
  conv => whnf
  repeat' (first | (refine And.intro (fun _ => ?_) (fun _ => ?_) <;> conv => whnf) | (refine And.intro ?_ ?_ <;> conv => whnf))
  all_goals (try simp only [decide_eq_true_eq, decide_eq_false_iff_not] at *)
  · rename_i h
    refine Ld.of (congrArg (V.int .i64) ?_)
    rw [if_pos (.inl h)]; rfl
  · rename_i h
    refine Ld.of (congrArg (V.int .i64) ?_)
    rw [if_pos (.inr (.inl h))]; rfl
  · rename_i h
    refine Ld.of (congrArg (V.int .i64) ?_)
    rw [if_pos (.inr (.inr h))]; rfl
  rename_i g1 g2 g3
  obtain ⟨n, rfl⟩ := Int.eq_ofNat_of_zero_le (Int.not_lt.1 g1)
  obtain ⟨e, rfl⟩ := Int.eq_ofNat_of_zero_le (Int.not_lt.1 g2)
  obtain ⟨r, rfl⟩ := Int.eq_ofNat_of_zero_le (Int.not_lt.1 g3)
  rw [if_neg (by simp only [not_or]; exact ⟨g1, g2, g3⟩)]
  refine ⟨(e, e), ⟨AE.refl _, AE.refl _, trivial⟩, ⟨by show e ≤ maxN; omega, by show e ≤ maxN; omega⟩, ?_⟩
  intro r1 h1
  conv => whnf
  repeat' (first | (refine And.intro (fun _ => ?_) (fun _ => ?_) <;> conv => whnf) | (refine And.intro ?_ ?_ <;> conv => whnf))
  refine ⟨(n, n), ⟨AE.refl _, AE.refl _, trivial⟩, ⟨by show n ≤ maxN; omega, by show n ≤ maxN; omega⟩, ?_⟩
  intro r2 h2
  replace h1 : r1 = plusN e e := h1
  replace h2 : r2 = plusN n n := h2
  have b1 := hpl e e (by omega)
  have b2 := hpl n n (by omega)
  conv => whnf
  repeat' (first | (refine And.intro (fun _ => ?_) (fun _ => ?_) <;> conv => whnf) | (refine And.intro ?_ ?_ <;> conv => whnf))
  refine ⟨(r1, r2), ⟨AE.refl _, AE.refl _, trivial⟩, ⟨by rw [h1]; exact b1, by rw [h2]; exact b2⟩, ?_⟩
  intro r3 h3
  replace h3 : r3 = plusN r1 r2 := h3
  have b3 := hpl r1 r2 (by rw [h2]; exact b2)
  conv => whnf
  repeat' (first | (refine And.intro (fun _ => ?_) (fun _ => ?_) <;> conv => whnf) | (refine And.intro ?_ ?_ <;> conv => whnf))
  refine ⟨(r3, 1), ⟨AE.refl _, AE.refl _, trivial⟩, ⟨by rw [h3]; exact b3, by show 1 ≤ maxN; omega⟩, ?_⟩
  intro r4 h4
  replace h4 : r4 = plusN r3 1 := h4
  have b4 := hpl r3 1 (by omega)
  conv => whnf
  repeat' (first | (refine And.intro (fun _ => ?_) (fun _ => ?_) <;> conv => whnf) | (refine And.intro ?_ ?_ <;> conv => whnf))
  refine ⟨(r, r), ⟨AE.refl _, AE.refl _, trivial⟩, ⟨by show r ≤ maxN; omega, by show r ≤ maxN; omega⟩, ?_⟩
  intro r5 h5
  replace h5 : r5 = plusN r r := h5
  have b5 := hpl r r (by omega)
  conv => whnf
  repeat' (first | (refine And.intro (fun _ => ?_) (fun _ => ?_) <;> conv => whnf) | (refine And.intro ?_ ?_ <;> conv => whnf))
  refine ⟨(8, r5), ⟨AE.refl _, AE.refl _, trivial⟩, ⟨by show 8 ≤ maxN; omega, by rw [h5]; exact b5⟩, ?_⟩
  intro r6 h6
  replace h6 : r6 = plusN 8 r5 := h6
  have b6 := hpl 8 r5 (by rw [h5]; exact b5)
  have e4 : r4 = roundsN n e := by rw [h4, h3, h2, h1]; rfl
  have e6 : r6 = eachN r := by rw [h6, h5]; rfl
  have u4 : IntKind.u64.wrap (r4 : Int) = (r4 : Nat) := u64_wrap r4 (by omega)
  have u6 : IntKind.u64.wrap (r6 : Int) = (r6 : Nat) := u64_wrap r6 (by omega)
  rw [← h4] at b4
  rw [← h6] at b6
  clear h1 h2 h3 h4 h5 h6 b1 b2 b3 b5
  conv => whnf
  repeat' (first | (refine And.intro (fun _ => ?_) (fun _ => ?_) <;> conv => whnf) | (refine And.intro ?_ ?_ <;> conv => whnf))
  refine ⟨(r4, r6), ⟨AE.of (congrArg (V.int .u64) u4), AE.of (congrArg (V.int .u64) u6), trivial⟩, ⟨by show r4 < 2 ^ 64; omega, by show r6 < 2 ^ 64; omega⟩, ?_⟩
  intro q hq
  replace hq : q = (r4 * r6 / 2 ^ 64, r4 * r6 % 2 ^ 64) := hq
  have q1 : q.1 = r4 * r6 / 2 ^ 64 := by rw [hq]
  have q2 : q.2 = r4 * r6 % 2 ^ 64 := by rw [hq]
  have eb : boundN n e r = if maxN < r4 * r6 then maxN else r4 * r6 := by rw [boundN, ← e4, ← e6]
  generalize r4 * r6 = z at *
  conv => whnf
  repeat' (first | (refine And.intro (fun _ => ?_) (fun _ => ?_) <;> conv => whnf) | (refine And.intro ?_ ?_ <;> conv => whnf))
  all_goals (try simp only [decide_eq_true_eq, decide_eq_false_iff_not] at *)
  all_goals
    refine Ld.of (congrArg (V.int .i64) ?_)
    simp only [Int.toNat_natCast]
    rw [eb]
  · rename_i h
    rw [if_pos (by omega), hM]; rfl
  · rename_i h1 h2
    rw [if_pos (by omega), hM]; rfl
  · rename_i h1 h2
    rw [if_neg (by omega), wrap_id (by omega) (by omega)]
    omega
theorem int_mul {a b : Nat} (ha : a ≤ 4194304) (hb : b ≤ 4194304) : a * b ≤ 17592186044416 := Nat.le_trans (Nat.mul_le_mul ha hb) (Nat.le_refl _)
end Go.Proofs.YtaihjcpfjgpmoaaGreatDoor

/- Twins of entries, proofs, feeds. -/
namespace Go.Proofs.YtaihjcpfjgpmoaaGreatDoor
set_option linter.unusedVariables false
set_option linter.unusedSimpArgs false
set_option maxRecDepth 100000
open Go Go.DD
def F122 : FSpec := mkG (fun (a : By) => [a.v]) okB (fun a => a.l) (byV false)
theorem f122_ok : FOk Tryz.prog [] 109 F122 := mkG_ok fun a ⟨ha, hn⟩ => by
  refine CP.by1 ha ?_
  generalize a.l = l at hn
  generalize a.b = b1
  have hΓ := ctxOk Tryz.f109.ntmps [] [] (FL.all .nil) (HL.all .nil)
  refine CP_of_OK hΓ Tryz.func109 (c := bodyOf Tryz.f109) rfl (by decide) rfl rfl (by simp) (vc_ok hΓ mixed 1000 _ [] _ (by kernel_rfl) rfl ?_)
  conv => whnf
  intro b hb
  conv => whnf
  repeat' (first | (refine And.intro (fun _ => ?_) (fun _ => ?_) <;> conv => whnf) | (refine And.intro ?_ ?_ <;> conv => whnf))
  · rename_i hb2
    have h0 := List.eq_nil_of_length_eq_zero (hb hb2)
    subst h0
    exact Ld.emp
  refine Or.inl ?_
  conv => whnf
  repeat' (first | (refine And.intro (fun _ => ?_) (fun _ => ?_) <;> conv => whnf) | (refine And.intro ?_ ?_ <;> conv => whnf))
  all_goals try first | exact ⟨rfl⟩ | exact ⟨⟨rfl, rfl⟩⟩ | exact ⟨⟨rfl, rfl, rfl⟩⟩ | exact ⟨by omega⟩ | exact ⟨⟨by omega, by omega⟩⟩ | exact ⟨⟨by omega, by omega, by omega⟩⟩ | exact ⟨⟨by show (0 + l.length) * 1 ≤ _; omega, by omega⟩⟩ | exact ⟨fun _ _ => own_bf _ _⟩
  show Ld (.imm false 1 (0 + l.length) _) _
  rw [Nat.zero_add]
  exact Ld.imm fun k hk => (if_neg (Nat.not_lt_zero _)).trans (congrArg (bf l) (by omega))
def FtwE : FSpec := mkG (fun (e : Ent) => [entV e]) okE (fun e => e) entV
theorem ftwE_ok : FOk Tryz.prog [] 68 FtwE := mkG_ok fun e hv => by
  have hΓ := ctxOk Tryz.f68.ntmps [(109, F122)] [] (FL.all (.cons f122_ok .nil)) (HL.all .nil)
  refine CP_of_OK hΓ Tryz.func68 (c := bodyOf Tryz.f68) rfl (by decide) rfl rfl (by simp) (vc_ok hΓ mixed 1000 _ [] _ (by kernel_rfl) rfl ?_)
  conv => whnf
  repeat' (first | (refine And.intro (fun _ => ?_) (fun _ => ?_) <;> conv => whnf) | (refine And.intro ?_ ?_ <;> conv => whnf))
  refine ⟨.of false e.val, ⟨AE.refl _, trivial⟩, ⟨trivial, hv⟩, ?_⟩
  intro r hr
  replace hr : r = e.val := hr
  subst hr
  conv => whnf
  repeat' (first | (refine And.intro (fun _ => ?_) (fun _ => ?_) <;> conv => whnf) | (refine And.intro ?_ ?_ <;> conv => whnf))
  all_goals try first | exact ⟨rfl⟩ | exact ⟨⟨rfl, rfl⟩⟩ | exact ⟨⟨rfl, rfl, rfl⟩⟩ | exact ⟨fun _ _ => rfl⟩ | exact ⟨fun _ _ => trivial⟩ | exact ⟨fun k _ => isU8_bf _ k⟩ | exact ⟨by omega⟩ | exact ⟨⟨by omega, by omega⟩⟩ | exact ⟨⟨by omega, by omega, by omega⟩⟩
  exact Ld.refl _
def FtwP : FSpec := mkG (fun (p : Pf) => [pfV p]) okP (fun p => p) pfV
theorem ftwP_ok : FOk Tryz.prog [] 108 FtwP := mkG_ok fun p ⟨hv1, hv2⟩ => by
  have hΓ := ctxOk Tryz.f108.ntmps [(68, FtwE)] [] (FL.all (.cons ftwE_ok .nil)) (HL.all .nil)
  refine CP_of_OK hΓ Tryz.func108 (c := bodyOf Tryz.f108) rfl (by decide) rfl rfl (by simp) (vc_ok hΓ mixed 1000 _ [] _ (by kernel_rfl) rfl ?_)
  conv => whnf
  repeat' (first | (refine And.intro (fun _ => ?_) (fun _ => ?_) <;> conv => whnf) | (refine And.intro ?_ ?_ <;> conv => whnf))
  all_goals try first | exact ⟨rfl⟩ | exact ⟨⟨rfl, rfl⟩⟩ | exact ⟨⟨rfl, rfl, rfl⟩⟩ | exact ⟨fun _ _ => rfl⟩ | exact ⟨fun _ _ => trivial⟩ | exact ⟨fun k _ => isU8_bf _ k⟩ | exact ⟨by omega⟩ | exact ⟨⟨by omega, by omega⟩⟩ | exact ⟨⟨by omega, by omega, by omega⟩⟩
  refine ⟨p.a, ⟨AE.refl _, trivial⟩, ⟨hv1⟩, ?_⟩
  intro r hr
  replace hr : r = p.a := hr
  subst hr
  conv => whnf
  repeat' (first | (refine And.intro (fun _ => ?_) (fun _ => ?_) <;> conv => whnf) | (refine And.intro ?_ ?_ <;> conv => whnf))
  all_goals try first | exact ⟨rfl⟩ | exact ⟨⟨rfl, rfl⟩⟩ | exact ⟨⟨rfl, rfl, rfl⟩⟩ | exact ⟨fun _ _ => rfl⟩ | exact ⟨fun _ _ => trivial⟩ | exact ⟨fun k _ => isU8_bf _ k⟩ | exact ⟨by omega⟩ | exact ⟨⟨by omega, by omega⟩⟩ | exact ⟨⟨by omega, by omega, by omega⟩⟩
  refine ⟨p.b, ⟨AE.refl _, trivial⟩, ⟨hv2⟩, ?_⟩
  intro r hr
  replace hr : r = p.b := hr
  subst hr
  conv => whnf
  repeat' (first | (refine And.intro (fun _ => ?_) (fun _ => ?_) <;> conv => whnf) | (refine And.intro ?_ ?_ <;> conv => whnf))
  all_goals try first | exact ⟨rfl⟩ | exact ⟨⟨rfl, rfl⟩⟩ | exact ⟨⟨rfl, rfl, rfl⟩⟩ | exact ⟨fun _ _ => rfl⟩ | exact ⟨fun _ _ => trivial⟩ | exact ⟨fun k _ => isU8_bf _ k⟩ | exact ⟨by omega⟩ | exact ⟨⟨by omega, by omega⟩⟩ | exact ⟨⟨by omega, by omega, by omega⟩⟩
  exact Ld.refl _
theorem c107_ok : CtxOk Tryz.prog (ctx Tryz.f107.ntmps [(68, FtwE)] []) := ctxOk Tryz.f107.ntmps [(68, FtwE)] [] (FL.all (.cons ftwE_ok .nil)) (HL.all .nil)
def S107 : SpecH := fun xs h κ => xs.length = 1 ∧ inlineS Tryz.prog (ctx Tryz.f107.ntmps [(68, FtwE)] []) (bodyOf Tryz.f107) Tryz.f107.results.toList xs h κ
theorem s107_ok : SpecHOk Tryz.prog [] 107 S107 := inline_ok (c := bodyOf Tryz.f107) (np := 1) c107_ok Tryz.func107 rfl (by decide) rfl (by decide)
/-- Entries' twins, in a row that is new. -/
def HtwE : SpecH := mkHS (fun (a : Ents) => [entsV a.b a.n a.es]) (fun _ => []) (fun a => a.n ≤ 10000 ∧ ∀ k, k < a.n → okE (a.es k)) (fun a => .sl 0 [] 133 0 a.n a.n) (fun a => [some (.row 133 a.n fun k => entV (a.es k))])
theorem htwE_ok : SpecHOk Tryz.prog [] 107 HtwE := mkHS_ok s107_ok (fun ⟨b, n, es⟩ κ ⟨hn, hv⟩ h => by
  replace hn : n ≤ 10000 := hn
  replace hv : ∀ k, k < n → okE (es k) := hv
  refine ⟨rfl, ?_⟩
  refine vc_ok (CtxOk.inner c107_ok _) mixed 1000 _ [] _ (by kernel_rfl) rfl ?_
  conv => whnf
  refine OK_loopC (ι := Nat) (fun i => [(3, .sl 0 [] 133 0 i i), (6, entsV b n es), (7, .int .i64 (n : Nat)), (8, .int .i64 (i : Nat))]) (fun i => [some (.row 133 i fun k => entV (es k))]) (fun i => i ≤ n) (fun i => n - i) 0 [none] ?_ (fun i hi => vc_ok (CtxOk.inner c107_ok _) mixed 1000 _ [] _ (by kernel_rfl) rfl ?_)
  · conv => whnf
    repeat' (first | (refine And.intro (fun _ => ?_) (fun _ => ?_) <;> conv => whnf) | (refine And.intro ?_ ?_ <;> conv => whnf))
    all_goals try first | exact ⟨rfl⟩ | exact ⟨⟨rfl, rfl⟩⟩ | exact ⟨⟨rfl, rfl, rfl⟩⟩ | exact ⟨fun _ _ => rfl⟩ | exact ⟨fun _ _ => trivial⟩ | exact ⟨fun k _ => isU8_bf _ k⟩ | exact ⟨by omega⟩ | exact ⟨⟨by omega, by omega⟩⟩ | exact ⟨⟨by omega, by omega, by omega⟩⟩
  · conv => whnf
    refine And.intro (fun h3 => ?_) (fun h3 => ?_) <;> conv => whnf
    · have hin : i < n := by simpa using h3
      conv => whnf
      repeat' (first | (refine And.intro (fun _ => ?_) (fun _ => ?_) <;> conv => whnf) | (refine And.intro ?_ ?_ <;> conv => whnf))
      all_goals (try simp only [decide_eq_true_eq, decide_eq_false_iff_not, Int.toNat_natCast, Bool.not_eq_true, Bool.not_eq_false] at *)
      all_goals try first | exact ⟨rfl⟩ | exact ⟨⟨rfl, rfl⟩⟩ | exact ⟨⟨rfl, rfl, rfl⟩⟩ | exact ⟨fun _ _ => rfl⟩ | exact ⟨fun _ _ => trivial⟩ | exact ⟨fun k _ => isU8_bf _ k⟩ | exact ⟨by omega⟩ | exact ⟨⟨by omega, by omega⟩⟩ | exact ⟨⟨by omega, by omega, by omega⟩⟩
      refine ⟨es i, ⟨AE.refl _, trivial⟩, ⟨hv i hin⟩, ?_⟩
      intro r hr
      replace hr : r = es i := hr
      subst hr
      conv => whnf
      refine And.intro (show Ob (_ ≤ _) from ⟨by omega⟩) ?_
      conv => whnf
      refine Or.inl ?_
      conv => whnf
      repeat' (refine And.intro ?_ ?_ <;> conv => whnf)
      all_goals try first | exact ⟨rfl⟩ | exact ⟨⟨rfl, rfl⟩⟩ | exact ⟨⟨rfl, rfl, rfl⟩⟩ | exact ⟨fun _ _ => rfl⟩ | exact ⟨fun _ _ => trivial⟩ | exact ⟨fun k _ => isU8_bf _ k⟩ | exact ⟨by omega⟩ | exact ⟨⟨by omega, by omega⟩⟩ | exact ⟨⟨by omega, by omega, by omega⟩⟩ | exact ⟨⟨by simp only []; omega, by omega⟩⟩
      refine ⟨i + 1, [some 3], ?_⟩
      conv => whnf
      repeat' (refine And.intro ?_ ?_ <;> conv => whnf)
      all_goals try first | exact ⟨rfl⟩ | exact ⟨⟨rfl, rfl⟩⟩ | exact ⟨⟨rfl, rfl, rfl⟩⟩ | exact ⟨fun _ _ => rfl⟩ | exact ⟨fun _ _ => trivial⟩ | exact ⟨fun k _ => isU8_bf _ k⟩ | exact ⟨by omega⟩ | exact ⟨⟨by omega, by omega⟩⟩ | exact ⟨⟨by omega, by omega, by omega⟩⟩
      · exact ⟨by rw [wrap_id (by omega) (by omega)]; rfl⟩
      · refine ⟨?_⟩
        refine leV_snoc ?_ ?_ fun k _ => pln_entV _
        · exact fun k hk => if_pos hk
        · exact (if_neg (Nat.lt_irrefl i)).trans (by rw [Nat.sub_self]; rfl)
    · have hin : i = n := by
        have : ¬ ((i : Nat) : Int) < (n : Nat) := by simpa using h3
        omega
      subst hin
      refine vc_ok (CtxOk.inner c107_ok _) mixed 1000 _ [] _ (by kernel_rfl) rfl ?_
      conv => whnf
      refine ⟨[some 0], .sl 0 [] 133 0 i i, [some (.row 133 i fun k => entV (es k))], ?_⟩
      conv => whnf
      repeat' (refine And.intro ?_ ?_ <;> conv => whnf)
      all_goals try first | exact ⟨rfl⟩ | exact ⟨⟨rfl, rfl⟩⟩ | exact ⟨⟨rfl, rfl, rfl⟩⟩ | exact ⟨by omega⟩ | exact ⟨⟨by omega, by omega⟩⟩ | exact ⟨⟨by omega, by omega, by omega⟩⟩ | exact ⟨fun k _ => leV_refl _ (pln_entV _)⟩
      exact h) (fun _ => by simp) (fun _ => by simp [rok]) (fun x u hu => by
    simp at hu
    subst hu
    simp only [rok]
    intro k _
    exact noref_entV _)
def FtwEs : FSpec := mkG (fun (a : Ents) => [entsV a.b a.n a.es]) (fun a => a.n ≤ 10000 ∧ ∀ k, k < a.n → okE (a.es k)) (fun a => a) (fun a => entsV false a.n a.es)
theorem ftwEs_ok : FOk Tryz.prog [] 107 FtwEs := mkG_ok fun ⟨b, n, es⟩ ⟨hn, hv⟩ => by
  replace hn : n ≤ 10000 := hn
  replace hv : ∀ k, k < n → okE (es k) := hv
  have hΓ := ctxOk Tryz.f107.ntmps [(68, FtwE)] [] (FL.all (.cons ftwE_ok .nil)) (HL.all .nil)
  refine CP_of_OK hΓ Tryz.func107 (c := bodyOf Tryz.f107) rfl (by decide) rfl rfl (by simp) (vc_ok hΓ mixed 1000 _ [] _ (by kernel_rfl) rfl ?_)
  conv => whnf
  refine OK_loopC (ι := Nat) (fun i => [(3, .sl 0 [] 133 0 i i), (6, entsV b n es), (7, .int .i64 (n : Nat)), (8, .int .i64 (i : Nat))]) (fun i => [some (.row 133 i fun k => entV (es k))]) (fun i => i ≤ n) (fun i => n - i) 0 [none] ?_ (fun i hi => vc_ok hΓ mixed 1000 _ [] _ (by kernel_rfl) rfl ?_)
  · conv => whnf
    repeat' (first | (refine And.intro (fun _ => ?_) (fun _ => ?_) <;> conv => whnf) | (refine And.intro ?_ ?_ <;> conv => whnf))
    all_goals try first | exact ⟨rfl⟩ | exact ⟨⟨rfl, rfl⟩⟩ | exact ⟨⟨rfl, rfl, rfl⟩⟩ | exact ⟨fun _ _ => rfl⟩ | exact ⟨fun _ _ => trivial⟩ | exact ⟨fun k _ => isU8_bf _ k⟩ | exact ⟨by omega⟩ | exact ⟨⟨by omega, by omega⟩⟩ | exact ⟨⟨by omega, by omega, by omega⟩⟩
  · conv => whnf
    refine And.intro (fun h3 => ?_) (fun h3 => ?_) <;> conv => whnf
    · have hin : i < n := by simpa using h3
      conv => whnf
      repeat' (first | (refine And.intro (fun _ => ?_) (fun _ => ?_) <;> conv => whnf) | (refine And.intro ?_ ?_ <;> conv => whnf))
      all_goals (try simp only [decide_eq_true_eq, decide_eq_false_iff_not, Int.toNat_natCast, Bool.not_eq_true, Bool.not_eq_false] at *)
      all_goals try first | exact ⟨rfl⟩ | exact ⟨⟨rfl, rfl⟩⟩ | exact ⟨⟨rfl, rfl, rfl⟩⟩ | exact ⟨fun _ _ => rfl⟩ | exact ⟨fun _ _ => trivial⟩ | exact ⟨fun k _ => isU8_bf _ k⟩ | exact ⟨by omega⟩ | exact ⟨⟨by omega, by omega⟩⟩ | exact ⟨⟨by omega, by omega, by omega⟩⟩
      refine ⟨es i, ⟨AE.refl _, trivial⟩, ⟨hv i hin⟩, ?_⟩
      intro r hr
      replace hr : r = es i := hr
      subst hr
      conv => whnf
      refine And.intro (show Ob (_ ≤ _) from ⟨by omega⟩) ?_
      conv => whnf
      refine Or.inl ?_
      conv => whnf
      repeat' (refine And.intro ?_ ?_ <;> conv => whnf)
      all_goals try first | exact ⟨rfl⟩ | exact ⟨⟨rfl, rfl⟩⟩ | exact ⟨⟨rfl, rfl, rfl⟩⟩ | exact ⟨fun _ _ => rfl⟩ | exact ⟨fun _ _ => trivial⟩ | exact ⟨fun k _ => isU8_bf _ k⟩ | exact ⟨by omega⟩ | exact ⟨⟨by omega, by omega⟩⟩ | exact ⟨⟨by omega, by omega, by omega⟩⟩ | exact ⟨⟨by simp only []; omega, by omega⟩⟩
      refine ⟨i + 1, [some 3], ?_⟩
      conv => whnf
      repeat' (refine And.intro ?_ ?_ <;> conv => whnf)
      all_goals try first | exact ⟨rfl⟩ | exact ⟨⟨rfl, rfl⟩⟩ | exact ⟨⟨rfl, rfl, rfl⟩⟩ | exact ⟨fun _ _ => rfl⟩ | exact ⟨fun _ _ => trivial⟩ | exact ⟨fun k _ => isU8_bf _ k⟩ | exact ⟨by omega⟩ | exact ⟨⟨by omega, by omega⟩⟩ | exact ⟨⟨by omega, by omega, by omega⟩⟩
      · exact ⟨by rw [wrap_id (by omega) (by omega)]; rfl⟩
      · refine ⟨?_⟩
        refine leV_snoc ?_ ?_ fun k _ => pln_entV _
        · exact fun k hk => if_pos hk
        · exact (if_neg (Nat.lt_irrefl i)).trans (by rw [Nat.sub_self]; rfl)
    · have hin : i = n := by
        have : ¬ ((i : Nat) : Int) < (n : Nat) := by simpa using h3
        omega
      subst hin
      refine vc_ok hΓ mixed 1000 _ [] _ (by kernel_rfl) rfl ?_
      conv => whnf
      conv => whnf
      repeat' (refine And.intro ?_ ?_ <;> conv => whnf)
      · exact ⟨by omega⟩
      · exact ⟨fun k _ => own_entV _⟩
      · refine Ld.imm fun k hk => ?_
        rw [Nat.zero_add]
def FtwF : FSpec := mkG (fun (f : Fd) => [fdV f]) okFd (fun f => f) fdV
theorem ftwF_ok : FOk Tryz.prog [] 67 FtwF := mkG_ok fun f ⟨hn, hv, hp⟩ => by
  have hΓ := ctxOk Tryz.f67.ntmps [(108, FtwP), (107, FtwEs)] [] (FL.all (.cons ftwP_ok (.cons ftwEs_ok .nil))) (HL.all .nil)
  refine CP_of_OK hΓ Tryz.func67 (c := bodyOf Tryz.f67) rfl (by decide) rfl rfl (by simp) (vc_ok hΓ mixed 1000 _ [] _ (by kernel_rfl) rfl ?_)
  conv => whnf
  repeat' (first | (refine And.intro (fun _ => ?_) (fun _ => ?_) <;> conv => whnf) | (refine And.intro ?_ ?_ <;> conv => whnf))
  all_goals try first | exact ⟨rfl⟩ | exact ⟨⟨rfl, rfl⟩⟩ | exact ⟨⟨rfl, rfl, rfl⟩⟩ | exact ⟨fun _ _ => rfl⟩ | exact ⟨fun _ _ => trivial⟩ | exact ⟨fun k _ => isU8_bf _ k⟩ | exact ⟨by omega⟩ | exact ⟨⟨by omega, by omega⟩⟩ | exact ⟨⟨by omega, by omega, by omega⟩⟩
  refine ⟨⟨false, f.n, f.es⟩, ⟨AE.refl _, trivial⟩, ⟨hn, hv⟩, ?_⟩
  intro r hr
  replace hr : r = ⟨false, f.n, f.es⟩ := hr
  subst hr
  conv => whnf
  repeat' (first | (refine And.intro (fun _ => ?_) (fun _ => ?_) <;> conv => whnf) | (refine And.intro ?_ ?_ <;> conv => whnf))
  all_goals try first | exact ⟨rfl⟩ | exact ⟨⟨rfl, rfl⟩⟩ | exact ⟨⟨rfl, rfl, rfl⟩⟩ | exact ⟨fun _ _ => rfl⟩ | exact ⟨fun _ _ => trivial⟩ | exact ⟨fun k _ => isU8_bf _ k⟩ | exact ⟨by omega⟩ | exact ⟨⟨by omega, by omega⟩⟩ | exact ⟨⟨by omega, by omega, by omega⟩⟩
  refine ⟨f.pf, ⟨AE.refl _, trivial⟩, ⟨hp⟩, ?_⟩
  intro r hr
  replace hr : r = f.pf := hr
  subst hr
  conv => whnf
  repeat' (first | (refine And.intro (fun _ => ?_) (fun _ => ?_) <;> conv => whnf) | (refine And.intro ?_ ?_ <;> conv => whnf))
  all_goals try first | exact ⟨rfl⟩ | exact ⟨⟨rfl, rfl⟩⟩ | exact ⟨⟨rfl, rfl, rfl⟩⟩ | exact ⟨fun _ _ => rfl⟩ | exact ⟨fun _ _ => trivial⟩ | exact ⟨fun k _ => isU8_bf _ k⟩ | exact ⟨by omega⟩ | exact ⟨⟨by omega, by omega⟩⟩ | exact ⟨⟨by omega, by omega, by omega⟩⟩ | exact ⟨fun k _ => own_entV _⟩
  exact Ld.refl _
/-- A feed's twin, whose entries may be appended to. -/
def HtwF : SpecH := mkHS (fun (f : Fd) => [fdV f]) (fun _ => []) okFd (fun f => .st (.cons (arrV 32 f.author) (.cons (.sl 0 [] 133 0 f.n f.n) (.cons (.bool f.shut) (.cons (pfV f.pf) .nil))))) (fun f => [some (.row 133 f.n fun k => entV (f.es k))])
theorem c67_ok : CtxOk Tryz.prog (ctxG Tryz.f67.ntmps [(108, FtwP)] [(107, HtwE)] [(1, .one 0 (.one 1 (.one 3 (.many (.cons 2 (.one 4 (.one 5 (.one 6 (.one 7 (.one 8 (.one 9 (.done))))))) (.cons 4 (.one 2 (.one 5 (.one 6 (.one 7 (.one 8 (.one 9 (.done))))))) (.nil)))))))]) := ctxG_ok Tryz.f67.ntmps [(108, FtwP)] [(107, HtwE)] [(1, .one 0 (.one 1 (.one 3 (.many (.cons 2 (.one 4 (.one 5 (.one 6 (.one 7 (.one 8 (.one 9 (.done))))))) (.cons 4 (.one 2 (.one 5 (.one 6 (.one 7 (.one 8 (.one 9 (.done))))))) (.nil)))))))] (.cons (ftwP_ok.g) .nil) (.cons (hg htwE_ok) .nil)
def S67 : SpecH := fun xs h κ => xs.length = 1 ∧ inlineS Tryz.prog (ctxG Tryz.f67.ntmps [(108, FtwP)] [(107, HtwE)] [(1, .one 0 (.one 1 (.one 3 (.many (.cons 2 (.one 4 (.one 5 (.one 6 (.one 7 (.one 8 (.one 9 (.done))))))) (.cons 4 (.one 2 (.one 5 (.one 6 (.one 7 (.one 8 (.one 9 (.done))))))) (.nil)))))))]) (bodyOf Tryz.f67) Tryz.f67.results.toList xs h κ
theorem s67_ok : SpecHOk Tryz.prog G 67 S67 := inline_ok (c := bodyOf Tryz.f67) (np := 1) c67_ok Tryz.func67 rfl (by decide) rfl (by decide)
theorem htwF_ok : SpecHOk Tryz.prog G 67 HtwF := mkHS_ok s67_ok (fun f κ ⟨hn, hv, hp⟩ h => by
  refine ⟨rfl, ?_⟩
  refine vc_ok (CtxOk.inner c67_ok _) mixed 1000 _ [] _ (by kernel_rfl) rfl ?_
  conv => whnf
  refine And.intro ?_ (And.intro ?_ trivial)
  all_goals
    conv => whnf
    refine ⟨⟨false, f.n, f.es⟩, [], ?_⟩
    conv => whnf
    repeat' (refine And.intro ?_ ?_ <;> conv => whnf)
    all_goals try first | exact ⟨rfl⟩ | exact ⟨⟨rfl, rfl⟩⟩ | exact ⟨⟨rfl, rfl, rfl⟩⟩ | exact ⟨fun _ _ => rfl⟩ | exact ⟨fun _ _ => trivial⟩ | exact ⟨fun k _ => isU8_bf _ k⟩ | exact ⟨by omega⟩ | exact ⟨⟨by omega, by omega⟩⟩ | exact ⟨⟨by omega, by omega, by omega⟩⟩ | exact ⟨⟨hn, hv⟩⟩
    refine ⟨f.pf, ⟨AE.refl _, trivial⟩, ⟨hp⟩, ?_⟩
    intro r hr
    replace hr : r = f.pf := hr
    subst hr
    conv => whnf
    repeat' (refine And.intro ?_ ?_ <;> conv => whnf)
    all_goals try first | exact ⟨rfl⟩ | exact ⟨⟨rfl, rfl⟩⟩ | exact ⟨⟨rfl, rfl, rfl⟩⟩ | exact ⟨fun _ _ => rfl⟩ | exact ⟨fun _ _ => trivial⟩ | exact ⟨fun k _ => isU8_bf _ k⟩ | exact ⟨by omega⟩ | exact ⟨⟨by omega, by omega⟩⟩ | exact ⟨⟨by omega, by omega, by omega⟩⟩
    refine ⟨[some 2], .st (.cons (arrV 32 f.author) (.cons (.sl 0 [] 133 0 f.n f.n) (.cons (.bool f.shut) (.cons (pfV f.pf) .nil)))), [some (.row 133 f.n fun k => entV (f.es k))], ?_⟩
    conv => whnf
    repeat' (refine And.intro ?_ ?_ <;> conv => whnf)
    all_goals try first | exact ⟨rfl⟩ | exact ⟨⟨rfl, rfl⟩⟩ | exact ⟨⟨rfl, rfl, rfl⟩⟩ | exact ⟨by omega⟩ | exact ⟨⟨by omega, by omega⟩⟩ | exact ⟨⟨by omega, by omega, by omega⟩⟩ | exact ⟨fun _ _ => leV_refl _ (pln_entV _)⟩ | exact ⟨fun _ _ => rfl⟩
    all_goals exact h) (fun _ => by simp) (fun _ => by simp [rok, roks, arrV, pfV, entV, opV, byV, bf, noref, norefs]) (fun x u hu => by
    simp at hu
    subst hu
    simp only [rok]
    intro k _
    exact noref_entV _)
end Go.Proofs.YtaihjcpfjgpmoaaGreatDoor

/- Bytes side by side; what the open kind of signatures sums. -/
namespace Go.Proofs.YtaihjcpfjgpmoaaGreatDoor
set_option linter.unusedVariables false
set_option linter.unusedSimpArgs false
set_option maxRecDepth 100000
open Go Go.DD
def Fjoin : FSpec := mkG (fun (a : Bys) => [.imm a.b 1 a.n a.f]) (fun a => a.n ≤ 1000 ∧ (∀ k, k < a.n → (a.ls k).length ≤ 1000000) ∧ ∀ k, k < a.n → a.f k = byV (a.bs k) (a.ls k) ∨ (a.f k = .emp ∧ a.ls k = [])) (fun a => cat a.ls a.n) (byV false)
theorem fjoin_ok : FOk Tryz.prog [] 35 Fjoin := mkG_ok fun a ⟨hn, hl, hf⟩ => by
  refine CP.le (ys := [.imm a.b 1 a.n fun k => byV (a.bs k) (a.ls k)]) (fun E l hT => ?_) ?_
  · cases l with
    | nil => exact hT
    | cons x l => exact ⟨T_imm_by hf hT.1, hT.2⟩
  have hb := catn_le hl
  have hΓ := ctxOk Tryz.f35.ntmps [] [] (FL.all .nil) (HL.all .nil)
  refine CP_of_OK hΓ Tryz.func35 (c := bodyOf Tryz.f35) rfl (by decide) rfl rfl (by simp) (vc_ok hΓ mixed 1000 _ [] _ (by kernel_rfl) rfl ?_)
  conv => whnf
  refine OK_loopC (ι := Nat) (fun i => [(0, .imm a.b 1 a.n fun k => byV (a.bs k) (a.ls k)), (3, slV 0 (cat a.ls i)), (4, .int .i64 (i : Nat))]) (fun i => [some (rowV (cat a.ls i))]) (fun i => i ≤ a.n) (fun i => a.n - i) 0 [none] ?_ (fun i hi => vc_ok hΓ mixed 1000 _ [] _ (by kernel_rfl) rfl ?_)
  · conv => whnf
    repeat' (first | (refine And.intro (fun _ => ?_) (fun _ => ?_) <;> conv => whnf) | (refine And.intro ?_ ?_ <;> conv => whnf))
    all_goals try first | exact ⟨rfl⟩ | exact ⟨⟨rfl, rfl⟩⟩ | exact ⟨⟨rfl, rfl, rfl⟩⟩ | exact ⟨fun _ _ => rfl⟩ | exact ⟨fun _ _ => trivial⟩ | exact ⟨fun k _ => isU8_bf _ k⟩ | exact ⟨by omega⟩ | exact ⟨⟨by omega, by omega⟩⟩ | exact ⟨⟨by omega, by omega, by omega⟩⟩
  · have hbi := hb i hi
    have hlen := cat_length (ls := a.ls) i
    conv => whnf
    refine And.intro (fun h3 => ?_) (fun h3 => ?_) <;> conv => whnf
    · have hin : i < a.n := by
        have : ((i : Nat) : Int) < (a.n : Nat) := by simpa using h3
        omega
      have hli := hl i hin
      conv => whnf
      repeat' (first | (refine And.intro (fun _ => ?_) (fun _ => ?_) <;> conv => whnf) | (refine And.intro ?_ ?_ <;> conv => whnf))
      all_goals (try simp only [decide_eq_true_eq, decide_eq_false_iff_not, Int.toNat_natCast, Bool.not_eq_true, Bool.not_eq_false] at *)
      all_goals try first | exact ⟨rfl⟩ | exact ⟨⟨rfl, rfl⟩⟩ | exact ⟨⟨rfl, rfl, rfl⟩⟩ | exact ⟨fun _ _ => rfl⟩ | exact ⟨fun _ _ => trivial⟩ | exact ⟨fun k _ => isU8_bf _ k⟩ | exact ⟨by omega⟩ | exact ⟨⟨by omega, by omega⟩⟩ | exact ⟨⟨by omega, by omega, by omega⟩⟩
      refine Or.inl ?_
      conv => whnf
      repeat' (first | (refine And.intro (fun _ => ?_) (fun _ => ?_) <;> conv => whnf) | (refine And.intro ?_ ?_ <;> conv => whnf))
      all_goals try first | exact ⟨rfl⟩ | exact ⟨⟨rfl, rfl⟩⟩ | exact ⟨⟨rfl, rfl, rfl⟩⟩ | exact ⟨fun _ _ => rfl⟩ | exact ⟨fun _ _ => trivial⟩ | exact ⟨fun k _ => isU8_bf _ k⟩ | exact ⟨by omega⟩ | exact ⟨⟨by omega, by omega⟩⟩ | exact ⟨⟨by omega, by omega, by omega⟩⟩ | exact ⟨⟨by show (_ + _) * 1 ≤ _; omega, by omega⟩⟩
      have hcs : (cat a.ls (i + 1)).length = (cat a.ls i).length + (a.ls i).length := by rw [cat, List.length_append]
      refine ⟨i + 1, [some 1], ?_⟩
      conv => whnf
      repeat' (refine And.intro ?_ ?_ <;> conv => whnf)
      all_goals try first | exact ⟨rfl⟩ | exact ⟨⟨rfl, rfl⟩⟩ | exact ⟨⟨rfl, rfl, rfl⟩⟩ | exact ⟨fun _ _ => rfl⟩ | exact ⟨fun _ _ => trivial⟩ | exact ⟨fun k _ => isU8_bf _ k⟩ | exact ⟨by omega⟩ | exact ⟨⟨by omega, by omega⟩⟩ | exact ⟨⟨by omega, by omega, by omega⟩⟩ | exact ⟨⟨rfl, hcs.symm, hcs.symm⟩⟩ | exact ⟨hcs.symm⟩
      · exact ⟨by rw [wrap_id (by omega) (by omega)]; rfl⟩
      exact ⟨fun k _ => leV_eq (bsn _ _ k) (by rw [show cat a.ls (i + 1) = cat a.ls i ++ a.ls i from rfl]; trivial)⟩
    · have hin : i = a.n := by
        have : ¬ ((i : Nat) : Int) < (a.n : Nat) := by simpa using h3
        omega
      subst hin
      refine vc_ok hΓ mixed 1000 _ [] _ (by kernel_rfl) rfl ?_
      conv => whnf
      conv => whnf
      repeat' (refine And.intro ?_ ?_ <;> conv => whnf)
      · exact ⟨by omega⟩
      · exact ⟨fun _ _ => own_bf _ _⟩
      · refine Ld.imm fun k hk => ?_
        rw [Nat.zero_add]
/-- What the open kind sums. -/
def Fsum : FSpec := mkG (fun (x : UInt8 × Bys) => [.int .u8 (x.1.toNat : Nat), .imm x.2.b 1 x.2.n x.2.f]) (fun x => x.2.n ≤ 3 ∧ (∀ k, k < x.2.n → (x.2.ls k).length ≤ 200000) ∧ ∀ k, k < x.2.n → x.2.f k = byV (x.2.bs k) (x.2.ls k) ∨ (x.2.f k = .emp ∧ x.2.ls k = [])) (fun x => sha (x.1 :: cat x.2.ls x.2.n)) (arrV 32)
theorem fsum_ok : FOk Tryz.prog [] 59 Fsum := mkG_ok fun ⟨c, a⟩ ⟨hn, hl, hf⟩ => by
  replace hn : a.n ≤ 3 := hn
  replace hl : ∀ k, k < a.n → (a.ls k).length ≤ 200000 := hl
  have hb := catn_le (ls := a.ls) (n := a.n) (fun k hk => by have := hl k hk; omega) a.n (Nat.le_refl _)
  have hcl := cat_length (ls := a.ls) a.n
  have hb2 : catn a.ls a.n ≤ 600000 := by
    have : ∀ i, i ≤ a.n → catn a.ls i ≤ 200000 * i := fun i => by
      induction i with
      | zero => intro _; simp [catn]
      | succ i ih => intro hi; have := ih (by omega); have := hl i (by omega); simp only [catn]; omega
    have := this a.n (Nat.le_refl _)
    omega
  have hΓ := ctxOk Tryz.f59.ntmps [(100, F21c), (101, F86)] [] (FL.all (.cons f21c_ok (.cons f86_ok .nil))) (HL.all .nil)
  refine CP_of_OK hΓ Tryz.func59 (c := bodyOf Tryz.f59) rfl (by decide) rfl rfl (by simp) (vc_ok hΓ mixed 1000 _ [] _ (by kernel_rfl) rfl ?_)
  conv => whnf
  repeat' (first | (refine And.intro (fun _ => ?_) (fun _ => ?_) <;> conv => whnf) | (refine And.intro ?_ ?_ <;> conv => whnf))
  refine ⟨a, rfl, ⟨by omega, fun k hk => by have := hl k hk; omega, hf⟩, ?_⟩
  conv => whnf
  repeat' (first | (refine And.intro (fun _ => ?_) (fun _ => ?_) <;> conv => whnf) | (refine And.intro ?_ ?_ <;> conv => whnf))
  refine Or.inl ?_
  conv => whnf
  repeat' (first | (refine And.intro (fun _ => ?_) (fun _ => ?_) <;> conv => whnf) | (refine And.intro ?_ ?_ <;> conv => whnf))
  all_goals try first | exact ⟨rfl⟩ | exact ⟨⟨rfl, rfl⟩⟩ | exact ⟨⟨rfl, rfl, rfl⟩⟩ | exact ⟨fun _ _ => rfl⟩ | exact ⟨fun _ _ => trivial⟩ | exact ⟨fun k _ => isU8_bf _ k⟩ | exact ⟨by omega⟩ | exact ⟨⟨by omega, by omega⟩⟩ | exact ⟨⟨by omega, by omega, by omega⟩⟩ | exact ⟨⟨by show (_ + _) * 1 ≤ _; omega, by omega⟩⟩
  · refine ⟨fun k hk => ?_⟩
    rcases k with _ | k
    · exact trivial
    · exact cast (congrArg noref (if_neg (by omega)).symm) trivial
  refine ⟨.of true (c :: cat a.ls a.n), ⟨AE.imm' (by rw [List.length_cons]; exact Nat.add_comm _ _) (fun k hk => ?_), trivial⟩, ⟨trivial, by show (c :: cat a.ls a.n).length ≤ 1000000; rw [List.length_cons]; omega⟩, ?_⟩
  · rcases k with _ | k
    · rfl
    · refine (if_neg (by omega)).trans ?_
      show bf (cat a.ls a.n) (0 + (k + 1) - 1) = bf (c :: cat a.ls a.n) (k + 1)
      rw [Nat.zero_add, Nat.add_sub_cancel]
      simp [bf]
  intro r hr
  replace hr : r = sha (c :: cat a.ls a.n) := hr
  conv => whnf
  repeat' (first | (refine And.intro (fun _ => ?_) (fun _ => ?_) <;> conv => whnf) | (refine And.intro ?_ ?_ <;> conv => whnf))
  all_goals try first | exact ⟨rfl⟩ | exact ⟨⟨rfl, rfl⟩⟩ | exact ⟨⟨rfl, rfl, rfl⟩⟩ | exact ⟨fun _ _ => rfl⟩ | exact ⟨fun _ _ => trivial⟩ | exact ⟨fun k _ => isU8_bf _ k⟩ | exact ⟨by omega⟩ | exact ⟨⟨by omega, by omega⟩⟩ | exact ⟨⟨by omega, by omega, by omega⟩⟩
  rw [hr]
  exact Ld.refl _
def Fknown : FSpec := mkG (fun (k : Int) => [.int .i64 k]) (fun _ => True) (fun k => decide (k = 1) || decide (k = 2)) .bool
theorem fknown_ok : FOk Tryz.prog [] 57 Fknown := mkG_ok fun k _ => by
  have hΓ := ctxOk Tryz.f57.ntmps [] [] (FL.all .nil) (HL.all .nil)
  refine CP_of_OK hΓ Tryz.func57 (c := bodyOf Tryz.f57) rfl (by decide) rfl rfl (by simp) (vc_ok hΓ mixed 1000 _ [] _ (by kernel_rfl) rfl ?_)
  conv => whnf
  repeat' (first | (refine And.intro (fun _ => ?_) (fun _ => ?_) <;> conv => whnf) | (refine And.intro ?_ ?_ <;> conv => whnf))
  all_goals
    rename_i h
    refine Ld.of (congrArg V.bool ?_)
    simp only [beq_iff_eq, beq_eq_false_iff_ne, ne_eq] at h
    first
      | (simp [h]; done)
      | (rw [decide_eq_false h, Bool.eq_iff_iff]; simp)
/-- What tells a seed's holder, of the kind that sums alone. -/
def pubO (s : List UInt8) : List UInt8 := sha (1 :: s)
theorem pubO_len (s : List UInt8) : (pubO s).length = 32 := sha_length _
def Fpub : FSpec := mkG (fun (s : List UInt8) => [.int .i64 2, arrV 32 s]) (fun s => s.length = 32) pubO (fun r => .tup (.cons (arrV 32 r) (.cons (.int .i64 0) .nil)))
def seed1 (s : List UInt8) (f : Nat → V) : Bys := ⟨true, 1, f, fun _ => true, fun _ => s⟩
theorem fpub_ok : FOk Tryz.prog [] 24 Fpub := mkG_ok fun s hs => by
  replace hs : s.length = 32 := hs
  have hΓ := ctxOk Tryz.f24.ntmps [(57, Fknown), (58, FNo), (59, Fsum)] [] (FL.all (.cons fknown_ok (.cons fno_ok (.cons fsum_ok .nil)))) (HL.all .nil)
  refine CP_of_OK hΓ Tryz.func24 (c := bodyOf Tryz.f24) rfl (by decide) rfl rfl (by simp) (vc_ok hΓ mixed 1000 _ [] _ (by kernel_rfl) rfl ?_)
  conv => whnf
  refine ⟨2, ⟨AE.refl _, trivial⟩, ⟨trivial⟩, ?_⟩
  intro r hr
  replace hr : r = true := hr
  subst hr
  conv => whnf
  repeat' (first | (refine And.intro (fun hp => ?_) (fun hp => ?_) <;> first | (exfalso; revert hp; simp; done) | conv => whnf) | (refine And.intro ?_ ?_ <;> conv => whnf))
  all_goals try first | exact ⟨rfl⟩ | exact ⟨⟨rfl, rfl⟩⟩ | exact ⟨⟨rfl, rfl, rfl⟩⟩ | exact ⟨fun _ _ => rfl⟩ | exact ⟨fun _ _ => trivial⟩ | exact ⟨fun k _ => isU8_bf _ k⟩ | exact ⟨by omega⟩ | exact ⟨⟨by omega, by omega⟩⟩ | exact ⟨⟨by omega, by omega, by omega⟩⟩
  · refine ⟨lt_step ?_ lt_zero⟩
    conv => whnf
    exact And.intro ⟨⟨rfl, by omega⟩⟩ ⟨fun _ _ => trivial⟩
  refine ⟨(1, seed1 s _), ⟨AE.refl _, AE.refl _, trivial⟩, ⟨by show 1 ≤ 3; omega, fun k hk => by show s.length ≤ 200000; omega, fun k hk => ?_⟩, ?_⟩
  · obtain rfl : k = 0 := by have : k < 1 := hk; omega
    refine .inl (Eq.trans rfl ?_)
    show V.imm true 1 32 (fun k => bf s (0 + k)) = V.imm true 1 s.length (bf s)
    simp only [Nat.zero_add, hs]
  intro r hr
  replace hr : r = pubO s := hr.trans (by simp [pubO, seed1, cat])
  subst hr
  conv => whnf
  repeat' (first | (refine And.intro (fun _ => ?_) (fun _ => ?_) <;> conv => whnf) | (refine And.intro ?_ ?_ <;> conv => whnf))
  all_goals try first | exact ⟨rfl⟩ | exact ⟨⟨rfl, rfl⟩⟩ | exact ⟨⟨rfl, rfl, rfl⟩⟩ | exact ⟨fun _ _ => rfl⟩ | exact ⟨fun _ _ => trivial⟩ | exact ⟨fun k _ => isU8_bf _ k⟩ | exact ⟨by omega⟩ | exact ⟨⟨by omega, by omega⟩⟩ | exact ⟨⟨by omega, by omega, by omega⟩⟩
  exact Ld.refl _
/-- What the open kind signs with. -/
def sigO (p t : List UInt8) : List UInt8 := sha (2 :: (p ++ t)) ++ sha (3 :: (p ++ t))
def two (p : List UInt8) (b : Bool) (l : List UInt8) (f : Nat → V) : Bys := ⟨true, 2, f, fun k => if k = 0 then true else b, fun k => if k = 0 then p else l⟩
theorem two_pre {p : List UInt8} {b : Bool} {l : List UInt8} {f : Nat → V} (hp : p.length = 32) (hl : l.length ≤ 100000) (h0 : f 0 = byV true p) (h1 : f 1 = byV b l) : (two p b l f).n ≤ 3 ∧ (∀ k, k < (two p b l f).n → ((two p b l f).ls k).length ≤ 200000) ∧ ∀ k, k < (two p b l f).n → (two p b l f).f k = byV ((two p b l f).bs k) ((two p b l f).ls k) ∨ ((two p b l f).f k = .emp ∧ (two p b l f).ls k = []) := by
  refine ⟨by show 2 ≤ 3; omega, fun k hk => ?_, fun k hk => .inl ?_⟩
  · show (if k = 0 then p else l).length ≤ 200000
    split <;> omega
  · replace hk : k < 2 := hk
    match k, hk with
    | 0, _ => exact h0
    | 1, _ => exact h1
theorem imm32 {p : List UInt8} (hp : p.length = 32) : V.imm true 1 32 (fun k => bf p (0 + k)) = byV true p := by
  simp only [Nat.zero_add, byV, hp]
theorem two_cat (p : List UInt8) (b : Bool) (l : List UInt8) (f : Nat → V) : cat (two p b l f).ls (two p b l f).n = p ++ l := by
  simp [two, cat]
theorem open_row {r1 r2 : List UInt8} (h : r1.length = 32) (k : Nat) : (fun k => if k < 32 then bf r1 k else (fun k => bf r2 (Int.toNat 0 + k)) (k - 32)) (0 + k) = bf (r1 ++ r2) k := by
  have := bsn r1 r2 k
  rw [h] at this
  simp only [Nat.zero_add, show Int.toNat 0 = 0 from rfl]
  exact this
def Fopen : FSpec := mkG (fun (x : List UInt8 × By) => [arrV 32 x.1, x.2.v]) (fun x => x.1.length = 32 ∧ x.2.ok ∧ x.2.l.length ≤ 100000) (fun x => sigO x.1 x.2.l) (arrV 64)
theorem fopen_ok : FOk Tryz.prog G 131 Fopen := mkG_ok fun ⟨p, a⟩ ⟨hp, ha, hn⟩ => by
  replace hp : p.length = 32 := hp
  replace ha : a.ok := ha
  replace hn : a.l.length ≤ 100000 := hn
  refine CP.by2 ha ?_
  show CP _ _ _ [arrV 32 p, byV a.b a.l] fun v => Ld v (arrV 64 (sigO p a.l))
  generalize a.l = l at hn
  generalize a.b = b
  have hΓ := ctxG_ok Tryz.f131.ntmps [(59, Fsum)] [] [(1, .one 0 (.one 1 (.one 4 (.one 5 (.many (.cons 2 (.one 3 (.many (.cons 6 (.one 7 (.many (.cons 8 (.one 9 (.one 10 (.one 11 (.done)))) (.cons 9 (.one 8 (.one 10 (.one 11 (.done)))) (.nil))))) (.cons 8 (.many (.cons 6 (.one 7 (.one 9 (.one 10 (.one 11 (.done))))) (.cons 9 (.one 6 (.one 7 (.one 10 (.one 11 (.done))))) (.nil)))) (.cons 9 (.many (.cons 6 (.one 7 (.one 8 (.one 10 (.one 11 (.done))))) (.cons 8 (.one 6 (.one 7 (.one 10 (.one 11 (.done))))) (.nil)))) (.nil)))))) (.cons 6 (.many (.cons 2 (.one 3 (.one 7 (.many (.cons 8 (.one 9 (.one 10 (.one 11 (.done)))) (.cons 9 (.one 8 (.one 10 (.one 11 (.done)))) (.nil)))))) (.cons 8 (.many (.cons 2 (.one 3 (.one 7 (.one 9 (.one 10 (.one 11 (.done)))))) (.cons 9 (.one 2 (.one 3 (.one 7 (.one 10 (.one 11 (.done)))))) (.nil)))) (.cons 9 (.many (.cons 2 (.one 3 (.one 7 (.one 8 (.one 10 (.one 11 (.done)))))) (.cons 8 (.one 2 (.one 3 (.one 7 (.one 10 (.one 11 (.done)))))) (.nil)))) (.nil))))) (.cons 8 (.many (.cons 2 (.one 3 (.many (.cons 6 (.one 7 (.one 9 (.one 10 (.one 11 (.done))))) (.cons 9 (.one 6 (.one 7 (.one 10 (.one 11 (.done))))) (.nil))))) (.cons 6 (.many (.cons 2 (.one 3 (.one 7 (.one 9 (.one 10 (.one 11 (.done)))))) (.cons 9 (.one 2 (.one 3 (.one 7 (.one 10 (.one 11 (.done)))))) (.nil)))) (.cons 9 (.many (.cons 2 (.one 3 (.one 6 (.one 7 (.one 10 (.one 11 (.done)))))) (.cons 6 (.one 2 (.one 3 (.one 7 (.one 10 (.one 11 (.done)))))) (.nil)))) (.nil))))) (.cons 9 (.many (.cons 2 (.one 3 (.many (.cons 6 (.one 7 (.one 8 (.one 10 (.one 11 (.done))))) (.cons 8 (.one 6 (.one 7 (.one 10 (.one 11 (.done))))) (.nil))))) (.cons 6 (.many (.cons 2 (.one 3 (.one 7 (.one 8 (.one 10 (.one 11 (.done)))))) (.cons 8 (.one 2 (.one 3 (.one 7 (.one 10 (.one 11 (.done)))))) (.nil)))) (.cons 8 (.many (.cons 2 (.one 3 (.one 6 (.one 7 (.one 10 (.one 11 (.done)))))) (.cons 6 (.one 2 (.one 3 (.one 7 (.one 10 (.one 11 (.done)))))) (.nil)))) (.nil))))) (.nil))))))))))] (.cons (fsum_ok.g) .nil) .nil
  refine CP_of_OK hΓ Tryz.func131 (c := bodyOf Tryz.f131) rfl (by decide) rfl rfl (by simp) (vc_ok hΓ mixed 1000 _ [] _ (by kernel_rfl) rfl ?_)
  conv => whnf
  conv => whnf
  repeat' (refine And.intro ?_ ?_ <;> conv => whnf)
  all_goals try first | exact ⟨rfl⟩ | exact ⟨⟨rfl, rfl⟩⟩ | exact ⟨⟨rfl, rfl, rfl⟩⟩ | exact ⟨fun _ _ => rfl⟩ | exact ⟨fun _ _ => trivial⟩ | exact ⟨fun k _ => isU8_bf _ k⟩ | exact ⟨by omega⟩ | exact ⟨⟨by omega, by omega⟩⟩ | exact ⟨⟨by omega, by omega, by omega⟩⟩
  all_goals try exact trivial
  all_goals try exact ⟨lt_step trivial (lt_step (And.intro ⟨⟨rfl, by omega⟩⟩ ⟨fun _ _ => trivial⟩) lt_zero)⟩
  all_goals
    refine ⟨(2, two p b l _), ⟨AE.refl _, AE.refl _, trivial⟩, ⟨two_pre hp hn (Eq.trans rfl (imm32 hp)) rfl⟩, ?_⟩
    intro r1 h1
    replace h1 : r1 = sha (2 :: (p ++ l)) := h1.trans (congrArg (fun x => sha (2 :: x)) (two_cat p b l _))
    conv => whnf
    repeat' (refine And.intro ?_ ?_ <;> conv => whnf)
  all_goals try first | exact ⟨rfl⟩ | exact ⟨⟨rfl, rfl⟩⟩ | exact ⟨⟨rfl, rfl, rfl⟩⟩ | exact ⟨fun _ _ => rfl⟩ | exact ⟨fun _ _ => trivial⟩ | exact ⟨fun k _ => isU8_bf _ k⟩ | exact ⟨by omega⟩ | exact ⟨⟨by omega, by omega⟩⟩ | exact ⟨⟨by omega, by omega, by omega⟩⟩
  all_goals try exact trivial
  all_goals try exact ⟨lt_step trivial (lt_step (And.intro ⟨⟨rfl, by omega⟩⟩ ⟨fun _ _ => trivial⟩) lt_zero)⟩
  all_goals
    refine ⟨(3, two p b l _), ⟨AE.refl _, AE.refl _, trivial⟩, ⟨two_pre hp hn (Eq.trans rfl (imm32 hp)) rfl⟩, ?_⟩
    intro r2 h2
    replace h2 : r2 = sha (3 :: (p ++ l)) := h2.trans (congrArg (fun x => sha (3 :: x)) (two_cat p b l _))
    conv => whnf
    repeat' (refine And.intro ?_ ?_ <;> conv => whnf)
  all_goals try first | exact ⟨rfl⟩ | exact ⟨⟨rfl, rfl⟩⟩ | exact ⟨⟨rfl, rfl, rfl⟩⟩ | exact ⟨fun _ _ => rfl⟩ | exact ⟨fun _ _ => trivial⟩ | exact ⟨fun k _ => isU8_bf _ k⟩ | exact ⟨by omega⟩ | exact ⟨⟨by omega, by omega⟩⟩ | exact ⟨⟨by omega, by omega, by omega⟩⟩
  all_goals try exact trivial
  all_goals
    refine Or.inl ?_
    conv => whnf
    repeat' (refine And.intro ?_ ?_ <;> conv => whnf)
  all_goals try first | exact ⟨rfl⟩ | exact ⟨⟨rfl, rfl⟩⟩ | exact ⟨⟨rfl, rfl, rfl⟩⟩ | exact ⟨fun _ _ => rfl⟩ | exact ⟨fun _ _ => trivial⟩ | exact ⟨fun k _ => isU8_bf _ k⟩ | exact ⟨by omega⟩ | exact ⟨⟨by omega, by omega⟩⟩ | exact ⟨⟨by omega, by omega, by omega⟩⟩
  all_goals
    have hr1 : r1.length = 32 := by rw [h1]; exact sha_length _
    first
      | exact ⟨⟨by decide, by decide⟩⟩
      | exact ⟨fun k _ => cast (congrArg own (open_row hr1 k).symm) (own_bf _ k)⟩
      | (rw [sigO, ← h1, ← h2]
         exact Ld.row fun k _ => open_row hr1 k)
theorem by3 {P : Program} {gl : List (Nat × V)} {f : Nat} {a : By} {Φ : V → Prop} {v w : V} {l : List V} (h : a.ok) (hc : CP P gl f (v :: w :: byV a.b a.l :: l) Φ) : CP P gl f (v :: w :: a.v :: l) Φ :=
  CP.le (fun E xs hT => by
    match xs, hT with
    | _ :: _ :: x :: xs, ⟨h1, h2, h3, h4⟩ => exact ⟨h1, h2, By.T h h3, h4⟩) hc
def Fsign : FSpec := mkG (fun (x : List UInt8 × By) => [.int .i64 2, arrV 32 x.1, x.2.v]) (fun x => x.1.length = 32 ∧ x.2.ok ∧ x.2.l.length ≤ 100000) (fun x => sigO (pubO x.1) x.2.l) (fun r => .tup (.cons (arrV 64 r) (.cons (.int .i64 0) .nil)))
theorem fsign_ok : FOk Tryz.prog G 104 Fsign := mkG_ok fun ⟨s, a⟩ ⟨hs, ha, hn⟩ => by
  replace hs : s.length = 32 := hs
  replace ha : a.ok := ha
  replace hn : a.l.length ≤ 100000 := hn
  refine by3 ha ?_
  show CP _ _ _ [.int .i64 2, arrV 32 s, byV a.b a.l] fun v => Ld v (.tup (.cons (arrV 64 (sigO (pubO s) a.l)) (.cons (.int .i64 0) .nil)))
  generalize a.l = l at hn
  generalize a.b = b
  have hΓ := ctxG_ok Tryz.f104.ntmps [(57, Fknown), (151, FNo), (59, Fsum), (131, Fopen)] [] [] (.cons (fknown_ok.g) (.cons (fno_ok) (.cons (fsum_ok.g) (.cons (fopen_ok) .nil)))) .nil
  refine CP_of_OK hΓ Tryz.func104 (c := bodyOf Tryz.f104) rfl (by decide) rfl rfl (by simp) (vc_ok hΓ mixed 1000 _ [] _ (by kernel_rfl) rfl ?_)
  conv => whnf
  refine ⟨2, ⟨AE.refl _, trivial⟩, ⟨trivial⟩, ?_⟩
  intro r hr
  replace hr : r = true := hr
  subst hr
  conv => whnf
  repeat' (first | (refine And.intro (fun hp => ?_) (fun hp => ?_) <;> first | (exfalso; revert hp; simp; done) | conv => whnf) | (refine And.intro ?_ ?_ <;> conv => whnf))
  all_goals try first | exact ⟨rfl⟩ | exact ⟨⟨rfl, rfl⟩⟩ | exact ⟨⟨rfl, rfl, rfl⟩⟩ | exact ⟨fun _ _ => rfl⟩ | exact ⟨fun _ _ => trivial⟩ | exact ⟨fun k _ => isU8_bf _ k⟩ | exact ⟨by omega⟩ | exact ⟨⟨by omega, by omega⟩⟩ | exact ⟨⟨by omega, by omega, by omega⟩⟩
  · refine ⟨lt_step ?_ lt_zero⟩
    conv => whnf
    exact And.intro ⟨⟨rfl, by omega⟩⟩ ⟨fun _ _ => trivial⟩
  refine ⟨(1, seed1 s _), ⟨AE.refl _, AE.refl _, trivial⟩, ⟨by show 1 ≤ 3; omega, fun k hk => by show s.length ≤ 200000; omega, fun k hk => ?_⟩, ?_⟩
  · obtain rfl : k = 0 := by have : k < 1 := hk; omega
    refine .inl (Eq.trans rfl ?_)
    show V.imm true 1 32 (fun k => bf s (0 + k)) = V.imm true 1 s.length (bf s)
    simp only [Nat.zero_add, hs]
  intro r hr
  replace hr : r = pubO s := hr.trans (by simp [pubO, seed1, cat])
  subst hr
  conv => whnf
  repeat' (first | (refine And.intro (fun _ => ?_) (fun _ => ?_) <;> conv => whnf) | (refine And.intro ?_ ?_ <;> conv => whnf))
  all_goals try first | exact ⟨rfl⟩ | exact ⟨⟨rfl, rfl⟩⟩ | exact ⟨⟨rfl, rfl, rfl⟩⟩ | exact ⟨fun _ _ => rfl⟩ | exact ⟨fun _ _ => trivial⟩ | exact ⟨fun k _ => isU8_bf _ k⟩ | exact ⟨by omega⟩ | exact ⟨⟨by omega, by omega⟩⟩ | exact ⟨⟨by omega, by omega, by omega⟩⟩
  refine ⟨(pubO s, .of b l), ⟨AE.refl _, AE.refl _, trivial⟩, ⟨pubO_len s, trivial, hn⟩, ?_⟩
  intro q hq
  replace hq : q = sigO (pubO s) l := hq
  conv => whnf
  repeat' (first | (refine And.intro (fun _ => ?_) (fun _ => ?_) <;> conv => whnf) | (refine And.intro ?_ ?_ <;> conv => whnf))
  all_goals try first | exact ⟨rfl⟩ | exact ⟨⟨rfl, rfl⟩⟩ | exact ⟨⟨rfl, rfl, rfl⟩⟩ | exact ⟨fun _ _ => rfl⟩ | exact ⟨fun _ _ => trivial⟩ | exact ⟨fun k _ => isU8_bf _ k⟩ | exact ⟨by omega⟩ | exact ⟨⟨by omega, by omega⟩⟩ | exact ⟨⟨by omega, by omega, by omega⟩⟩
  rw [hq]
  exact Ld.refl _
def FpubR : FSpec := mkG (fun (s : List UInt8) => [.int .i64 2, arrV 32 s]) (fun s => s.length = 32) pubO (arrV 32)
theorem fpubR_ok : FOk Tryz.prog [] 11 FpubR := mkG_ok fun s hs => by
  replace hs : s.length = 32 := hs
  have hΓ := ctxOk Tryz.f11.ntmps [(33, FNo), (34, F50), (35, Fjoin)] [] (FL.all (.cons fno_ok (.cons f50_ok (.cons fjoin_ok .nil)))) (HL.all .nil)
  refine CP_of_OK hΓ Tryz.func11 (c := bodyOf Tryz.f11) rfl (by decide) rfl rfl (by simp) (vc_ok hΓ mixed 1000 _ [] _ (by kernel_rfl) rfl ?_)
  conv => whnf
  repeat' (first | (refine And.intro (fun hp => ?_) (fun hp => ?_) <;> first | (exfalso; revert hp; simp; done) | conv => whnf) | (refine And.intro ?_ ?_ <;> conv => whnf))
  all_goals try first | exact ⟨rfl⟩ | exact ⟨⟨rfl, rfl⟩⟩ | exact ⟨⟨rfl, rfl, rfl⟩⟩ | exact ⟨fun _ _ => rfl⟩ | exact ⟨fun _ _ => trivial⟩ | exact ⟨fun k _ => isU8_bf _ k⟩ | exact ⟨by omega⟩ | exact ⟨⟨by omega, by omega⟩⟩ | exact ⟨⟨by omega, by omega, by omega⟩⟩
  · refine ⟨lt_step ?_ (lt_step ?_ lt_zero)⟩
    · conv => whnf
      exact And.intro ⟨⟨rfl, by omega⟩⟩ ⟨fun _ _ => trivial⟩
    · conv => whnf
      refine And.intro ⟨⟨rfl, by omega⟩⟩ ⟨fun k hk => ?_⟩
      obtain rfl : k = 0 := by omega
      exact trivial
  refine ⟨⟨true, 2, _, fun _ => true, fun k => if k = 0 then [1] else s⟩, ⟨AE.refl _, trivial⟩, ⟨by show 2 ≤ 1000; omega, fun k hk => ?_, fun k hk => .inl ?_⟩, ?_⟩
  · show (if k = 0 then [1] else s).length ≤ 1000000
    split
    · decide
    · omega
  · replace hk : k < 2 := hk
    match k, hk with
    | 0, _ =>
      refine Eq.trans rfl ?_
      refine congrArg (V.imm true 1 1) (funext fun q => ?_)
      cases q with
      | zero => rfl
      | succ q => exact (show _ = V.int .u8 0 from rfl).trans (by simp [bf])
    | 1, _ => exact Eq.trans rfl (imm32 hs)
  intro r hr
  replace hr : r = 1 :: s := hr.trans (by simp [cat])
  subst hr
  conv => whnf
  repeat' (first | (refine And.intro (fun _ => ?_) (fun _ => ?_) <;> conv => whnf) | (refine And.intro ?_ ?_ <;> conv => whnf))
  all_goals try first | exact ⟨rfl⟩ | exact ⟨⟨rfl, rfl⟩⟩ | exact ⟨⟨rfl, rfl, rfl⟩⟩ | exact ⟨fun _ _ => rfl⟩ | exact ⟨fun _ _ => trivial⟩ | exact ⟨fun k _ => isU8_bf _ k⟩ | exact ⟨by omega⟩ | exact ⟨⟨by omega, by omega⟩⟩ | exact ⟨⟨by omega, by omega, by omega⟩⟩
  refine ⟨.of false (1 :: s), ⟨AE.refl _, trivial⟩, ⟨trivial, by show (1 :: s).length ≤ 1000000; rw [List.length_cons]; omega⟩, ?_⟩
  intro q hq
  replace hq : q = pubO s := hq
  conv => whnf
  repeat' (first | (refine And.intro (fun _ => ?_) (fun _ => ?_) <;> conv => whnf) | (refine And.intro ?_ ?_ <;> conv => whnf))
  all_goals try first | exact ⟨rfl⟩ | exact ⟨⟨rfl, rfl⟩⟩ | exact ⟨⟨rfl, rfl, rfl⟩⟩ | exact ⟨fun _ _ => rfl⟩ | exact ⟨fun _ _ => trivial⟩ | exact ⟨fun k _ => isU8_bf _ k⟩ | exact ⟨by omega⟩ | exact ⟨⟨by omega, by omega⟩⟩ | exact ⟨⟨by omega, by omega, by omega⟩⟩
  rw [hq]
  exact Ld.refl _
end Go.Proofs.YtaihjcpfjgpmoaaGreatDoor

/- Where an author's feed is; what a key has; the clock. -/
namespace Go.Proofs.YtaihjcpfjgpmoaaGreatDoor
set_option linter.unusedVariables false
set_option linter.unusedSimpArgs false
set_option maxRecDepth 100000
open Go Go.DD
structure FnA where
  f : Fds
  author : List UInt8
def findN (l : Nat → Fd) (author : List UInt8) : Nat → Nat → Int | 0, _ => -1 | n + 1, i => if (l i).author = author then ((i : Nat) : Int) else findN l author n (i + 1)
def findR (l : Nat → Fd) (n : Nat) (author : List UInt8) : Int := findN l author n 0
def F62 : FSpec := mkG (fun (x : Fd × List UInt8) => [fdV x.1, .pim true (arrV 32 x.2)]) (fun x => x.1.author.length = 32 ∧ x.2.length = 32) (fun x => decide (x.1.author = x.2)) .bool
theorem f62_ok : FOk Tryz.prog [] 62 F62 := mkG_ok fun ⟨f, a⟩ ⟨hf, ha⟩ => by
  have hau := rowEq_bf hf ha
  have hΓ := ctxOk Tryz.f62.ntmps [] [] (FL.all .nil) (HL.all .nil)
  refine CP_of_OK hΓ Tryz.func62 (c := bodyOf Tryz.f62) rfl (by decide) rfl rfl (by simp) (vc_ok hΓ mixed 1000 _ [] _ (by kernel_rfl) rfl ?_)
  conv => whnf
  repeat' (first | (refine And.intro (fun _ => ?_) (fun _ => ?_) <;> conv => whnf) | (refine And.intro ?_ ?_ <;> conv => whnf))
  all_goals try first | exact ⟨rfl⟩ | exact ⟨⟨rfl, rfl⟩⟩ | exact ⟨⟨rfl, rfl, rfl⟩⟩ | exact ⟨fun _ _ => rfl⟩ | exact ⟨fun _ _ => trivial⟩ | exact ⟨fun k _ => isU8_bf _ k⟩ | exact ⟨by omega⟩ | exact ⟨⟨by omega, by omega⟩⟩ | exact ⟨⟨by omega, by omega, by omega⟩⟩ | exact ⟨fun _ _ => rfl⟩
  refine Ld.of (congrArg V.bool ?_)
  exact hau
theorem c61_ok : CtxOk Tryz.prog (ctx Tryz.f61.ntmps [(62, F62)] []) := ctxOk Tryz.f61.ntmps [(62, F62)] [] (FL.all (.cons f62_ok .nil)) (HL.all .nil)
def S61 : SpecH := fun xs h κ => xs.length = 2 ∧ inlineS Tryz.prog (ctx Tryz.f61.ntmps [(62, F62)] []) (bodyOf Tryz.f61) Tryz.f61.results.toList xs h κ
theorem s61_ok : SpecHOk Tryz.prog [] 61 S61 := inline_ok (c := bodyOf Tryz.f61) (np := 2) c61_ok Tryz.func61 rfl (by decide) rfl (by decide)
def Ffind : FSpec := mkG (fun (x : FnA) => [fdsV x.f.b x.f.n x.f.l, arrV 32 x.author]) (fun x => x.author.length = 32 ∧ (∀ k, k < x.f.n → (x.f.l k).author.length = 32) ∧ x.f.n ≤ 1000000) (fun x => findR x.f.l x.f.n x.author) (.int .i64)
theorem ffind_ok : FOk Tryz.prog [] 26 Ffind := mkG_ok fun ⟨⟨b, n, l⟩, author⟩ ⟨ha, hl, hn⟩ => by
  replace ha : author.length = 32 := ha
  replace hl : ∀ k, k < n → (l k).author.length = 32 := hl
  replace hn : n ≤ 1000000 := hn
  show CP _ _ _ [fdsV b n l, arrV 32 author] fun v => Ld v (.int .i64 (findR l n author))
  have hΓ := ctxOk Tryz.f26.ntmps [] [(61, S61)] (FL.all .nil) (HL.all (.cons s61_ok .nil))
  refine CP_of_OK hΓ Tryz.func26 (c := bodyOf Tryz.f26) rfl (by decide) rfl rfl (by simp) (vc_ok hΓ mixed 1000 _ [] _ (by kernel_rfl) rfl ?_)
  conv => whnf
  refine ⟨rfl, ?_⟩
  refine vc_ok (CtxOk.inner c61_ok _) mixed 1000 _ [] _ (by kernel_rfl) rfl ?_
  conv => whnf
  refine OK_loopC (ι := Nat) (fun i => [(0, fdsV b n l), (1, .fn 62 (.cons (.ref 0 []) .nil)), (7, .int .i64 (n : Nat)), (8, .int .i64 (i : Nat))]) (fun i => [some (arrV 32 author)]) (fun i => i ≤ n ∧ findR l n author = findN l author (n - i) i) (fun i => n - i) 0 [some 0] ?_ (fun i hi => vc_ok (CtxOk.inner c61_ok _) mixed 1000 _ [] _ (by kernel_rfl) rfl ?_)
  · conv => whnf
    repeat' (first | (refine And.intro (fun _ => ?_) (fun _ => ?_) <;> conv => whnf) | (refine And.intro ?_ ?_ <;> conv => whnf))
    all_goals try first | exact ⟨rfl⟩ | exact ⟨⟨rfl, rfl⟩⟩ | exact ⟨⟨rfl, rfl, rfl⟩⟩ | exact ⟨by omega⟩ | exact ⟨⟨by omega, by omega⟩⟩ | exact ⟨⟨by omega, by omega, by omega⟩⟩ | exact ⟨fun k _ => leV_refl _ trivial⟩ | exact ⟨fun _ _ => rfl⟩
    all_goals exact ⟨⟨Nat.zero_le _, rfl⟩⟩
  · obtain ⟨hi1, hi2⟩ := hi
    conv => whnf
    refine And.intro (fun h3 => ?_) (fun h3 => ?_) <;> conv => whnf
    · have hin : i < n := by
        have : ((i : Nat) : Int) < (n : Nat) := by simpa using h3
        omega
      have hau := rowEq_bf (hl i hin) ha
      have hst : findN l author (n - i) i = if (l i).author = author then ((i : Nat) : Int) else findN l author (n - (i + 1)) (i + 1) := by
        obtain ⟨m, hm⟩ : ∃ m, n - i = m + 1 := ⟨n - i - 1, by omega⟩
        rw [hm, findN, show n - (i + 1) = m by omega]
      conv => whnf
      repeat' (first | (refine And.intro (fun _ => ?_) (fun _ => ?_) <;> conv => whnf) | (refine And.intro ?_ ?_ <;> conv => whnf))
      all_goals (try simp only [decide_eq_true_eq, decide_eq_false_iff_not, Int.toNat_natCast, Bool.not_eq_true, Bool.not_eq_false] at *)
      all_goals try first | exact ⟨rfl⟩ | exact ⟨⟨rfl, rfl⟩⟩ | exact ⟨⟨rfl, rfl, rfl⟩⟩ | exact ⟨fun _ _ => rfl⟩ | exact ⟨fun _ _ => trivial⟩ | exact ⟨fun k _ => isU8_bf _ k⟩ | exact ⟨by omega⟩ | exact ⟨⟨by omega, by omega⟩⟩ | exact ⟨⟨by omega, by omega, by omega⟩⟩
      · exact ⟨⟨fun _ _ => trivial, fun h => nomatch h⟩⟩
      refine ⟨(l i, author), ⟨AE.refl _, AE.refl _, trivial⟩, ⟨hl i hin, ha⟩, ?_⟩
      intro r hr
      replace hr : r = decide ((l i).author = author) := hr
      conv => whnf
      repeat' (first | (refine And.intro (fun _ => ?_) (fun _ => ?_) <;> conv => whnf) | (refine And.intro ?_ ?_ <;> conv => whnf))
      · rename_i g
        replace g : r = true := g
        refine Ld.of (congrArg (V.int .i64) ?_)
        rw [hi2, hst, if_pos (of_decide_eq_true (hr.symm.trans g))]
      · rename_i g
        replace g : r = false := g
        refine ⟨i + 1, [some 0], ?_⟩
        conv => whnf
        repeat' (refine And.intro ?_ ?_ <;> conv => whnf)
        all_goals try first | exact ⟨rfl⟩ | exact ⟨⟨rfl, rfl⟩⟩ | exact ⟨⟨rfl, rfl, rfl⟩⟩ | exact ⟨by omega⟩ | exact ⟨⟨by omega, by omega⟩⟩ | exact ⟨⟨by omega, by omega, by omega⟩⟩ | exact ⟨fun k _ => leV_refl _ trivial⟩ | exact ⟨fun _ _ => rfl⟩
        · exact ⟨by rw [wrap_id (by omega) (by omega)]; rfl⟩
        exact ⟨⟨⟨by omega, by rw [hi2, hst, if_neg (of_decide_eq_false (hr.symm.trans g))]⟩, by omega⟩⟩
    · have hin : i = n := by
        have : ¬ ((i : Nat) : Int) < (n : Nat) := by simpa using h3
        omega
      refine vc_ok (CtxOk.inner c61_ok _) mixed 1000 _ [] _ (by kernel_rfl) rfl ?_
      conv => whnf
      refine Ld.of (congrArg (V.int .i64) ?_)
      rw [hi2, hin, Nat.sub_self]
      rfl
structure GtA where
  b : Bool
  n : Nat
  cs : Nat → Ce
  key : List UInt8
def keyN (cs : Nat → Ce) (key : List UInt8) : Nat → Nat → Int | 0, _ => -1 | n + 1, i => if (cs i).key = key then ((i : Nat) : Int) else keyN cs key n (i + 1)
def keyR (x : GtA) : Int := keyN x.cs x.key x.n 0
def getR (x : GtA) : List UInt8 × Int := if keyR x < 0 ∨ (x.cs (keyR x).toNat).gone = true then ([], 10) else ((x.cs (keyR x).toNat).val, 0)
def F45k : FSpec := mkG (fun (x : Ce × List UInt8) => [cellV x.1, .pim true (.str x.2)]) (fun _ => True) (fun x => decide (x.1.key = x.2)) .bool
theorem f45k_ok : FOk Tryz.prog [] 45 F45k := mkG_ok fun ⟨c, k⟩ _ => by
  have hΓ := ctxOk Tryz.f45.ntmps [] [] (FL.all .nil) (HL.all .nil)
  refine CP_of_OK hΓ Tryz.func45 (c := bodyOf Tryz.f45) rfl (by decide) rfl rfl (by simp) (vc_ok hΓ mixed 1000 _ [] _ (by kernel_rfl) rfl ?_)
  conv => whnf
  repeat' (first | (refine And.intro (fun _ => ?_) (fun _ => ?_) <;> conv => whnf) | (refine And.intro ?_ ?_ <;> conv => whnf))
  refine Ld.of (congrArg V.bool ?_)
  rw [Bool.eq_iff_iff]
  simp
theorem c44_ok : CtxOk Tryz.prog (ctx Tryz.f44.ntmps [(45, F45k)] []) := ctxOk Tryz.f44.ntmps [(45, F45k)] [] (FL.all (.cons f45k_ok .nil)) (HL.all .nil)
def S44 : SpecH := fun xs h κ => xs.length = 2 ∧ inlineS Tryz.prog (ctx Tryz.f44.ntmps [(45, F45k)] []) (bodyOf Tryz.f44) Tryz.f44.results.toList xs h κ
theorem s44_ok : SpecHOk Tryz.prog [] 44 S44 := inline_ok (c := bodyOf Tryz.f44) (np := 2) c44_ok Tryz.func44 rfl (by decide) rfl (by decide)
theorem keyN_lt {cs : Nat → Ce} {key : List UInt8} : ∀ n i, keyN cs key n i < 0 ∨ ((i : Nat) ≤ keyN cs key n i ∧ keyN cs key n i < (i + n : Nat))
  | 0, i => .inl (by simp [keyN])
  | n + 1, i => by
    unfold keyN
    split
    · right; omega
    · have := keyN_lt (cs := cs) (key := key) n (i + 1)
      omega
def Fget : FSpec := mkG (fun (x : GtA) => [cellsV x.b x.n x.cs, .str x.key]) (fun x => x.n ≤ 1000000 ∧ ∀ k, k < x.n → (x.cs k).val.length ≤ 1000000) getR (fun r => .tup (.cons (byV false r.1) (.cons (.int .i64 r.2) .nil)))
theorem fget_ok : FOk Tryz.prog [] 16 Fget := mkG_ok fun ⟨b, n, cs, key⟩ ⟨hn, hv⟩ => by
  replace hn : n ≤ 1000000 := hn
  replace hv : ∀ k, k < n → (cs k).val.length ≤ 1000000 := hv
  have hg : getR ⟨b, n, cs, key⟩ = if keyN cs key n 0 < 0 ∨ (cs (keyN cs key n 0).toNat).gone = true then ([], 10) else ((cs (keyN cs key n 0).toNat).val, 0) := rfl
  have hΓ := ctxOk Tryz.f16.ntmps [(46, F88)] [(44, S44)] (FL.all (.cons f88_ok .nil)) (HL.all (.cons s44_ok .nil))
  refine CP_of_OK hΓ Tryz.func16 (c := bodyOf Tryz.f16) rfl (by decide) rfl rfl (by simp) (vc_ok hΓ mixed 1000 _ [] _ (by kernel_rfl) rfl ?_)
  conv => whnf
  refine ⟨rfl, ?_⟩
  refine vc_ok (CtxOk.inner c44_ok _) mixed 1000 _ [] _ (by kernel_rfl) rfl ?_
  conv => whnf
  refine OK_loopC (ι := Nat) (fun i => [(0, cellsV b n cs), (1, .fn 45 (.cons (.ref 0 []) .nil)), (7, .int .i64 (n : Nat)), (8, .int .i64 (i : Nat))]) (fun i => [some (.str key)]) (fun i => i ≤ n ∧ keyN cs key n 0 = keyN cs key (n - i) i) (fun i => n - i) 0 [some 0] ?_ (fun i hi => vc_ok (CtxOk.inner c44_ok _) mixed 1000 _ [] _ (by kernel_rfl) rfl ?_)
  · conv => whnf
    repeat' (first | (refine And.intro (fun _ => ?_) (fun _ => ?_) <;> conv => whnf) | (refine And.intro ?_ ?_ <;> conv => whnf))
    all_goals try first | exact ⟨rfl⟩ | exact ⟨⟨rfl, rfl⟩⟩ | exact ⟨⟨rfl, rfl, rfl⟩⟩ | exact ⟨by omega⟩ | exact ⟨⟨by omega, by omega⟩⟩ | exact ⟨⟨by omega, by omega, by omega⟩⟩ | exact ⟨fun k _ => leV_refl _ trivial⟩ | exact ⟨fun _ _ => rfl⟩
    all_goals exact ⟨⟨Nat.zero_le _, rfl⟩⟩
  · obtain ⟨hi1, hi2⟩ := hi
    conv => whnf
    refine And.intro (fun h3 => ?_) (fun h3 => ?_) <;> conv => whnf
    · have hin : i < n := by
        have : ((i : Nat) : Int) < (n : Nat) := by simpa using h3
        omega
      have hst : keyN cs key (n - i) i = if (cs i).key = key then ((i : Nat) : Int) else keyN cs key (n - (i + 1)) (i + 1) := by
        obtain ⟨m, hm⟩ : ∃ m, n - i = m + 1 := ⟨n - i - 1, by omega⟩
        rw [hm, keyN, show n - (i + 1) = m by omega]
      conv => whnf
      repeat' (first | (refine And.intro (fun _ => ?_) (fun _ => ?_) <;> conv => whnf) | (refine And.intro ?_ ?_ <;> conv => whnf))
      all_goals (try simp only [decide_eq_true_eq, decide_eq_false_iff_not, Int.toNat_natCast, Bool.not_eq_true, Bool.not_eq_false] at *)
      all_goals try first | exact ⟨rfl⟩ | exact ⟨⟨rfl, rfl⟩⟩ | exact ⟨⟨rfl, rfl, rfl⟩⟩ | exact ⟨fun _ _ => rfl⟩ | exact ⟨fun _ _ => trivial⟩ | exact ⟨fun k _ => isU8_bf _ k⟩ | exact ⟨by omega⟩ | exact ⟨⟨by omega, by omega⟩⟩ | exact ⟨⟨by omega, by omega, by omega⟩⟩
      · exact ⟨⟨trivial, fun h => nomatch h⟩⟩
      refine ⟨(cs i, key), ⟨AE.refl _, AE.refl _, trivial⟩, ⟨trivial⟩, ?_⟩
      intro r hr
      replace hr : r = decide ((cs i).key = key) := hr
      conv => whnf
      refine And.intro (fun h4 => ?_) (fun h4 => ?_) <;> conv => whnf
      · replace h4 : r = true := h4
        have hk : keyN cs key n 0 = (i : Nat) := by rw [hi2, hst, if_pos (of_decide_eq_true (hr.symm.trans h4))]
        rw [hk] at hg
        conv => whnf
        repeat' (first | (refine And.intro (fun _ => ?_) (fun _ => ?_) <;> conv => whnf) | (refine And.intro ?_ ?_ <;> conv => whnf))
        all_goals (try simp only [decide_eq_true_eq, decide_eq_false_iff_not, Int.toNat_natCast, Bool.not_eq_true, Bool.not_eq_false] at *)
        all_goals try first | exact ⟨rfl⟩ | exact ⟨⟨rfl, rfl⟩⟩ | exact ⟨⟨rfl, rfl, rfl⟩⟩ | exact ⟨fun _ _ => rfl⟩ | exact ⟨fun _ _ => trivial⟩ | exact ⟨fun k _ => isU8_bf _ k⟩ | exact ⟨by omega⟩ | exact ⟨⟨by omega, by omega⟩⟩ | exact ⟨⟨by omega, by omega, by omega⟩⟩
        · omega
        · rw [hg, if_pos (.inr (by assumption))]
          exact Ld.two Ld.emp (by simp) rfl (by simp [byV]) rfl
        · refine ⟨.of false (cs i).val, rfl, ⟨trivial, hv i hin⟩, ?_⟩
          conv => whnf
          repeat' (first | (refine And.intro (fun _ => ?_) (fun _ => ?_) <;> conv => whnf) | (refine And.intro ?_ ?_ <;> conv => whnf))
          all_goals try first | exact ⟨rfl⟩ | exact ⟨⟨rfl, rfl⟩⟩ | exact ⟨⟨rfl, rfl, rfl⟩⟩ | exact ⟨fun _ _ => rfl⟩ | exact ⟨fun _ _ => trivial⟩ | exact ⟨fun k _ => isU8_bf _ k⟩ | exact ⟨by omega⟩ | exact ⟨⟨by omega, by omega⟩⟩ | exact ⟨⟨by omega, by omega, by omega⟩⟩
          rw [hg, if_neg (by rw [not_or, Bool.not_eq_true]; exact ⟨by omega, by assumption⟩)]
          exact Ld.of rfl
      · replace h4 : r = false := h4
        conv => whnf
        repeat' (first | (refine And.intro (fun _ => ?_) (fun _ => ?_) <;> conv => whnf) | (refine And.intro ?_ ?_ <;> conv => whnf))
        refine ⟨i + 1, [some 0], ?_⟩
        conv => whnf
        repeat' (refine And.intro ?_ ?_ <;> conv => whnf)
        all_goals try first | exact ⟨rfl⟩ | exact ⟨⟨rfl, rfl⟩⟩ | exact ⟨⟨rfl, rfl, rfl⟩⟩ | exact ⟨by omega⟩ | exact ⟨⟨by omega, by omega⟩⟩ | exact ⟨⟨by omega, by omega, by omega⟩⟩ | exact ⟨fun k _ => leV_refl _ trivial⟩ | exact ⟨fun _ _ => rfl⟩
        · exact ⟨by rw [wrap_id (by omega) (by omega)]; rfl⟩
        exact ⟨⟨⟨by omega, by rw [hi2, hst, if_neg (of_decide_eq_false (hr.symm.trans h4))]⟩, by omega⟩⟩
    · have hin : i = n := by
        have : ¬ ((i : Nat) : Int) < (n : Nat) := by simpa using h3
        omega
      have hk : keyN cs key n 0 = -1 := by rw [hi2, hin, Nat.sub_self]; rfl
      rw [hk] at hg
      refine vc_ok (CtxOk.inner c44_ok _) mixed 1000 _ [] _ (by kernel_rfl) rfl ?_
      conv => whnf
      conv => whnf
      refine And.intro (fun h4 => ?_) (fun h4 => ?_) <;> conv => whnf
      · conv => whnf
        rw [hg, if_pos (.inl (by decide))]
        exact Ld.two Ld.emp (by simp) rfl (by simp [byV]) rfl
      · exact absurd h4 (by decide)
def clockE (es : Nat → Ent) : Nat → Int → Int | 0, c => c | n + 1, c => max (clockE es n c) (es n).stamp
def clockN (l : Nat → Fd) : Nat → Int | 0 => 0 | n + 1 => if (l n).shut then clockN l n else clockE (l n).es (l n).n (clockN l n)
def clockR (a : Fds) : Int := if feedsOk a.n a.l then clockN a.l a.n else 0
def Fclock : FSpec := mkG (fun (a : Fds) => [fdsV a.b a.n a.l]) (fun a => ∀ k, k < a.n → preF (a.l k)) clockR (.int .i64)
theorem fclock_ok : FOk Tryz.prog G 15 Fclock := mkG_ok fun ⟨b, n, l⟩ hl => by
  replace hl : ∀ k, k < n → preF (l k) := hl
  show CP _ _ _ [fdsV b n l] fun v => Ld v (.int .i64 (clockR ⟨b, n, l⟩))
  have hΓ := ctxG_ok Tryz.f15.ntmps [(25, F29c)] [] [] (.cons (f29c_ok) .nil) .nil
  refine CP_of_OK hΓ Tryz.func15 (c := bodyOf Tryz.f15) rfl (by decide) rfl rfl (by simp) (vc_ok hΓ mixed 1000 _ [] _ (by kernel_rfl) rfl ?_)
  conv => whnf
  refine ⟨⟨b, n, l⟩, ⟨AE.refl _, trivial⟩, ⟨hl⟩, ?_⟩
  intro r hr
  replace hr : r = feedsOk n l := hr
  conv => whnf
  refine And.intro (fun h1 => ?_) (fun h1 => ?_) <;> conv => whnf
  · have hr2 : r = false := by cases r <;> simp_all
    refine Ld.of (congrArg (V.int .i64) ?_)
    rw [clockR, if_neg (by rw [← hr, hr2]; simp)]
  have hr2 : r = true := by cases r <;> simp_all
  have e1 : clockR ⟨b, n, l⟩ = clockN l n := if_pos (by rw [← hr, hr2])
  rw [e1]
  rw [hr2] at hr
  obtain ⟨n1, n8, hlook⟩ := feedsOk_look hr.symm
  refine OK_loopC (ι := Nat) (fun i => [(3, .int .i64 (clockN l i)), (12, fdsV b n l), (13, .int .i64 (n : Nat)), (14, .int .i64 (i : Nat))]) (fun i => []) (fun i => i ≤ n) (fun i => n - i) 0 [] ?_ (fun i hi => vc_ok hΓ mixed 1000 _ [] _ (by kernel_rfl) rfl ?_)
  · conv => whnf
    repeat' (first | (refine And.intro (fun _ => ?_) (fun _ => ?_) <;> conv => whnf) | (refine And.intro ?_ ?_ <;> conv => whnf))
    all_goals try first | exact ⟨rfl⟩ | exact ⟨⟨rfl, rfl⟩⟩ | exact ⟨⟨rfl, rfl, rfl⟩⟩ | exact ⟨fun _ _ => rfl⟩ | exact ⟨fun _ _ => trivial⟩ | exact ⟨fun k _ => isU8_bf _ k⟩ | exact ⟨by omega⟩ | exact ⟨⟨by omega, by omega⟩⟩ | exact ⟨⟨by omega, by omega, by omega⟩⟩
  · conv => whnf
    refine And.intro (fun h3 => ?_) (fun h3 => ?_) <;> conv => whnf
    · have hin : i < n := by
        have : ((i : Nat) : Int) < (n : Nat) := by simpa using h3
        omega
      have hn2 := (look_ents (hlook i hin)).1
      conv => whnf
      repeat' (first | (refine And.intro (fun _ => ?_) (fun _ => ?_) <;> conv => whnf) | (refine And.intro ?_ ?_ <;> conv => whnf))
      all_goals (try simp only [decide_eq_true_eq, decide_eq_false_iff_not, Int.toNat_natCast, Bool.not_eq_true, Bool.not_eq_false] at *)
      all_goals try first | exact ⟨rfl⟩ | exact ⟨⟨rfl, rfl⟩⟩ | exact ⟨⟨rfl, rfl, rfl⟩⟩ | exact ⟨fun _ _ => rfl⟩ | exact ⟨fun _ _ => trivial⟩ | exact ⟨fun k _ => isU8_bf _ k⟩ | exact ⟨by omega⟩ | exact ⟨⟨by omega, by omega⟩⟩ | exact ⟨⟨by omega, by omega, by omega⟩⟩
      · rename_i g
        refine ⟨i + 1, [], ?_⟩
        conv => whnf
        repeat' (refine And.intro ?_ ?_ <;> conv => whnf)
        all_goals try first | exact ⟨rfl⟩ | exact ⟨⟨rfl, rfl⟩⟩ | exact ⟨⟨rfl, rfl, rfl⟩⟩ | exact ⟨fun _ _ => rfl⟩ | exact ⟨fun _ _ => trivial⟩ | exact ⟨fun k _ => isU8_bf _ k⟩ | exact ⟨by omega⟩ | exact ⟨⟨by omega, by omega⟩⟩ | exact ⟨⟨by omega, by omega, by omega⟩⟩
        · refine ⟨?_⟩
          rw [clockN, if_pos g]
        · exact ⟨by rw [wrap_id (by omega) (by omega)]; rfl⟩
      · rename_i g
        refine OK_loopC (ι := Nat) (fun j => [(3, .int .i64 (clockE (l i).es j (clockN l i))), (12, fdsV b n l), (13, .int .i64 (n : Nat)), (14, .int .i64 (i : Nat)), (21, entsV false (l i).n (l i).es), (22, .int .i64 ((l i).n : Nat)), (23, .int .i64 (j : Nat))]) (fun j => []) (fun j => j ≤ (l i).n) (fun j => (l i).n - j) 0 [] ?_ (fun j hj => vc_ok hΓ mixed 1000 _ [] _ (by kernel_rfl) rfl ?_)
        · conv => whnf
          repeat' (first | (refine And.intro (fun _ => ?_) (fun _ => ?_) <;> conv => whnf) | (refine And.intro ?_ ?_ <;> conv => whnf))
          all_goals try first | exact ⟨rfl⟩ | exact ⟨⟨rfl, rfl⟩⟩ | exact ⟨⟨rfl, rfl, rfl⟩⟩ | exact ⟨fun _ _ => rfl⟩ | exact ⟨fun _ _ => trivial⟩ | exact ⟨fun k _ => isU8_bf _ k⟩ | exact ⟨by omega⟩ | exact ⟨⟨by omega, by omega⟩⟩ | exact ⟨⟨by omega, by omega, by omega⟩⟩
        · conv => whnf
          refine And.intro (fun h4 => ?_) (fun h4 => ?_) <;> conv => whnf
          · have hjn : j < (l i).n := by
              have : ((j : Nat) : Int) < ((l i).n : Nat) := by simpa using h4
              omega
            conv => whnf
            repeat' (first | (refine And.intro (fun _ => ?_) (fun _ => ?_) <;> conv => whnf) | (refine And.intro ?_ ?_ <;> conv => whnf))
            all_goals (try simp only [decide_eq_true_eq, decide_eq_false_iff_not, Int.toNat_natCast, Bool.not_eq_true, Bool.not_eq_false] at *)
            all_goals try first | exact ⟨rfl⟩ | exact ⟨⟨rfl, rfl⟩⟩ | exact ⟨⟨rfl, rfl, rfl⟩⟩ | exact ⟨fun _ _ => rfl⟩ | exact ⟨fun _ _ => trivial⟩ | exact ⟨fun k _ => isU8_bf _ k⟩ | exact ⟨by omega⟩ | exact ⟨⟨by omega, by omega⟩⟩ | exact ⟨⟨by omega, by omega, by omega⟩⟩
            refine ⟨j + 1, [], ?_⟩
            conv => whnf
            repeat' (refine And.intro ?_ ?_ <;> conv => whnf)
            all_goals try first | exact ⟨rfl⟩ | exact ⟨⟨rfl, rfl⟩⟩ | exact ⟨⟨rfl, rfl, rfl⟩⟩ | exact ⟨fun _ _ => rfl⟩ | exact ⟨fun _ _ => trivial⟩ | exact ⟨fun k _ => isU8_bf _ k⟩ | exact ⟨by omega⟩ | exact ⟨⟨by omega, by omega⟩⟩ | exact ⟨⟨by omega, by omega, by omega⟩⟩
            · exact ⟨by rw [wrap_id (by omega) (by omega)]; rfl⟩
          · have hjn : j = (l i).n := by
              have : ¬ ((j : Nat) : Int) < ((l i).n : Nat) := by simpa using h4
              omega
            refine vc_ok hΓ mixed 1000 _ [] _ (by kernel_rfl) rfl ?_
            conv => whnf
            subst hjn
            refine ⟨i + 1, [], ?_⟩
            conv => whnf
            repeat' (refine And.intro ?_ ?_ <;> conv => whnf)
            all_goals try first | exact ⟨rfl⟩ | exact ⟨⟨rfl, rfl⟩⟩ | exact ⟨⟨rfl, rfl, rfl⟩⟩ | exact ⟨fun _ _ => rfl⟩ | exact ⟨fun _ _ => trivial⟩ | exact ⟨fun k _ => isU8_bf _ k⟩ | exact ⟨by omega⟩ | exact ⟨⟨by omega, by omega⟩⟩ | exact ⟨⟨by omega, by omega, by omega⟩⟩
            · refine ⟨?_⟩
              rw [clockN, if_neg (by simp [g])]
            · exact ⟨by rw [wrap_id (by omega) (by omega)]; rfl⟩
    · have hin : i = n := by
        have : ¬ ((i : Nat) : Int) < (n : Nat) := by simpa using h3
        omega
      refine vc_ok hΓ mixed 1000 _ [] _ (by kernel_rfl) rfl ?_
      conv => whnf
      subst hin
      exact Ld.refl _
end Go.Proofs.YtaihjcpfjgpmoaaGreatDoor

/- What is signed of an entry; an entry signed. -/
namespace Go.Proofs.YtaihjcpfjgpmoaaGreatDoor
set_option linter.unusedVariables false
set_option linter.unusedSimpArgs false
set_option maxRecDepth 100000
open Go Go.DD
def bodToks (e : Ent) : Toks := ⟨true, 10, entTok e 6⟩
def encB (e : Ent) : List UInt8 × Int := if entOk e then enc (bodToks e) else ([], 1)
def bodTr (e : Ent) : Tr := .arr (.cons (.leaf ⟨1, 1, false, []⟩) (.cons (.leaf ⟨3, 0, true, e.author⟩) (.cons (.leaf ⟨1, e.seq, false, []⟩) (.cons (.leaf ⟨3, 0, true, e.prev⟩) (.cons (.leaf ⟨1, e.stamp, false, []⟩)
  (.cons (.arr (.cons (.leaf ⟨1, e.kind, false, []⟩) (.cons (.leaf ⟨4, 0, false, e.key⟩) (.cons (.leaf ⟨3, 0, false, e.val⟩) .nil)))) .nil))))))
theorem bodTr_ok {e : Ent} (hw : wfE e) (he : entOk e = true) (k : Nat) : (bodTr e).ok (k + 2) := by
  obtain ⟨h1, h2, h3, h4, h5, h6, h7, h8⟩ := entOk_len he
  obtain ⟨w1, w2, w3⟩ := hw
  have hn : ∀ n : Int, 0 ≤ n → FlatT ⟨1, n, false, []⟩ := fun n h => ⟨by simp, .inl ⟨rfl, h, rfl⟩⟩
  have hb : ∀ (b : Bool) (l : List UInt8), l.length ≤ 2000 → FlatT ⟨3, 0, b, l⟩ := fun b l h => ⟨h, .inr (.inl ⟨rfl, rfl⟩)⟩
  simp only [bodTr, Tr.ok, Trs.ok, Trs.len]
  exact ⟨k + 1, rfl, by omega, hn _ (by omega), hb _ _ (by omega), hn _ (by omega), hb _ _ (by omega), hn _ h4, ⟨k, rfl, by omega, hn _ (by omega), ⟨by show e.key.length ≤ 2000; omega, .inr (.inr ⟨rfl, rfl, h6⟩)⟩, hb _ _ (by omega), trivial⟩, trivial⟩
theorem bodTr_len {e : Ent} (hw : wfE e) (he : entOk e = true) : (bodTr e).by.length ≤ 400 := by
  obtain ⟨h1, h2, h3, h4, h5, h6, h7, h8⟩ := entOk_len he
  obtain ⟨w1, w2, w3⟩ := hw
  refine Nat.le_trans (Tr.by_len _ 6 (bodTr_ok ⟨w1, w2, w3⟩ he 4)) ?_
  simp only [bodTr, Tr.tk, Trs.tk, Trs.len, List.map_cons, List.map_nil, List.map_append, List.sum_cons, List.sum_nil, List.sum_append, List.cons_append, List.nil_append, List.append_nil, tkW, List.length_nil, w1, w2]
  omega
theorem bodTr_at (e : Ent) : At (bodToks e) 0 (bodTr e).tk := by
  refine ⟨Nat.le_refl 10, fun j hj => ?_⟩
  have hj : j < 10 := hj
  match j, hj with
  | 0, _ | 1, _ | 2, _ | 3, _ | 4, _ | 5, _ | 6, _ | 7, _ | 8, _ | 9, _ => rfl
theorem encB_eq {e : Ent} (hw : wfE e) (he : entOk e = true) : encB e = ((bodTr e).by, 0) := by
  rw [encB, if_pos he]
  exact enc_tree (bodTr_ok hw he 4) (bodTr_at e) rfl (by show 10 ≤ 600; omega) (by have := bodTr_len hw he; omega)
theorem encB_len (e : Ent) : (encB e).1.length ≤ 32768 := by
  unfold encB
  split
  · exact enc_len _
  · simp
def Fwrite6 : FSpec := mkF (fun (e : Ent) => [entV e, .int .i64 6]) (fun e => wfE e ∧ e.stamp ≤ 9223372036854775807) (fun e => encR (encB e))
theorem fwrite6_ok : FOk Tryz.prog G 129 Fwrite6 := mkF_ld fun e ⟨⟨w1, w2, w3⟩, hst⟩ => by
  have hΓ := ctxG_ok Tryz.f129.ntmps [(63, F127), (166, F61)] [(167, S128)] [] (.cons (f127_ok) (.cons (f61_ok) .nil)) (.cons (s128_ok) .nil)
  refine CP_of_OK hΓ Tryz.func129 (c := bodyOf Tryz.f129) rfl (by decide) rfl rfl (by simp) (vc_ok hΓ mixed 1000 _ [] _ (by kernel_rfl) rfl ?_)
  conv => whnf
  repeat' (first | (refine And.intro (fun _ => ?_) (fun _ => ?_) <;> conv => whnf) | (refine And.intro ?_ ?_ <;> conv => whnf))
  all_goals try first | exact ⟨rfl⟩ | exact ⟨⟨rfl, rfl⟩⟩ | exact ⟨⟨rfl, rfl, rfl⟩⟩ | exact ⟨fun _ _ => rfl⟩ | exact ⟨fun _ _ => trivial⟩ | exact ⟨fun k _ => isU8_bf _ k⟩ | exact ⟨by omega⟩ | exact ⟨⟨by omega, by omega⟩⟩ | exact ⟨⟨by omega, by omega, by omega⟩⟩
  refine ⟨e, rfl, ⟨trivial⟩, ?_⟩
  conv => whnf
  refine And.intro (fun h1 => ?_) (fun h1 => ?_) <;> conv => whnf
  · have hk : entOk e = false := by
      cases hq : entOk e
      · rfl
      · simp [hq] at h1
    have e1 : encB e = ([], 1) := if_neg (by simp [hk])
    have e2 : (if entOk e = true then (0 : Int) else 1) = 1 := if_neg (by simp [hk])
    rw [e1, e2]
    exact Ld.two Ld.emp (by simp) rfl (by simp [byV]) rfl
  · have hk : entOk e = true := by
      cases hq : entOk e
      · simp [hq] at h1
      · rfl
    have e1 : encB e = enc (bodToks e) := if_pos hk
    simp only [entOk, opOk, Bool.and_eq_true, decide_eq_true_eq, Bool.or_eq_true] at hk
    conv => whnf
    repeat' (first | (refine And.intro (fun _ => ?_) (fun _ => ?_) <;> conv => whnf) | (refine And.intro ?_ ?_ <;> conv => whnf))
    all_goals try first | exact ⟨rfl⟩ | exact ⟨⟨rfl, rfl⟩⟩ | exact ⟨⟨rfl, rfl, rfl⟩⟩ | exact ⟨fun _ _ => rfl⟩ | exact ⟨fun _ _ => trivial⟩ | exact ⟨fun k _ => isU8_bf _ k⟩ | exact ⟨by omega⟩ | exact ⟨⟨by omega, by omega⟩⟩ | exact ⟨⟨by omega, by omega, by omega⟩⟩
    · exact rfl
    refine vc_ok (CtxOk.inner c128_ok _) mixed 1000 _ [] _ (by kernel_rfl) rfl ?_
    conv => whnf
    refine ⟨6, rfl, ⟨trivial⟩, ?_⟩
    conv => whnf
    refine ⟨1, rfl, ⟨trivial⟩, ?_⟩
    conv => whnf
    repeat' (first | (refine And.intro (fun _ => ?_) (fun _ => ?_) <;> conv => whnf) | (refine And.intro ?_ ?_ <;> conv => whnf))
    all_goals try first | exact ⟨rfl⟩ | exact ⟨⟨rfl, rfl⟩⟩ | exact ⟨⟨rfl, rfl, rfl⟩⟩ | exact ⟨by omega⟩ | exact ⟨⟨by omega, by omega⟩⟩ | exact ⟨⟨by omega, by omega, by omega⟩⟩
    refine ⟨.fld 0 0 0 32 32, [some 1], ?_⟩
    conv => whnf
    repeat' (first | (refine And.intro (fun _ => ?_) (fun _ => ?_) <;> conv => whnf) | (refine And.intro ?_ ?_ <;> conv => whnf))
    all_goals try first | exact ⟨rfl⟩ | exact ⟨⟨rfl, rfl⟩⟩ | exact ⟨⟨rfl, rfl, rfl⟩⟩ | exact ⟨by omega⟩ | exact ⟨⟨by omega, by omega⟩⟩ | exact ⟨⟨by omega, by omega, by omega⟩⟩ | exact ⟨trivial⟩
    refine ⟨e.seq, rfl, ⟨trivial⟩, ?_⟩
    conv => whnf
    repeat' (first | (refine And.intro (fun _ => ?_) (fun _ => ?_) <;> conv => whnf) | (refine And.intro ?_ ?_ <;> conv => whnf))
    all_goals try first | exact ⟨rfl⟩ | exact ⟨⟨rfl, rfl⟩⟩ | exact ⟨⟨rfl, rfl, rfl⟩⟩ | exact ⟨by omega⟩ | exact ⟨⟨by omega, by omega⟩⟩ | exact ⟨⟨by omega, by omega, by omega⟩⟩ | exact ⟨trivial⟩
    refine ⟨.fld 2 33 0 32 32, [some 1], ?_⟩
    conv => whnf
    repeat' (first | (refine And.intro (fun _ => ?_) (fun _ => ?_) <;> conv => whnf) | (refine And.intro ?_ ?_ <;> conv => whnf))
    all_goals try first | exact ⟨rfl⟩ | exact ⟨⟨rfl, rfl⟩⟩ | exact ⟨⟨rfl, rfl, rfl⟩⟩ | exact ⟨by omega⟩ | exact ⟨⟨by omega, by omega⟩⟩ | exact ⟨⟨by omega, by omega, by omega⟩⟩ | exact ⟨trivial⟩
    refine ⟨e.stamp, rfl, ⟨trivial⟩, ?_⟩
    conv => whnf
    repeat' (first | (refine And.intro (fun _ => ?_) (fun _ => ?_) <;> conv => whnf) | (refine And.intro ?_ ?_ <;> conv => whnf))
    all_goals try first | exact ⟨rfl⟩ | exact ⟨⟨rfl, rfl⟩⟩ | exact ⟨⟨rfl, rfl, rfl⟩⟩ | exact ⟨by omega⟩ | exact ⟨⟨by omega, by omega⟩⟩ | exact ⟨⟨by omega, by omega, by omega⟩⟩ | exact ⟨trivial⟩
    refine ⟨3, rfl, ⟨trivial⟩, ?_⟩
    conv => whnf
    repeat' (first | (refine And.intro (fun _ => ?_) (fun _ => ?_) <;> conv => whnf) | (refine And.intro ?_ ?_ <;> conv => whnf))
    all_goals try first | exact ⟨rfl⟩ | exact ⟨⟨rfl, rfl⟩⟩ | exact ⟨⟨rfl, rfl, rfl⟩⟩ | exact ⟨by omega⟩ | exact ⟨⟨by omega, by omega⟩⟩ | exact ⟨⟨by omega, by omega, by omega⟩⟩ | exact ⟨trivial⟩
    refine ⟨e.kind, rfl, ⟨trivial⟩, ?_⟩
    conv => whnf
    repeat' (first | (refine And.intro (fun _ => ?_) (fun _ => ?_) <;> conv => whnf) | (refine And.intro ?_ ?_ <;> conv => whnf))
    all_goals try first | exact ⟨rfl⟩ | exact ⟨⟨rfl, rfl⟩⟩ | exact ⟨⟨rfl, rfl, rfl⟩⟩ | exact ⟨by omega⟩ | exact ⟨⟨by omega, by omega⟩⟩ | exact ⟨⟨by omega, by omega, by omega⟩⟩ | exact ⟨trivial⟩
    refine ⟨e.key, rfl, ⟨by omega, by omega⟩, ?_⟩
    conv => whnf
    repeat' (first | (refine And.intro (fun _ => ?_) (fun _ => ?_) <;> conv => whnf) | (refine And.intro ?_ ?_ <;> conv => whnf))
    all_goals try first | exact ⟨rfl⟩ | exact ⟨⟨rfl, rfl⟩⟩ | exact ⟨⟨rfl, rfl, rfl⟩⟩ | exact ⟨by omega⟩ | exact ⟨⟨by omega, by omega⟩⟩ | exact ⟨⟨by omega, by omega, by omega⟩⟩ | exact ⟨trivial⟩
    refine ⟨.imm false e.val.length (bf e.val), [], ?_⟩
    conv => whnf
    repeat' (first | (refine And.intro (fun _ => ?_) (fun _ => ?_) <;> conv => whnf) | (refine And.intro ?_ ?_ <;> conv => whnf))
    all_goals try first | exact ⟨rfl⟩ | exact ⟨⟨rfl, rfl⟩⟩ | exact ⟨⟨rfl, rfl, rfl⟩⟩ | exact ⟨by omega⟩ | exact ⟨⟨by omega, by omega⟩⟩ | exact ⟨⟨by omega, by omega, by omega⟩⟩ | exact ⟨fun _ _ => rfl⟩ | exact ⟨trivial⟩
    all_goals try (rename_i hx; exact absurd hx (by decide))
    · refine ⟨?_⟩
      refine (lt_step ?_ (lt_step ?_ (lt_step ?_ (lt_step ?_ (lt_step ?_ (lt_step ?_ (lt_step ?_ (lt_step ?_ (lt_step ?_ (lt_step ?_ lt_zero))))))))))
      all_goals (conv => whnf)
      all_goals (repeat' (refine And.intro ?_ ?_ <;> conv => whnf))
      all_goals first
        | trivial
        | exact ⟨⟨rfl, by decide⟩⟩
        | exact ⟨fun _ _ => trivial⟩
    refine ⟨⟨_, bodToks e⟩, rfl, ⟨?_, ?_⟩, ?_⟩
    · show ∀ k, k < 10 → isTok _ _
      refine (lt_step ?_ (lt_step ?_ (lt_step ?_ (lt_step ?_ (lt_step ?_ (lt_step ?_ (lt_step ?_ (lt_step ?_ (lt_step ?_ (lt_step ?_ lt_zero))))))))))
      · exact .inl rfl
      · exact .inl rfl
      · exact .inr ⟨rfl, rfl⟩
      · exact .inr ⟨rfl, rfl⟩
      · exact .inr ⟨rfl, rfl⟩
      · exact .inl (Eq.trans rfl (tok_arr w2))
      · exact .inr ⟨rfl, rfl⟩
      · exact .inl (Eq.trans rfl (tok_arr w1))
      · exact .inr ⟨rfl, rfl⟩
      · exact .inr ⟨rfl, rfl⟩
    · show ∀ k, k < 10 → tokOk (entTok e 6 k)
      refine (lt_step ?_ (lt_step ?_ (lt_step ?_ (lt_step ?_ (lt_step ?_ (lt_step ?_ (lt_step ?_ (lt_step ?_ (lt_step ?_ (lt_step ?_ lt_zero))))))))))
      all_goals (refine ⟨by simp only [entTok]; decide, ?_, ?_⟩)
      all_goals (simp only [entTok, List.length_nil, w1, w2, w3])
      all_goals omega
    · rw [e1]
      conv => whnf
      repeat' (first | (refine And.intro (fun _ => ?_) (fun _ => ?_) <;> conv => whnf) | (refine And.intro ?_ ?_ <;> conv => whnf))
      · exact ⟨fun _ _ => own_bf _ _⟩
      · exact Ld.of rfl
def FbodyE : FSpec := mkG (fun (e : Ent) => [entV e]) preE encB encR
theorem fbodyE_ok : FOk Tryz.prog G 90 FbodyE := mkG_ok fun e he => by
  have hΓ := ctxG_ok Tryz.f90.ntmps [(129, Fwrite6)] [] [] (.cons (fwrite6_ok) .nil) .nil
  refine CP_of_OK hΓ Tryz.func90 (c := bodyOf Tryz.f90) rfl (by decide) rfl rfl (by simp) (vc_ok hΓ mixed 1000 _ [] _ (by kernel_rfl) rfl ?_)
  conv => whnf
  repeat' (first | (refine And.intro (fun _ => ?_) (fun _ => ?_) <;> conv => whnf) | (refine And.intro ?_ ?_ <;> conv => whnf))
  all_goals try first | exact ⟨rfl⟩ | exact ⟨⟨rfl, rfl⟩⟩ | exact ⟨⟨rfl, rfl, rfl⟩⟩ | exact ⟨fun _ _ => rfl⟩ | exact ⟨fun _ _ => trivial⟩ | exact ⟨fun k _ => isU8_bf _ k⟩ | exact ⟨by omega⟩ | exact ⟨⟨by omega, by omega⟩⟩ | exact ⟨⟨by omega, by omega, by omega⟩⟩
  refine ⟨e, rfl, ⟨he⟩, ?_⟩
  conv => whnf
  repeat' (first | (refine And.intro (fun _ => ?_) (fun _ => ?_) <;> conv => whnf) | (refine And.intro ?_ ?_ <;> conv => whnf))
  all_goals try first | exact ⟨rfl⟩ | exact ⟨⟨rfl, rfl⟩⟩ | exact ⟨⟨rfl, rfl, rfl⟩⟩ | exact ⟨fun _ _ => rfl⟩ | exact ⟨fun _ _ => trivial⟩ | exact ⟨fun k _ => isU8_bf _ k⟩ | exact ⟨by omega⟩ | exact ⟨⟨by omega, by omega⟩⟩ | exact ⟨⟨by omega, by omega, by omega⟩⟩
  · exact Ld.refl _
/-- An entry, signed by the open kind. -/
def signE (s : List UInt8) (e : Ent) : Ent := { e with author := pubO s, sig := sigO (pubO s) (encB { e with author := pubO s }).1 }
structure SgA where
  s : List UInt8
  e : Ent
theorem entOk_auth (e : Ent) (a : List UInt8) : entOk { e with author := a } = entOk e := rfl
def FsignE : FSpec := mkG (fun (x : SgA) => [.int .i64 2, arrV 32 x.s, entV x.e]) (fun x => x.s.length = 32 ∧ preE x.e ∧ entOk x.e = true) (fun x => signE x.s x.e) (fun r => .tup (.cons (entV r) (.cons (.int .i64 0) .nil)))
theorem fsignE_ok : FOk Tryz.prog G 65 FsignE := mkG_ok fun ⟨s, e⟩ ⟨hs, he, hk⟩ => by
  have hΓ := ctxG_ok Tryz.f65.ntmps [(24, Fpub), (68, FtwE), (90, FbodyE), (104, Fsign)] [] [] (.cons (fpub_ok.g) (.cons (ftwE_ok.g) (.cons (fbodyE_ok) (.cons (fsign_ok) .nil)))) .nil
  refine CP_of_OK hΓ Tryz.func65 (c := bodyOf Tryz.f65) rfl (by decide) rfl rfl (by simp) (vc_ok hΓ mixed 1000 _ [] _ (by kernel_rfl) rfl ?_)
  replace hs : s.length = 32 := hs
  replace he : preE e := he
  replace hk : entOk e = true := hk
  have hlen := entOk_len hk
  have hpub := pubO_len s
  have hwf : wfE { e with author := pubO s } := ⟨hpub, he.1.2.1, he.1.2.2⟩
  have hbod := encB_eq (e := { e with author := pubO s }) hwf hk
  have hbl := encB_len { e with author := pubO s }
  conv => whnf
  repeat' (first | (refine And.intro (fun _ => ?_) (fun _ => ?_) <;> conv => whnf) | (refine And.intro ?_ ?_ <;> conv => whnf))
  all_goals try first | exact ⟨rfl⟩ | exact ⟨⟨rfl, rfl⟩⟩ | exact ⟨⟨rfl, rfl, rfl⟩⟩ | exact ⟨fun _ _ => rfl⟩ | exact ⟨fun _ _ => trivial⟩ | exact ⟨fun k _ => isU8_bf _ k⟩ | exact ⟨by omega⟩ | exact ⟨⟨by omega, by omega⟩⟩ | exact ⟨⟨by omega, by omega, by omega⟩⟩
  refine ⟨s, ⟨AE.refl _, AE.refl _, trivial⟩, ⟨hs⟩, ?_⟩
  intro q hq
  replace hq : q = pubO s := hq
  subst hq
  conv => whnf
  repeat' (first | (refine And.intro (fun hp => ?_) (fun hp => ?_) <;> first | (exfalso; revert hp; simp; done) | conv => whnf) | (refine And.intro ?_ ?_ <;> conv => whnf))
  all_goals try first | exact ⟨rfl⟩ | exact ⟨⟨rfl, rfl⟩⟩ | exact ⟨⟨rfl, rfl, rfl⟩⟩ | exact ⟨fun _ _ => rfl⟩ | exact ⟨fun _ _ => trivial⟩ | exact ⟨fun k _ => isU8_bf _ k⟩ | exact ⟨by omega⟩ | exact ⟨⟨by omega, by omega⟩⟩ | exact ⟨⟨by omega, by omega, by omega⟩⟩ | exact ⟨fun _ _ => trivial⟩ | exact ⟨fun _ _ => rfl⟩
  refine ⟨e, ⟨AE.refl _, trivial⟩, ⟨by show e.val.length ≤ 1000000; omega⟩, ?_⟩
  intro t ht
  replace ht : t = e := ht
  subst ht
  conv => whnf
  repeat' (first | (refine And.intro (fun _ => ?_) (fun _ => ?_) <;> conv => whnf) | (refine And.intro ?_ ?_ <;> conv => whnf))
  all_goals try first | exact ⟨rfl⟩ | exact ⟨⟨rfl, rfl⟩⟩ | exact ⟨⟨rfl, rfl, rfl⟩⟩ | exact ⟨fun _ _ => rfl⟩ | exact ⟨fun _ _ => trivial⟩ | exact ⟨fun k _ => isU8_bf _ k⟩ | exact ⟨by omega⟩ | exact ⟨⟨by omega, by omega⟩⟩ | exact ⟨⟨by omega, by omega, by omega⟩⟩ | exact ⟨fun _ _ => trivial⟩ | exact ⟨fun _ _ => rfl⟩
  refine ⟨{ t with author := pubO s }, ⟨AE.refl _, trivial⟩, ⟨⟨hwf, he.2⟩⟩, ?_⟩
  intro w hw
  replace hw : w = encB { t with author := pubO s } := hw
  have hw2 : w.2 = 0 := by rw [hw, hbod]
  rw [← hw] at hbl
  conv => whnf
  rw [hw2]
  conv => whnf
  repeat' (first | (refine And.intro (fun hp => ?_) (fun hp => ?_) <;> first | (exfalso; revert hp; simp; done) | conv => whnf) | (refine And.intro ?_ ?_ <;> conv => whnf))
  all_goals try first | exact ⟨rfl⟩ | exact ⟨⟨rfl, rfl⟩⟩ | exact ⟨⟨rfl, rfl, rfl⟩⟩ | exact ⟨fun _ _ => rfl⟩ | exact ⟨fun _ _ => trivial⟩ | exact ⟨fun k _ => isU8_bf _ k⟩ | exact ⟨by omega⟩ | exact ⟨⟨by omega, by omega⟩⟩ | exact ⟨⟨by omega, by omega, by omega⟩⟩ | exact ⟨fun _ _ => trivial⟩ | exact ⟨fun _ _ => rfl⟩
  refine ⟨(s, .of false w.1), ⟨AE.refl _, AE.refl _, AE.refl _, trivial⟩, ⟨hs, trivial, by show w.1.length ≤ 100000; omega⟩, ?_⟩
  intro g hg
  replace hg : g = sigO (pubO s) w.1 := hg
  conv => whnf
  repeat' (first | (refine And.intro (fun _ => ?_) (fun _ => ?_) <;> conv => whnf) | (refine And.intro ?_ ?_ <;> conv => whnf))
  all_goals try first | exact ⟨rfl⟩ | exact ⟨⟨rfl, rfl⟩⟩ | exact ⟨⟨rfl, rfl, rfl⟩⟩ | exact ⟨fun _ _ => rfl⟩ | exact ⟨fun _ _ => trivial⟩ | exact ⟨fun k _ => isU8_bf _ k⟩ | exact ⟨by omega⟩ | exact ⟨⟨by omega, by omega⟩⟩ | exact ⟨⟨by omega, by omega, by omega⟩⟩ | exact ⟨fun _ _ => trivial⟩ | exact ⟨fun _ _ => rfl⟩
  rw [hg, hw]
  exact Ld.refl _
end Go.Proofs.YtaihjcpfjgpmoaaGreatDoor

/- A feed with an entry more; feeds' twins. -/
namespace Go.Proofs.YtaihjcpfjgpmoaaGreatDoor
set_option linter.unusedVariables false
set_option linter.unusedSimpArgs false
set_option maxRecDepth 100000
open Go Go.DD
def pushF (f : Fd) (e : Ent) : Fd := { f with n := f.n + 1, es := fun k => if k < f.n then f.es k else e }
structure PsA where
  f : Fd
  e : Ent
structure PsOk (x : PsA) : Prop where
  pf : preF x.f
  ok : okFd x.f
  look : (lookF x.f).2 = true
  pe : preE x.e
  ent : entOk x.e = true
  auth : x.e.author = x.f.author
  opn : x.f.shut = false
  seq : x.e.seq = (x.f.n : Nat) + 1
  prev : x.e.prev = (lookF x.f).1
def F127c : FSpec := mkG (fun (e : Ent) => [entV e]) (fun _ => True) entOk (fun b => .int .i64 (if b then 0 else 1))
theorem f127c_ok : FOk Tryz.prog G 63 F127c := mkG_of f127_ok
def Fpush : FSpec := mkG (fun (x : PsA) => [fdV x.f, entV x.e]) PsOk (fun x => pushF x.f x.e) (fun r => .tup (.cons (fdV r) (.cons (.int .i64 0) .nil)))
set_option maxHeartbeats 4000000 in
theorem fpush_ok : FOk Tryz.prog G 29 Fpush := mkG_ok fun ⟨f, e⟩ h => by
  obtain ⟨hpf, hok, hlook, hpe, hent, hau, hsh, hseq, hprev⟩ := h
  simp only at hpf hok hlook hpe hent hau hsh hseq hprev
  have hl := lastF_ok hlook
  have hra := rowEq_bf hpe.1.1 hpf.1
  have hrp := rowEq_bf hpe.1.2.1 (lookF_length f)
  have hΓ := ctxG_ok Tryz.f29.ntmps [(64, F33c), (63, F127c), (66, FNo), (68, FtwE)] [(67, HtwF)] [(19, .one 0 (.one 2 (.one 3 (.many (.cons 1 (.one 4 (.one 5 (.one 6 (.one 7 (.done))))) (.cons 4 (.one 1 (.one 5 (.one 6 (.one 7 (.done))))) (.nil)))))))] (.cons (f33c_ok) (.cons (f127c_ok) (.cons (fno_ok) (.cons (ftwE_ok.g) .nil)))) (.cons (htwF_ok) .nil)
  refine CP_of_OK hΓ Tryz.func29 (c := bodyOf Tryz.f29) rfl (by decide) rfl rfl (by simp) (vc_ok hΓ mixed 1000 _ [] _ (by kernel_rfl) rfl ?_)
  conv => whnf
  conv => whnf
  repeat' (refine And.intro ?_ ?_ <;> conv => whnf)
  all_goals try first | exact ⟨rfl⟩ | exact ⟨⟨rfl, rfl⟩⟩ | exact ⟨⟨rfl, rfl, rfl⟩⟩ | exact ⟨fun _ _ => rfl⟩ | exact ⟨fun _ _ => trivial⟩ | exact ⟨fun k _ => isU8_bf _ k⟩ | exact ⟨by omega⟩ | exact ⟨⟨by omega, by omega⟩⟩ | exact ⟨⟨by omega, by omega, by omega⟩⟩ | exact ⟨fun _ _ => trivial⟩ | exact ⟨fun _ _ => rfl⟩
  refine ⟨f, ⟨AE.refl _, trivial⟩, ⟨hpf⟩, ?_⟩
  intro r hr
  replace hr : r = (((f.n : Nat) : Int), (lookF f).1, (0 : Int)) := hr.trans hl
  subst hr
  conv => whnf
  repeat' (first | (refine And.intro (fun hp => ?_) (fun hp => ?_) <;> first | (exfalso; revert hp; simp; done) | conv => whnf) | (refine And.intro ?_ ?_ <;> conv => whnf))
  all_goals try first | exact ⟨rfl⟩ | exact ⟨⟨rfl, rfl⟩⟩ | exact ⟨⟨rfl, rfl, rfl⟩⟩ | exact ⟨fun _ _ => rfl⟩ | exact ⟨fun _ _ => trivial⟩ | exact ⟨fun k _ => isU8_bf _ k⟩ | exact ⟨by omega⟩ | exact ⟨⟨by omega, by omega⟩⟩ | exact ⟨⟨by omega, by omega, by omega⟩⟩ | exact ⟨fun _ _ => trivial⟩ | exact ⟨fun _ _ => rfl⟩
  refine ⟨e, ⟨AE.refl _, trivial⟩, ⟨trivial⟩, ?_⟩
  intro r hr
  replace hr : r = true := hr.trans hent
  subst hr
  have hn2 := (look_ents hlook).1
  have f1 : rowEq 32 (bf e.author) (bf f.author) = true := hra.trans (decide_eq_true hau)
  have f2 : rowEq 32 (bf e.prev) (bf (lookF f).1) = true := hrp.trans (decide_eq_true hprev)
  have f3 : IntKind.i64.wrap (((f.n : Nat) : Int) + 1) = ((f.n : Nat) : Int) + 1 := wrap_id (by omega) (by omega)
  have f4 : ¬ ((f.n : Nat) : Int) + 1 ≤ ((f.n : Nat) : Int) := by omega
  conv => whnf
  repeat' (first | (refine And.intro (fun hp => ?_) (fun hp => ?_) <;> first | (exfalso; revert hp; simp [f1, f2, f3, f4, hsh, hseq]; done) | conv => whnf) | (refine And.intro ?_ ?_ <;> conv => whnf))
  all_goals try first | exact ⟨rfl⟩ | exact ⟨⟨rfl, rfl⟩⟩ | exact ⟨⟨rfl, rfl, rfl⟩⟩ | exact ⟨fun _ _ => rfl⟩ | exact ⟨fun _ _ => trivial⟩ | exact ⟨fun k _ => isU8_bf _ k⟩ | exact ⟨by omega⟩ | exact ⟨⟨by omega, by omega⟩⟩ | exact ⟨⟨by omega, by omega, by omega⟩⟩ | exact ⟨fun _ _ => trivial⟩ | exact ⟨fun _ _ => rfl⟩
  have hev := (entOk_len hent).2.1
  refine ⟨f, [], ?_⟩
  conv => whnf
  repeat' (refine And.intro ?_ ?_ <;> conv => whnf)
  all_goals try first | exact ⟨rfl⟩ | exact ⟨⟨rfl, rfl⟩⟩ | exact ⟨⟨rfl, rfl, rfl⟩⟩ | exact ⟨by omega⟩ | exact ⟨⟨by omega, by omega⟩⟩ | exact ⟨⟨by omega, by omega, by omega⟩⟩ | exact ⟨fun k _ => leV_refl _ trivial⟩ | exact ⟨fun _ _ => rfl⟩ | exact ⟨hok⟩ | exact ⟨fun _ _ => trivial⟩
  refine ⟨e, ⟨AE.refl _, trivial⟩, ⟨by show e.val.length ≤ 1000000; omega⟩, ?_⟩
  intro t ht
  replace ht : t = e := ht
  subst ht
  conv => whnf
  repeat' (refine And.intro ?_ ?_ <;> conv => whnf)
  all_goals try first | exact ⟨rfl⟩ | exact ⟨⟨rfl, rfl⟩⟩ | exact ⟨⟨rfl, rfl, rfl⟩⟩ | exact ⟨by omega⟩ | exact ⟨⟨by omega, by omega⟩⟩ | exact ⟨⟨by omega, by omega, by omega⟩⟩ | exact ⟨fun k _ => leV_refl _ trivial⟩ | exact ⟨fun _ _ => rfl⟩ | exact ⟨fun _ _ => trivial⟩
  all_goals try exact trivial
  all_goals
    refine Or.inl ?_
    conv => whnf
    repeat' (refine And.intro ?_ ?_ <;> conv => whnf)
  all_goals try first | exact ⟨rfl⟩ | exact ⟨⟨rfl, rfl⟩⟩ | exact ⟨⟨rfl, rfl, rfl⟩⟩ | exact ⟨by omega⟩ | exact ⟨⟨by omega, by omega⟩⟩ | exact ⟨⟨by omega, by omega, by omega⟩⟩ | exact ⟨⟨by show (_ + 1) * 192 ≤ _; omega, by omega⟩⟩ | exact ⟨fun _ _ => own_bf _ _⟩
  · refine ⟨fun k hk => ?_⟩
    refine cast (congrArg own (Eq.symm (b := entV ((pushF f t).es k)) ?_)) (own_entV _)
    replace hk : k < f.n + 1 := hk
    rcases Nat.lt_or_ge k f.n with hk2 | hk2
    · exact (if_pos (show 0 + k < f.n by omega)).trans (congrArg entV (show f.es (0 + k) = (pushF f t).es k by rw [Nat.zero_add]; exact (if_pos hk2).symm))
    · obtain rfl : k = f.n := by omega
      refine (if_neg (show ¬ 0 + f.n < f.n by omega)).trans ?_
      first
        | (refine (congrArg _ (show 0 + f.n - f.n = 0 by omega)).trans ?_
           exact Eq.trans (b := entV t) rfl (congrArg entV (show t = (pushF f t).es f.n from (if_neg (Nat.lt_irrefl _)).symm)))
        | (refine (congrArg _ (show 0 + (0 + f.n - f.n) = 0 by omega)).trans ?_
           exact Eq.trans (b := entV t) rfl (congrArg entV (show t = (pushF f t).es f.n from (if_neg (Nat.lt_irrefl _)).symm)))
  · refine Ld.two (Ld.st (.cons (LdR.refl _) (.cons (LdR.imm rfl fun k hk => ?_) (.cons (LdR.refl _) (.cons (LdR.refl _) .nil))))) (by simp) rfl (by simp [fdV]) rfl
    replace hk : k < f.n + 1 := hk
    rcases Nat.lt_or_ge k f.n with hk2 | hk2
    · exact (if_pos (show 0 + k < f.n by omega)).trans (congrArg entV (show f.es (0 + k) = (pushF f t).es k by rw [Nat.zero_add]; exact (if_pos hk2).symm))
    · obtain rfl : k = f.n := by omega
      refine (if_neg (show ¬ 0 + f.n < f.n by omega)).trans ?_
      first
        | (refine (congrArg _ (show 0 + f.n - f.n = 0 by omega)).trans ?_
           exact Eq.trans (b := entV t) rfl (congrArg entV (show t = (pushF f t).es f.n from (if_neg (Nat.lt_irrefl _)).symm)))
        | (refine (congrArg _ (show 0 + (0 + f.n - f.n) = 0 by omega)).trans ?_
           exact Eq.trans (b := entV t) rfl (congrArg entV (show t = (pushF f t).es f.n from (if_neg (Nat.lt_irrefl _)).symm)))
  · refine ⟨fun k hk => ?_⟩
    refine cast (congrArg own (Eq.symm (b := entV ((pushF f t).es k)) ?_)) (own_entV _)
    replace hk : k < f.n + 1 := hk
    rcases Nat.lt_or_ge k f.n with hk2 | hk2
    · exact (if_pos (show 0 + k < f.n by omega)).trans (congrArg entV (show f.es (0 + k) = (pushF f t).es k by rw [Nat.zero_add]; exact (if_pos hk2).symm))
    · obtain rfl : k = f.n := by omega
      refine (if_neg (show ¬ 0 + f.n < f.n by omega)).trans ?_
      first
        | (refine (congrArg _ (show 0 + f.n - f.n = 0 by omega)).trans ?_
           exact Eq.trans (b := entV t) rfl (congrArg entV (show t = (pushF f t).es f.n from (if_neg (Nat.lt_irrefl _)).symm)))
        | (refine (congrArg _ (show 0 + (0 + f.n - f.n) = 0 by omega)).trans ?_
           exact Eq.trans (b := entV t) rfl (congrArg entV (show t = (pushF f t).es f.n from (if_neg (Nat.lt_irrefl _)).symm)))
  · refine Ld.two (Ld.st (.cons (LdR.refl _) (.cons (LdR.imm rfl fun k hk => ?_) (.cons (LdR.refl _) (.cons (LdR.refl _) .nil))))) (by simp) rfl (by simp [fdV]) rfl
    replace hk : k < f.n + 1 := hk
    rcases Nat.lt_or_ge k f.n with hk2 | hk2
    · exact (if_pos (show 0 + k < f.n by omega)).trans (congrArg entV (show f.es (0 + k) = (pushF f t).es k by rw [Nat.zero_add]; exact (if_pos hk2).symm))
    · obtain rfl : k = f.n := by omega
      refine (if_neg (show ¬ 0 + f.n < f.n by omega)).trans ?_
      first
        | (refine (congrArg _ (show 0 + f.n - f.n = 0 by omega)).trans ?_
           exact Eq.trans (b := entV t) rfl (congrArg entV (show t = (pushF f t).es f.n from (if_neg (Nat.lt_irrefl _)).symm)))
        | (refine (congrArg _ (show 0 + (0 + f.n - f.n) = 0 by omega)).trans ?_
           exact Eq.trans (b := entV t) rfl (congrArg entV (show t = (pushF f t).es f.n from (if_neg (Nat.lt_irrefl _)).symm)))
theorem noref_fdV (f : Fd) : noref (fdV f) := by simp [fdV, pfV, entV, opV, byV, arrV, noref, norefs, bf]
theorem c69_ok : CtxOk Tryz.prog (ctx Tryz.f69.ntmps [] []) := ctxOk Tryz.f69.ntmps [] [] (FL.all .nil) (HL.all .nil)
def S69 : SpecH := fun xs h κ => xs.length = 1 ∧ inlineS Tryz.prog (ctx Tryz.f69.ntmps [] []) (bodyOf Tryz.f69) Tryz.f69.results.toList xs h κ
theorem s69_ok : SpecHOk Tryz.prog [] 69 S69 := inline_ok (c := bodyOf Tryz.f69) (np := 1) c69_ok Tryz.func69 rfl (by decide) rfl (by decide)
theorem c30_ok : CtxOk Tryz.prog (ctx Tryz.f30.ntmps [(67, FtwF)] [(69, S69)]) := ctxOk Tryz.f30.ntmps [(67, FtwF)] [(69, S69)] (FL.all (.cons ftwF_ok .nil)) (HL.all (.cons s69_ok .nil))
def S30 : SpecH := fun xs h κ => xs.length = 1 ∧ inlineS Tryz.prog (ctx Tryz.f30.ntmps [(67, FtwF)] [(69, S69)]) (bodyOf Tryz.f30) Tryz.f30.results.toList xs h κ
theorem s30_ok : SpecHOk Tryz.prog [] 30 S30 := inline_ok (c := bodyOf Tryz.f30) (np := 1) c30_ok Tryz.func30 rfl (by decide) rfl (by decide)
def HtwS : SpecH := mkHS (fun (a : Fds) => [fdsV a.b a.n a.l]) (fun _ => []) (fun a => 1 ≤ a.n ∧ a.n ≤ 10000 ∧ ∀ k, k < a.n → okFd (a.l k)) (fun a => .sl 0 [] 300 0 a.n a.n) (fun a => [some (.row 300 a.n fun k => fdV (a.l k))])
theorem htwS_ok : SpecHOk Tryz.prog [] 30 HtwS := mkHS_ok s30_ok (fun ⟨b, n, l⟩ κ ⟨hn1, hn, hv⟩ h => by
  replace hn1 : 1 ≤ n := hn1
  replace hn : n ≤ 10000 := hn
  replace hv : ∀ k, k < n → okFd (l k) := hv
  refine ⟨rfl, ?_⟩
  refine vc_ok (CtxOk.inner c30_ok _) mixed 1000 _ [] _ (by kernel_rfl) rfl ?_
  conv => whnf
  refine ⟨rfl, ?_⟩
  refine vc_ok (CtxOk.inner c69_ok _) mixed 1000 _ [] _ (by kernel_rfl) rfl ?_
  conv => whnf
  intro q hq
  replace hq : q = true → n = 0 := hq
  conv => whnf
  repeat' (first | (refine And.intro (fun _ => ?_) (fun _ => ?_) <;> conv => whnf) | (refine And.intro ?_ ?_ <;> conv => whnf))
  · rename_i g
    exact absurd (hq g) (by omega)
  refine Or.inl ?_
  conv => whnf
  repeat' (first | (refine And.intro (fun _ => ?_) (fun _ => ?_) <;> conv => whnf) | (refine And.intro ?_ ?_ <;> conv => whnf))
  all_goals try first | exact ⟨rfl⟩ | exact ⟨⟨rfl, rfl⟩⟩ | exact ⟨⟨rfl, rfl, rfl⟩⟩ | exact ⟨fun _ _ => rfl⟩ | exact ⟨fun _ _ => trivial⟩ | exact ⟨fun k _ => isU8_bf _ k⟩ | exact ⟨by omega⟩ | exact ⟨⟨by omega, by omega⟩⟩ | exact ⟨⟨by omega, by omega, by omega⟩⟩ | exact ⟨⟨by show (0 + n) * 448 ≤ _; omega, by omega⟩⟩
  refine OK_loopC (ι := Nat) (fun i => [(3, .sl 0 [] 300 0 n n), (8, .int .i64 (n : Nat)), (9, .int .i64 (i : Nat))]) (fun i => [some (.row 300 n fun k => fdV (l k))]) (fun i => i ≤ n) (fun i => n - i) 0 [some 1] ?_ (fun i hi => vc_ok (CtxOk.inner c30_ok _) mixed 1000 _ [] _ (by kernel_rfl) rfl ?_)
  · have e0 : 0 + n = n := Nat.zero_add n
    conv => whnf
    repeat' (first | (refine And.intro (fun _ => ?_) (fun _ => ?_) <;> conv => whnf) | (refine And.intro ?_ ?_ <;> conv => whnf))
    all_goals try first | exact ⟨rfl⟩ | exact ⟨⟨rfl, rfl⟩⟩ | exact ⟨⟨rfl, rfl, rfl⟩⟩ | exact ⟨fun _ _ => rfl⟩ | exact ⟨fun _ _ => trivial⟩ | exact ⟨fun k _ => isU8_bf _ k⟩ | exact ⟨by omega⟩ | exact ⟨⟨by omega, by omega⟩⟩ | exact ⟨⟨by omega, by omega, by omega⟩⟩
    · exact ⟨congrArg (fun m : Nat => (m : Int)) e0⟩
    · refine ⟨fun k hk => leV_eq ((if_neg (Nat.not_lt_zero k)).trans ?_) (pln_fdV _)⟩
      first | exact congrArg (fun j => fdV (l j)) (show k - 0 = k by omega) | exact congrArg (fun j => fdV (l j)) (show 0 + (k - 0) = k by omega)
  · conv => whnf
    refine And.intro (fun h3 => ?_) (fun h3 => ?_) <;> conv => whnf
    · have hin : i < n := by
        have : ((i : Nat) : Int) < (n : Nat) := by simpa using h3
        omega
      conv => whnf
      repeat' (first | (refine And.intro (fun _ => ?_) (fun _ => ?_) <;> conv => whnf) | (refine And.intro ?_ ?_ <;> conv => whnf))
      all_goals (try simp only [decide_eq_true_eq, decide_eq_false_iff_not, Int.toNat_natCast, Bool.not_eq_true, Bool.not_eq_false] at *)
      all_goals try first | exact ⟨rfl⟩ | exact ⟨⟨rfl, rfl⟩⟩ | exact ⟨⟨rfl, rfl, rfl⟩⟩ | exact ⟨fun _ _ => rfl⟩ | exact ⟨fun _ _ => trivial⟩ | exact ⟨fun k _ => isU8_bf _ k⟩ | exact ⟨by omega⟩ | exact ⟨⟨by omega, by omega⟩⟩ | exact ⟨⟨by omega, by omega, by omega⟩⟩
      refine ⟨l (0 + i), ⟨AE.refl _, trivial⟩, ⟨by rw [Nat.zero_add]; exact hv i hin⟩, ?_⟩
      intro r hr
      replace hr : r = l (0 + i) := hr
      subst hr
      conv => whnf
      repeat' (first | (refine And.intro (fun _ => ?_) (fun _ => ?_) <;> conv => whnf) | (refine And.intro ?_ ?_ <;> conv => whnf))
      all_goals try first | exact ⟨rfl⟩ | exact ⟨⟨rfl, rfl⟩⟩ | exact ⟨⟨rfl, rfl, rfl⟩⟩ | exact ⟨fun _ _ => rfl⟩ | exact ⟨fun _ _ => trivial⟩ | exact ⟨fun k _ => isU8_bf _ k⟩ | exact ⟨by omega⟩ | exact ⟨⟨by omega, by omega⟩⟩ | exact ⟨⟨by omega, by omega, by omega⟩⟩
      refine ⟨i + 1, [some 0], ?_⟩
      conv => whnf
      repeat' (refine And.intro ?_ ?_ <;> conv => whnf)
      all_goals try first | exact ⟨rfl⟩ | exact ⟨⟨rfl, rfl⟩⟩ | exact ⟨⟨rfl, rfl, rfl⟩⟩ | exact ⟨fun _ _ => rfl⟩ | exact ⟨fun _ _ => trivial⟩ | exact ⟨fun k _ => isU8_bf _ k⟩ | exact ⟨by omega⟩ | exact ⟨⟨by omega, by omega⟩⟩ | exact ⟨⟨by omega, by omega, by omega⟩⟩
      · exact ⟨by rw [wrap_id (by omega) (by omega)]; rfl⟩
      refine ⟨fun k hk => leV_eq ?_ (pln_fdV _)⟩
      by_cases hk2 : k = i
      · subst hk2
        refine (if_pos (show k = 0 + Int.toNat (k : Int) by omega)).trans ?_
        exact congrArg (fun j => fdV (l j)) (Nat.zero_add _)
      · exact if_neg (show ¬ k = 0 + Int.toNat (i : Int) by omega)
    · have hin : i = n := by
        have : ¬ ((i : Nat) : Int) < (n : Nat) := by simpa using h3
        omega
      refine vc_ok (CtxOk.inner c30_ok _) mixed 1000 _ [] _ (by kernel_rfl) rfl ?_
      conv => whnf
      refine ⟨[some 0], .sl 0 [] 300 0 n n, [some (.row 300 n fun k => fdV (l k))], ?_⟩
      conv => whnf
      repeat' (refine And.intro ?_ ?_ <;> conv => whnf)
      all_goals try first | exact ⟨rfl⟩ | exact ⟨⟨rfl, rfl⟩⟩ | exact ⟨⟨rfl, rfl, rfl⟩⟩ | exact ⟨by omega⟩ | exact ⟨⟨by omega, by omega⟩⟩ | exact ⟨⟨by omega, by omega, by omega⟩⟩ | exact ⟨fun k _ => leV_refl _ (pln_fdV _)⟩
      exact h) (fun _ => by simp) (fun _ => by simp [rok]) (fun x u hu => by
    simp at hu
    subst hu
    simp only [rok]
    intro k _
    exact noref_fdV _)
end Go.Proofs.YtaihjcpfjgpmoaaGreatDoor

/- The next entry; a put. -/
namespace Go.Proofs.YtaihjcpfjgpmoaaGreatDoor
set_option linter.unusedVariables false
set_option linter.unusedSimpArgs false
set_option maxRecDepth 100000
open Go Go.DD
theorem AE_st {l l' : Vs} (h : LdRs l l') : AE (.st l) (.st l') := (Ld.st h).1
def mayE (o : Ent) : Ent := { o with author := z32, seq := 1, prev := z32, stamp := 0, sig := List.replicate 64 0 }
theorem rowEq_z32 : rowEq 32 (bf z32) (bf []) = true := (rowEq_zero (by simp [z32])).trans (decide_eq_true rfl)
theorem entOk_may (o : Ent) : entOk (mayE o) = opOk o := by
  have h : opOk (mayE o) = opOk o := rfl
  simp only [entOk, h]
  simp [mayE, rowEq_z32]
def Fmay : FSpec := mkG (fun (o : Ent) => [opV o]) (fun _ => True) opOk .bool
theorem fmay_ok : FOk Tryz.prog G 27 Fmay := mkG_ok fun o _ => by
  have hΓ := ctxG_ok Tryz.f27.ntmps [(63, F127c)] [] [] (.cons (f127c_ok) .nil) .nil
  refine CP_of_OK hΓ Tryz.func27 (c := bodyOf Tryz.f27) rfl (by decide) rfl rfl (by simp) (vc_ok hΓ mixed 1000 _ [] _ (by kernel_rfl) rfl ?_)
  conv => whnf
  conv => whnf
  repeat' (refine And.intro ?_ ?_ <;> conv => whnf)
  all_goals try first | exact ⟨rfl⟩ | exact ⟨⟨rfl, rfl⟩⟩ | exact ⟨⟨rfl, rfl, rfl⟩⟩ | exact ⟨fun _ _ => rfl⟩ | exact ⟨fun _ _ => trivial⟩ | exact ⟨fun k _ => isU8_bf _ k⟩ | exact ⟨by omega⟩ | exact ⟨⟨by omega, by omega⟩⟩ | exact ⟨⟨by omega, by omega, by omega⟩⟩
  refine ⟨mayE o, ⟨AE_st (.cons (LdR.row fun k _ => (bf_rep 32 k).symm) (.cons (LdR.refl _) (.cons (LdR.row fun k _ => (bf_rep 32 k).symm) (.cons (LdR.refl _) (.cons (LdR.refl _) (.cons (LdR.row fun k _ => (bf_rep 64 k).symm) .nil)))))), trivial⟩, ⟨trivial⟩, ?_⟩
  intro r hr
  replace hr : r = opOk o := hr.trans (entOk_may o)
  conv => whnf
  repeat' (first | (refine And.intro (fun _ => ?_) (fun _ => ?_) <;> conv => whnf) | (refine And.intro ?_ ?_ <;> conv => whnf))
  refine Ld.of (congrArg V.bool ?_)
  rw [hr]
  cases opOk o <;> rfl
theorem Ld_ent0 : Ld zV (entV ent0) :=
  Ld.st (.cons (LdR.row fun k _ => (bf_rep 32 k).symm) (.cons (LdR.refl _) (.cons (LdR.row fun k _ => (bf_rep 32 k).symm) (.cons (LdR.refl _) (.cons (LdRs.st (.cons (LdR.refl _) (.cons (LdR.refl _) (.cons LdR.emp .nil)))) (.cons (LdR.row fun k _ => (bf_rep 64 k).symm) .nil))))))
structure NxA where
  s : List UInt8
  a : Fds
  k : Nat
  o : Ent
/-- What is signed next. -/
def nextE (x : NxA) : Ent := { x.o with author := z32, seq := ((x.a.l x.k).n : Nat) + 1, prev := (lookF (x.a.l x.k)).1, stamp := clockR x.a + 1, sig := List.replicate 64 0 }
def topB (x : NxA) : Bool := decide (200 ≤ (x.a.l x.k).n) || decide (clockR x.a = 9223372036854775807)
def nextR (x : NxA) : Ent × Int := if (x.a.l x.k).shut = true then (ent0, 15) else if topB x = true then (ent0, 17) else (signE x.s (nextE x), 0)
structure NxOk (x : NxA) : Prop where
  s : x.s.length = 32
  l : ∀ k, k < x.a.n → preF (x.a.l k)
  ok : feedsOk x.a.n x.a.l = true
  k : x.k < x.a.n
  o : opOk x.o = true
theorem clockE_le {es : Nat → Ent} {c : Int} : ∀ n, (∀ k, k < n → (es k).stamp ≤ 9223372036854775807) → c ≤ 9223372036854775807 → clockE es n c ≤ 9223372036854775807
  | 0, _, hc => hc
  | n + 1, h, hc => by
    have h1 := clockE_le n (fun k hk => h k (by omega)) hc
    have h2 := h n (by omega)
    simp only [clockE]; omega
theorem clockE_ge {es : Nat → Ent} {c : Int} : ∀ n, c ≤ clockE es n c
  | 0 => Int.le_refl _
  | n + 1 => by have := clockE_ge (es := es) (c := c) n; simp only [clockE]; omega
theorem clockN_rng {l : Nat → Fd} : ∀ n, (∀ k, k < n → preF (l k)) → 0 ≤ clockN l n ∧ clockN l n ≤ 9223372036854775807
  | 0, _ => by simp [clockN]
  | n + 1, h => by
    have h1 := clockN_rng (l := l) n (fun k hk => h k (by omega))
    simp only [clockN]
    split
    · exact h1
    · exact ⟨Int.le_trans h1.1 (clockE_ge _), clockE_le _ (fun k hk => ((h n (by omega)).2.1 k hk).2) h1.2⟩
theorem clockR_rng {a : Fds} (h : ∀ k, k < a.n → preF (a.l k)) : 0 ≤ clockR a ∧ clockR a ≤ 9223372036854775807 := by
  unfold clockR
  split
  · exact clockN_rng _ h
  · decide
theorem nextE_ok {x : NxA} (h : NxOk x) (ht : topB x = false) : preE (nextE x) ∧ entOk (nextE x) = true := by
  obtain ⟨hs, hl, hf, hk, ho⟩ := h
  have hc := clockR_rng hl
  simp only [topB, Bool.or_eq_false_iff, decide_eq_false_iff_not] at ht
  have hll := lookF_length (x.a.l x.k)
  refine ⟨⟨⟨by simp [nextE, z32], hll, by simp [nextE]⟩, by show clockR x.a + 1 ≤ _; omega⟩, ?_⟩
  have h1 : opOk (nextE x) = opOk x.o := rfl
  have h2 : (x.a.l x.k).n = 0 → rowEq 32 (bf (nextE x).prev) (bf []) = true := fun h0 => by
    have : (lookF (x.a.l x.k)).1 = z32 := by simp [lookF, folR, h0, folF]
    show rowEq 32 (bf (lookF (x.a.l x.k)).1) (bf []) = true
    rw [this]; exact rowEq_z32
  simp only [entOk, h1, ho, Bool.and_true, Bool.and_eq_true, decide_eq_true_eq, Bool.or_eq_true, Bool.not_eq_true', decide_eq_false_iff_not]
  have e1 : (nextE x).seq = ((x.a.l x.k).n : Nat) + 1 := rfl
  have e2 : (nextE x).stamp = clockR x.a + 1 := rfl
  refine ⟨⟨⟨by omega, by omega⟩, ?_⟩, by omega⟩
  by_cases h0 : (x.a.l x.k).n = 0
  · exact .inr (h2 h0)
  · exact .inl (by omega)
def Fnext : FSpec := mkG (fun (x : NxA) => [.int .i64 2, arrV 32 x.s, fdsV x.a.b x.a.n x.a.l, .int .i64 (x.k : Nat), opV x.o]) NxOk nextR (fun r => .tup (.cons (entV r.1) (.cons (.int .i64 r.2) .nil)))
theorem fnext_ok : FOk Tryz.prog G 28 Fnext := mkG_ok fun x h => by
  have hx := h
  obtain ⟨hs, hl, hf, hk, ho⟩ := h
  obtain ⟨n1, n8, hlook⟩ := feedsOk_look hf
  have hc := clockR_rng hl
  have hlast := lastF_ok (hlook x.k hk)
  have hΓ := ctxG_ok Tryz.f28.ntmps [(15, Fclock), (64, F33c), (65, FsignE)] [] [] (.cons (fclock_ok) (.cons (f33c_ok) (.cons (fsignE_ok) .nil))) .nil
  refine CP_of_OK hΓ Tryz.func28 (c := bodyOf Tryz.f28) rfl (by decide) rfl rfl (by simp) (vc_ok hΓ mixed 1000 _ [] _ (by kernel_rfl) rfl ?_)
  conv => whnf
  conv => whnf
  repeat' (refine And.intro ?_ ?_ <;> conv => whnf)
  all_goals try first | exact ⟨rfl⟩ | exact ⟨⟨rfl, rfl⟩⟩ | exact ⟨⟨rfl, rfl, rfl⟩⟩ | exact ⟨fun _ _ => rfl⟩ | exact ⟨fun _ _ => trivial⟩ | exact ⟨fun k _ => isU8_bf _ k⟩ | exact ⟨by omega⟩ | exact ⟨⟨by omega, by omega⟩⟩ | exact ⟨⟨by omega, by omega, by omega⟩⟩ | exact ⟨⟨by omega, by omega⟩⟩
  refine ⟨x.a, ⟨AE.refl _, trivial⟩, ⟨hl⟩, ?_⟩
  intro c hcl
  replace hcl : c = clockR x.a := hcl
  conv => whnf
  repeat' (refine And.intro ?_ ?_ <;> conv => whnf)
  all_goals try first | exact ⟨rfl⟩ | exact ⟨⟨rfl, rfl⟩⟩ | exact ⟨⟨rfl, rfl, rfl⟩⟩ | exact ⟨fun _ _ => rfl⟩ | exact ⟨fun _ _ => trivial⟩ | exact ⟨fun k _ => isU8_bf _ k⟩ | exact ⟨by omega⟩ | exact ⟨⟨by omega, by omega⟩⟩ | exact ⟨⟨by omega, by omega, by omega⟩⟩ | exact ⟨⟨by omega, by omega⟩⟩ | exact ⟨fun _ _ => trivial⟩ | exact ⟨fun _ _ => rfl⟩
  refine ⟨x.a.l x.k, ⟨AE.refl _, trivial⟩, ⟨hl x.k hk⟩, ?_⟩
  intro r hr
  replace hr : r = ((((x.a.l x.k).n : Nat) : Int), (lookF (x.a.l x.k)).1, (0 : Int)) := hr.trans hlast
  subst hr
  conv => whnf
  repeat' (first | (refine And.intro (fun hp => ?_) (fun hp => ?_) <;> first | (exfalso; revert hp; simp; done) | conv => whnf) | (refine And.intro ?_ ?_ <;> conv => whnf))
  all_goals try first | exact ⟨rfl⟩ | exact ⟨⟨rfl, rfl⟩⟩ | exact ⟨⟨rfl, rfl, rfl⟩⟩ | exact ⟨fun _ _ => rfl⟩ | exact ⟨fun _ _ => trivial⟩ | exact ⟨fun k _ => isU8_bf _ k⟩ | exact ⟨by omega⟩ | exact ⟨⟨by omega, by omega⟩⟩ | exact ⟨⟨by omega, by omega, by omega⟩⟩ | exact ⟨⟨by omega, by omega⟩⟩ | exact ⟨fun _ _ => trivial⟩ | exact ⟨fun _ _ => rfl⟩
  all_goals (try simp only [Int.toNat_natCast, decide_eq_true_eq, decide_eq_false_iff_not, beq_iff_eq, beq_eq_false_iff_ne, ne_eq] at *)
  · rw [show nextR x = (ent0, 15) from if_pos hp]
    exact Ld.two Ld_ent0 (by simp [zV]) rfl (by simp [entV]) rfl
  · rename_i g1 g2
    rw [show nextR x = (ent0, 17) from (if_neg (by simp [g2])).trans (if_pos (by simp only [topB, Bool.or_eq_true, decide_eq_true_eq]; exact .inl (by omega)))]
    exact Ld.two Ld_ent0 (by simp [zV]) rfl (by simp [entV]) rfl
  · rename_i g1 g2 g3
    rw [show nextR x = (ent0, 17) from (if_neg (by simp [g2])).trans (if_pos (by simp only [topB, Bool.or_eq_true, decide_eq_true_eq]; exact .inr (by omega)))]
    exact Ld.two Ld_ent0 (by simp [zV]) rfl (by simp [entV]) rfl
  · rename_i g1 g2 g3
    have ht : topB x = false := by simp only [topB, Bool.or_eq_false_iff, decide_eq_false_iff_not]; exact ⟨by omega, by omega⟩
    have hok := nextE_ok hx ht
    have w1 : IntKind.i64.wrap (((x.a.l x.k).n : Nat) + 1) = ((x.a.l x.k).n : Nat) + 1 := wrap_id (by omega) (by omega)
    have w2 : IntKind.i64.wrap (c + 1) = clockR x.a + 1 := by rw [hcl]; exact wrap_id (by omega) (by omega)
    refine ⟨⟨x.s, nextE x⟩, ⟨AE.refl _, AE.refl _, AE_st (.cons (LdR.row fun k _ => (bf_rep 32 k).symm) (.cons (LdR.of (congrArg (V.int .i64) w1)) (.cons (LdR.refl _) (.cons (LdR.of (congrArg (V.int .i64) w2)) (.cons (LdR.refl _) (.cons (LdR.row fun k _ => (bf_rep 64 k).symm) .nil)))))), trivial⟩, ⟨hs, hok.1, hok.2⟩, ?_⟩
    intro q hq
    replace hq : q = signE x.s (nextE x) := hq
    conv => whnf
    repeat' (first | (refine And.intro (fun _ => ?_) (fun _ => ?_) <;> conv => whnf) | (refine And.intro ?_ ?_ <;> conv => whnf))
    all_goals try first | exact ⟨rfl⟩ | exact ⟨⟨rfl, rfl⟩⟩ | exact ⟨⟨rfl, rfl, rfl⟩⟩ | exact ⟨fun _ _ => rfl⟩ | exact ⟨fun _ _ => trivial⟩ | exact ⟨fun k _ => isU8_bf _ k⟩ | exact ⟨by omega⟩ | exact ⟨⟨by omega, by omega⟩⟩ | exact ⟨⟨by omega, by omega, by omega⟩⟩ | exact ⟨fun _ _ => trivial⟩ | exact ⟨fun _ _ => rfl⟩
    rw [show nextR x = (signE x.s (nextE x), 0) from (if_neg (by simp [g2])).trans (if_neg (by simp [ht])), ← hq]
    exact Ld.refl _
structure PtA where
  s : List UInt8
  a : Fds
  o : Ent
def PtA.nx (x : PtA) : NxA := ⟨x.s, x.a, (findR x.a.l x.a.n (pubO x.s)).toNat, x.o⟩
def PtA.gt (x : PtA) : GtA := ⟨false, (viewL x.a.n x.a.l).length, gce (viewL x.a.n x.a.l), x.o.key⟩
def putR (x : PtA) : Nat × (Nat → Fd) × Int :=
  if feedsOk x.a.n x.a.l = false then (0, x.a.l, 1)
  else if findR x.a.l x.a.n (pubO x.s) < 0 then (0, x.a.l, 16)
  else if opOk x.o = false then (0, x.a.l, 1)
  else if x.o.kind = 2 ∧ (getR x.gt).2 ≠ 0 then (0, x.a.l, (getR x.gt).2)
  else if (nextR x.nx).2 ≠ 0 then (0, x.a.l, (nextR x.nx).2)
  else (x.a.n, fun j => if j = x.nx.k then pushF (x.a.l x.nx.k) (nextR x.nx).1 else x.a.l j, 0)
theorem findN_lt {l : Nat → Fd} {author : List UInt8} : ∀ n i, findN l author n i < 0 ∨ ((i : Nat) ≤ findN l author n i ∧ findN l author n i < (i + n : Nat) ∧ (l (findN l author n i).toNat).author = author)
  | 0, i => .inl (by simp [findN])
  | n + 1, i => by
    unfold findN
    split
    · rename_i h
      exact .inr ⟨by omega, by omega, by simpa using h⟩
    · rcases findN_lt (l := l) (author := author) n (i + 1) with h | ⟨h1, h2, h3⟩
      · exact .inl h
      · exact .inr ⟨by omega, by omega, h3⟩
def Fput : FSpec := mkG (fun (x : PtA) => [.int .i64 2, arrV 32 x.s, fdsV x.a.b x.a.n x.a.l, opV x.o]) (fun x => x.s.length = 32 ∧ ∀ k, k < x.a.n → preF (x.a.l k)) putR (fun r => .tup (.cons (fdsV false r.1 r.2.1) (.cons (.int .i64 r.2.2) .nil)))
theorem okFd_look {f : Fd} (hp : preF f) (h : (lookF f).2 = true) : okFd f := by
  have h1 := look_ents h
  refine ⟨by omega, fun k hk => ?_, ?_⟩
  · have := entOk_len (h1.2 k hk)
    show (f.es k).val.length ≤ 1000000
    omega
  simp only [lookF, Bool.and_eq_true] at h
  have h2 := h.2
  by_cases hs : f.shut = true
  · rw [if_pos hs] at h2
    simp only [Bool.and_eq_true, decide_eq_true_eq] at h2
    have h3 := h2.1
    unfold ordP at h3
    split at h3
    · omega
    · rename_i h4
      simp only [not_or, ne_eq, Decidable.not_not] at h4
      have e1 := entOk_len ((encE_ok hp.2.2.1.1).1 h4.1)
      have e2 := entOk_len ((encE_ok hp.2.2.2.1).1 h4.2.1)
      exact ⟨by show f.pf.a.val.length ≤ 1000000; omega, by show f.pf.b.val.length ≤ 1000000; omega⟩
  · rw [if_neg hs] at h2
    simp only [Bool.and_eq_true, noneE, decide_eq_true_eq] at h2
    exact ⟨by show f.pf.a.val.length ≤ 1000000; omega, by show f.pf.b.val.length ≤ 1000000; omega⟩
theorem sigO_len (p t : List UInt8) : (sigO p t).length = 64 := by
  rw [sigO, List.length_append, sha_length, sha_length]
theorem nextR_ok {x : NxA} (h0 : (nextR x).2 = 0) : nextR x = (signE x.s (nextE x), 0) ∧ (x.a.l x.k).shut = false ∧ topB x = false := by
  unfold nextR at *
  split at h0
  · cases h0
  · split at h0
    · cases h0
    · rename_i h1 h2
      rw [if_neg h1, if_neg h2]
      exact ⟨rfl, by simpa using h1, by simpa using h2⟩
theorem sign_ps {x : NxA} (h : NxOk x) (h0 : (nextR x).2 = 0) (ha : (x.a.l x.k).author = pubO x.s) : PsOk ⟨x.a.l x.k, (nextR x).1⟩ := by
  obtain ⟨h1, h2, h3⟩ := nextR_ok h0
  obtain ⟨h4, h5⟩ := nextE_ok h h3
  obtain ⟨n1, n8, hlook⟩ := feedsOk_look h.ok
  have hk := h.k
  rw [h1]
  exact ⟨h.l _ hk, okFd_look (h.l _ hk) (hlook _ hk), hlook _ hk, ⟨⟨pubO_len _, h4.1.2.1, sigO_len _ _⟩, h4.2⟩, h5, ha.symm, h2, rfl, rfl⟩
set_option maxHeartbeats 4000000 in
theorem fput_ok : FOk Tryz.prog G 9 Fput := mkG_ok fun x ⟨hs, hl⟩ => by
  obtain ⟨R, hR⟩ : ∃ R, R = putR x := ⟨_, rfl⟩
  rw [← hR]
  have hΓ := ctxG_ok Tryz.f9.ntmps [(24, Fpub), (25, F29c), (26, Ffind), (27, Fmay), (14, F25c), (16, Fget), (28, Fnext), (29, Fpush)] [(30, HtwS)] [] (.cons (fpub_ok.g) (.cons (f29c_ok) (.cons (ffind_ok.g) (.cons (fmay_ok) (.cons (f25c_ok) (.cons (fget_ok.g) (.cons (fnext_ok) (.cons (fpush_ok) .nil)))))))) (.cons (hg htwS_ok) .nil)
  refine CP_of_OK hΓ Tryz.func9 (c := bodyOf Tryz.f9) rfl (by decide) rfl rfl (by simp) (vc_ok hΓ mixed 1000 _ [] _ (by kernel_rfl) rfl ?_)
  conv => whnf
  conv => whnf
  repeat' (refine And.intro ?_ ?_ <;> conv => whnf)
  all_goals try first | exact ⟨rfl⟩ | exact ⟨⟨rfl, rfl⟩⟩ | exact ⟨⟨rfl, rfl, rfl⟩⟩ | exact ⟨fun _ _ => rfl⟩ | exact ⟨fun _ _ => trivial⟩ | exact ⟨fun k _ => isU8_bf _ k⟩ | exact ⟨by omega⟩ | exact ⟨⟨by omega, by omega⟩⟩ | exact ⟨⟨by omega, by omega, by omega⟩⟩ | exact ⟨⟨by omega, by omega⟩⟩ | exact ⟨fun _ _ => trivial⟩ | exact ⟨fun _ _ => rfl⟩
  refine ⟨x.s, ⟨AE.refl _, AE.refl _, trivial⟩, ⟨hs⟩, ?_⟩
  intro p hp
  replace hp : p = pubO x.s := hp
  subst hp
  conv => whnf
  repeat' (first | (refine And.intro (fun hp => ?_) (fun hp => ?_) <;> first | (exfalso; revert hp; simp; done) | conv => whnf) | (refine And.intro ?_ ?_ <;> conv => whnf))
  all_goals try first | exact ⟨rfl⟩ | exact ⟨⟨rfl, rfl⟩⟩ | exact ⟨⟨rfl, rfl, rfl⟩⟩ | exact ⟨fun _ _ => rfl⟩ | exact ⟨fun _ _ => trivial⟩ | exact ⟨fun k _ => isU8_bf _ k⟩ | exact ⟨by omega⟩ | exact ⟨⟨by omega, by omega⟩⟩ | exact ⟨⟨by omega, by omega, by omega⟩⟩ | exact ⟨fun _ _ => trivial⟩ | exact ⟨fun _ _ => rfl⟩
  refine ⟨x.a, ⟨AE.refl _, trivial⟩, ⟨hl⟩, ?_⟩
  intro r hr
  replace hr : r = feedsOk x.a.n x.a.l := hr
  conv => whnf
  refine And.intro (fun h1 => ?_) (fun h1 => ?_) <;> conv => whnf
  · have hr2 : r = false := by cases r <;> simp_all
    rw [hR, show putR x = (0, x.a.l, 1) from if_pos (hr.symm.trans hr2)]
    exact Ld.two Ld.emp (by simp) rfl (by simp [fdsV]) rfl
  have hf : feedsOk x.a.n x.a.l = true := by rw [← hr]; cases r <;> simp_all
  have e1 : putR x = if findR x.a.l x.a.n (pubO x.s) < 0 then (0, x.a.l, 16)
      else if opOk x.o = false then (0, x.a.l, 1)
      else if x.o.kind = 2 ∧ (getR x.gt).2 ≠ 0 then (0, x.a.l, (getR x.gt).2)
      else if (nextR x.nx).2 ≠ 0 then (0, x.a.l, (nextR x.nx).2)
      else (x.a.n, fun j => if j = x.nx.k then pushF (x.a.l x.nx.k) (nextR x.nx).1 else x.a.l j, 0) := if_neg (by simp [hf])
  rw [e1] at hR
  clear e1 h1 hr
  obtain ⟨n1, n8, hlook⟩ := feedsOk_look hf
  conv => whnf
  conv => whnf
  repeat' (refine And.intro ?_ ?_ <;> conv => whnf)
  all_goals try first | exact ⟨rfl⟩ | exact ⟨⟨rfl, rfl⟩⟩ | exact ⟨⟨rfl, rfl, rfl⟩⟩ | exact ⟨fun _ _ => rfl⟩ | exact ⟨fun _ _ => trivial⟩ | exact ⟨fun k _ => isU8_bf _ k⟩ | exact ⟨by omega⟩ | exact ⟨⟨by omega, by omega⟩⟩ | exact ⟨⟨by omega, by omega, by omega⟩⟩ | exact ⟨fun _ _ => trivial⟩ | exact ⟨fun _ _ => rfl⟩
  refine ⟨⟨x.a, pubO x.s⟩, ⟨AE.refl _, AE.refl _, trivial⟩, ⟨pubO_len _, fun k hk => (hl k hk).1, by show x.a.n ≤ 1000000; omega⟩, ?_⟩
  intro k hk
  replace hk : k = findR x.a.l x.a.n (pubO x.s) := hk
  have hfl := findN_lt (l := x.a.l) (author := pubO x.s) x.a.n 0
  replace hfl : k < 0 ∨ ((0 : Nat) ≤ k ∧ k < (0 + x.a.n : Nat) ∧ (x.a.l k.toNat).author = pubO x.s) := by rw [hk]; exact hfl
  rw [← hk] at hR
  conv => whnf
  refine And.intro (fun h1 => ?_) (fun h1 => ?_) <;> conv => whnf
  · rw [if_pos (of_decide_eq_true h1)] at hR
    rw [hR]
    exact Ld.two Ld.emp (by simp) rfl (by simp [fdsV]) rfl
  have hk0 : ¬ k < 0 := of_decide_eq_false h1
  rw [if_neg hk0] at hR
  obtain ⟨m, rfl⟩ := Int.eq_ofNat_of_zero_le (Int.not_lt.1 hk0)
  conv => whnf
  conv => whnf
  repeat' (refine And.intro ?_ ?_ <;> conv => whnf)
  all_goals try first | exact ⟨rfl⟩ | exact ⟨⟨rfl, rfl⟩⟩ | exact ⟨⟨rfl, rfl, rfl⟩⟩ | exact ⟨fun _ _ => rfl⟩ | exact ⟨fun _ _ => trivial⟩ | exact ⟨fun k _ => isU8_bf _ k⟩ | exact ⟨by omega⟩ | exact ⟨⟨by omega, by omega⟩⟩ | exact ⟨⟨by omega, by omega, by omega⟩⟩ | exact ⟨fun _ _ => trivial⟩ | exact ⟨fun _ _ => rfl⟩
  refine ⟨x.o, ⟨AE.refl _, trivial⟩, ⟨trivial⟩, ?_⟩
  intro q hq
  replace hq : q = opOk x.o := hq
  rw [← hq] at hR
  conv => whnf
  refine And.intro (fun h2 => ?_) (fun h2 => ?_) <;> conv => whnf
  · have hq2 : q = false := by cases q <;> simp_all
    rw [if_pos hq2] at hR
    rw [hR]
    exact Ld.two Ld.emp (by simp) rfl (by simp [fdsV]) rfl
  have hq2 : q = true := by cases q <;> simp_all
  rw [if_neg (by simp [hq2])] at hR
  have ho : opOk x.o = true := hq.symm.trans hq2
  obtain ⟨k1, k2, k3⟩ := hfl.resolve_left hk0
  have hnk : x.nx.k = m := by show (findR x.a.l x.a.n (pubO x.s)).toNat = _; rw [← hk]; simp
  have hm : m < x.a.n := by omega
  replace k3 : (x.nx.a.l x.nx.k).author = pubO x.nx.s := by rw [hnk]; exact k3
  have hnx : NxOk x.nx := ⟨hs, hl, hf, by rw [hnk]; exact hm, ho⟩
  have hvm : ∀ c, c ∈ viewL x.a.n x.a.l → OkCe c := fun c hc => viewL_mem hl hc
  have hvl := viewL_len x.a.n x.a.l
  clear hq hq2 h1 h2 hk hk0 k1 k2
  conv => whnf
  refine And.intro (fun h3 => ?_) (fun h3 => ?_) <;> conv => whnf
  · replace h3 : x.o.kind = 2 := by simpa using h3
    conv => whnf
    conv => whnf
    repeat' (refine And.intro ?_ ?_ <;> conv => whnf)
    all_goals try first | exact ⟨rfl⟩ | exact ⟨⟨rfl, rfl⟩⟩ | exact ⟨⟨rfl, rfl, rfl⟩⟩ | exact ⟨fun _ _ => rfl⟩ | exact ⟨fun _ _ => trivial⟩ | exact ⟨fun k _ => isU8_bf _ k⟩ | exact ⟨by omega⟩ | exact ⟨⟨by omega, by omega⟩⟩ | exact ⟨⟨by omega, by omega, by omega⟩⟩ | exact ⟨fun _ _ => trivial⟩ | exact ⟨fun _ _ => rfl⟩
    refine ⟨x.a, ⟨AE.refl _, trivial⟩, ⟨hl⟩, ?_⟩
    intro vw hvw
    replace hvw : vw = viewL x.a.n x.a.l := hvw
    subst hvw
    conv => whnf
    repeat' (refine And.intro ?_ ?_ <;> conv => whnf)
    all_goals try first | exact ⟨rfl⟩ | exact ⟨⟨rfl, rfl⟩⟩ | exact ⟨⟨rfl, rfl, rfl⟩⟩ | exact ⟨fun _ _ => rfl⟩ | exact ⟨fun _ _ => trivial⟩ | exact ⟨fun k _ => isU8_bf _ k⟩ | exact ⟨by omega⟩ | exact ⟨⟨by omega, by omega⟩⟩ | exact ⟨⟨by omega, by omega, by omega⟩⟩ | exact ⟨fun _ _ => trivial⟩ | exact ⟨fun _ _ => rfl⟩
    refine ⟨x.gt, ⟨AE.refl _, AE.refl _, trivial⟩, ⟨by show (viewL x.a.n x.a.l).length ≤ 1000000; omega, fun k hk => ?_⟩, ?_⟩
    · have := (hvm _ (gce_mem hk)).val
      show (gce (viewL x.a.n x.a.l) k).val.length ≤ 1000000
      omega
    intro g hg
    replace hg : g = getR x.gt := hg
    rw [← hg] at hR
    conv => whnf
    refine And.intro (fun h4 => ?_) (fun h4 => ?_) <;> conv => whnf
    · have h6 : g.2 ≠ 0 := by simpa using h4
      rw [if_pos ⟨h3, h6⟩] at hR
      rw [hR]
      exact Ld.two Ld.emp (by simp) rfl (by simp [fdsV]) rfl
    have h6 : g.2 = 0 := by simpa using h4
    rw [if_neg (fun h => h.2 h6)] at hR
    conv => whnf
    conv => whnf
    repeat' (refine And.intro ?_ ?_ <;> conv => whnf)
    all_goals try first | exact ⟨rfl⟩ | exact ⟨⟨rfl, rfl⟩⟩ | exact ⟨⟨rfl, rfl, rfl⟩⟩ | exact ⟨fun _ _ => rfl⟩ | exact ⟨fun _ _ => trivial⟩ | exact ⟨fun k _ => isU8_bf _ k⟩ | exact ⟨by omega⟩ | exact ⟨⟨by omega, by omega⟩⟩ | exact ⟨⟨by omega, by omega, by omega⟩⟩ | exact ⟨⟨by omega, by omega⟩⟩ | exact ⟨fun _ _ => trivial⟩ | exact ⟨fun _ _ => rfl⟩
    refine ⟨x.nx, ⟨AE.refl _, AE.refl _, AE.refl _, AE.of (congrArg (fun j : Nat => V.int .i64 (j : Int)) hnk.symm), AE.refl _, trivial⟩, ⟨hnx⟩, ?_⟩
    intro w hw
    replace hw : w = nextR x.nx := hw
    rw [← hw] at hR
    conv => whnf
    refine And.intro (fun h5 => ?_) (fun h5 => ?_) <;> conv => whnf
    · rw [if_pos (by simpa using h5)] at hR
      rw [hR]
      exact Ld.two Ld.emp (by simp) rfl (by simp [fdsV]) rfl
    have hw0 : w.2 = 0 := by simpa using h5
    rw [if_neg (fun h => h hw0)] at hR
    have hps := sign_ps hnx (by rw [← hw]; exact hw0) k3
    rw [← hw] at hps
    clear h5
    conv => whnf
    repeat' (refine And.intro ?_ ?_ <;> conv => whnf)
    all_goals try first | exact ⟨rfl⟩ | exact ⟨⟨rfl, rfl⟩⟩ | exact ⟨⟨rfl, rfl, rfl⟩⟩ | exact ⟨fun _ _ => rfl⟩ | exact ⟨fun _ _ => trivial⟩ | exact ⟨fun k _ => isU8_bf _ k⟩ | exact ⟨by omega⟩ | exact ⟨⟨by omega, by omega⟩⟩ | exact ⟨⟨by omega, by omega, by omega⟩⟩ | exact ⟨⟨by omega, by omega⟩⟩ | exact ⟨fun _ _ => trivial⟩ | exact ⟨fun _ _ => rfl⟩
    refine ⟨⟨x.a.l m, w.1⟩, ⟨AE.refl _, AE.refl _, trivial⟩, ⟨by have := hps; rw [hnk] at this; exact this⟩, ?_⟩
    intro f hf2
    replace hf2 : f = pushF (x.a.l m) w.1 := hf2
    conv => whnf
    repeat' (first | (refine And.intro (fun hp => ?_) (fun hp => ?_) <;> first | (exfalso; revert hp; simp; done) | conv => whnf) | (refine And.intro ?_ ?_ <;> conv => whnf))
    all_goals try first | exact ⟨rfl⟩ | exact ⟨⟨rfl, rfl⟩⟩ | exact ⟨⟨rfl, rfl, rfl⟩⟩ | exact ⟨fun _ _ => rfl⟩ | exact ⟨fun _ _ => trivial⟩ | exact ⟨fun k _ => isU8_bf _ k⟩ | exact ⟨by omega⟩ | exact ⟨⟨by omega, by omega⟩⟩ | exact ⟨⟨by omega, by omega, by omega⟩⟩ | exact ⟨⟨by omega, by omega⟩⟩ | exact ⟨fun _ _ => trivial⟩ | exact ⟨fun _ _ => rfl⟩
    refine ⟨x.a, [], ?_⟩
    conv => whnf
    repeat' (refine And.intro ?_ ?_ <;> conv => whnf)
    all_goals try first | exact ⟨rfl⟩ | exact ⟨⟨rfl, rfl⟩⟩ | exact ⟨⟨rfl, rfl, rfl⟩⟩ | exact ⟨fun _ _ => rfl⟩ | exact ⟨fun _ _ => trivial⟩ | exact ⟨fun k _ => isU8_bf _ k⟩ | exact ⟨by omega⟩ | exact ⟨⟨by omega, by omega⟩⟩ | exact ⟨⟨by omega, by omega, by omega⟩⟩ | exact ⟨fun k hk => leV_refl _ (pln_fdV _)⟩ | exact ⟨⟨n1, by omega, fun k hk => okFd_look (hl k hk) (hlook k hk)⟩⟩
    have hRm : R = (x.a.n, fun j => if j = m then f else x.a.l j, 0) := by rw [hR, hnk, hf2]
    have hrow : ∀ k, fdV (if k = m then f else x.a.l k) = if k = m then fdV f else fdV (x.a.l k) := fun k => by split <;> rfl
    · refine ⟨fun k hk => ?_⟩
      by_cases hkm : k = m
      · first
          | exact cast (congrArg own (if_pos (show k = 0 + Int.toNat (m : Int) by omega)).symm) (own_fdV f)
          | exact cast (congrArg own (if_pos (show 0 + k = 0 + Int.toNat (m : Int) by omega)).symm) (own_fdV f)
      · first
          | exact cast (congrArg own (if_neg (show ¬ k = 0 + Int.toNat (m : Int) by omega)).symm) (own_fdV _)
          | exact cast (congrArg own (if_neg (show ¬ 0 + k = 0 + Int.toNat (m : Int) by omega)).symm) (own_fdV _)
    rw [show R = (x.a.n, fun j => if j = m then f else x.a.l j, 0) by rw [hR, hnk, hf2]]
    refine Ld.two (Ld.imm fun k hk => ?_) (by simp) rfl (by simp [fdsV]) rfl
    show _ = fdV (if k = m then f else x.a.l k)
    by_cases hkm : k = m
    · rw [if_pos hkm]
      first
        | exact if_pos (show k = 0 + Int.toNat (m : Int) by omega)
        | exact if_pos (show 0 + k = 0 + Int.toNat (m : Int) by omega)
    · rw [if_neg hkm]
      first
        | exact if_neg (show ¬ k = 0 + Int.toNat (m : Int) by omega)
        | exact (if_neg (show ¬ 0 + k = 0 + Int.toNat (m : Int) by omega)).trans (congrArg (fun j => fdV (x.a.l j)) (Nat.zero_add k))
  · replace h3 : ¬ x.o.kind = 2 := by simpa using h3
    rw [if_neg (fun h => h3 h.1)] at hR
    conv => whnf
    conv => whnf
    repeat' (refine And.intro ?_ ?_ <;> conv => whnf)
    all_goals try first | exact ⟨rfl⟩ | exact ⟨⟨rfl, rfl⟩⟩ | exact ⟨⟨rfl, rfl, rfl⟩⟩ | exact ⟨fun _ _ => rfl⟩ | exact ⟨fun _ _ => trivial⟩ | exact ⟨fun k _ => isU8_bf _ k⟩ | exact ⟨by omega⟩ | exact ⟨⟨by omega, by omega⟩⟩ | exact ⟨⟨by omega, by omega, by omega⟩⟩ | exact ⟨⟨by omega, by omega⟩⟩ | exact ⟨fun _ _ => trivial⟩ | exact ⟨fun _ _ => rfl⟩
    refine ⟨x.nx, ⟨AE.refl _, AE.refl _, AE.refl _, AE.of (congrArg (fun j : Nat => V.int .i64 (j : Int)) hnk.symm), AE.refl _, trivial⟩, ⟨hnx⟩, ?_⟩
    intro w hw
    replace hw : w = nextR x.nx := hw
    rw [← hw] at hR
    conv => whnf
    refine And.intro (fun h5 => ?_) (fun h5 => ?_) <;> conv => whnf
    · rw [if_pos (by simpa using h5)] at hR
      rw [hR]
      exact Ld.two Ld.emp (by simp) rfl (by simp [fdsV]) rfl
    have hw0 : w.2 = 0 := by simpa using h5
    rw [if_neg (fun h => h hw0)] at hR
    have hps := sign_ps hnx (by rw [← hw]; exact hw0) k3
    rw [← hw] at hps
    clear h5
    conv => whnf
    repeat' (refine And.intro ?_ ?_ <;> conv => whnf)
    all_goals try first | exact ⟨rfl⟩ | exact ⟨⟨rfl, rfl⟩⟩ | exact ⟨⟨rfl, rfl, rfl⟩⟩ | exact ⟨fun _ _ => rfl⟩ | exact ⟨fun _ _ => trivial⟩ | exact ⟨fun k _ => isU8_bf _ k⟩ | exact ⟨by omega⟩ | exact ⟨⟨by omega, by omega⟩⟩ | exact ⟨⟨by omega, by omega, by omega⟩⟩ | exact ⟨⟨by omega, by omega⟩⟩ | exact ⟨fun _ _ => trivial⟩ | exact ⟨fun _ _ => rfl⟩
    refine ⟨⟨x.a.l m, w.1⟩, ⟨AE.refl _, AE.refl _, trivial⟩, ⟨by have := hps; rw [hnk] at this; exact this⟩, ?_⟩
    intro f hf2
    replace hf2 : f = pushF (x.a.l m) w.1 := hf2
    conv => whnf
    repeat' (first | (refine And.intro (fun hp => ?_) (fun hp => ?_) <;> first | (exfalso; revert hp; simp; done) | conv => whnf) | (refine And.intro ?_ ?_ <;> conv => whnf))
    all_goals try first | exact ⟨rfl⟩ | exact ⟨⟨rfl, rfl⟩⟩ | exact ⟨⟨rfl, rfl, rfl⟩⟩ | exact ⟨fun _ _ => rfl⟩ | exact ⟨fun _ _ => trivial⟩ | exact ⟨fun k _ => isU8_bf _ k⟩ | exact ⟨by omega⟩ | exact ⟨⟨by omega, by omega⟩⟩ | exact ⟨⟨by omega, by omega, by omega⟩⟩ | exact ⟨⟨by omega, by omega⟩⟩ | exact ⟨fun _ _ => trivial⟩ | exact ⟨fun _ _ => rfl⟩
    refine ⟨x.a, [], ?_⟩
    conv => whnf
    repeat' (refine And.intro ?_ ?_ <;> conv => whnf)
    all_goals try first | exact ⟨rfl⟩ | exact ⟨⟨rfl, rfl⟩⟩ | exact ⟨⟨rfl, rfl, rfl⟩⟩ | exact ⟨fun _ _ => rfl⟩ | exact ⟨fun _ _ => trivial⟩ | exact ⟨fun k _ => isU8_bf _ k⟩ | exact ⟨by omega⟩ | exact ⟨⟨by omega, by omega⟩⟩ | exact ⟨⟨by omega, by omega, by omega⟩⟩ | exact ⟨fun k hk => leV_refl _ (pln_fdV _)⟩ | exact ⟨⟨n1, by omega, fun k hk => okFd_look (hl k hk) (hlook k hk)⟩⟩
    have hRm : R = (x.a.n, fun j => if j = m then f else x.a.l j, 0) := by rw [hR, hnk, hf2]
    have hrow : ∀ k, fdV (if k = m then f else x.a.l k) = if k = m then fdV f else fdV (x.a.l k) := fun k => by split <;> rfl
    · refine ⟨fun k hk => ?_⟩
      by_cases hkm : k = m
      · first
          | exact cast (congrArg own (if_pos (show k = 0 + Int.toNat (m : Int) by omega)).symm) (own_fdV f)
          | exact cast (congrArg own (if_pos (show 0 + k = 0 + Int.toNat (m : Int) by omega)).symm) (own_fdV f)
      · first
          | exact cast (congrArg own (if_neg (show ¬ k = 0 + Int.toNat (m : Int) by omega)).symm) (own_fdV _)
          | exact cast (congrArg own (if_neg (show ¬ 0 + k = 0 + Int.toNat (m : Int) by omega)).symm) (own_fdV _)
    rw [show R = (x.a.n, fun j => if j = m then f else x.a.l j, 0) by rw [hR, hnk, hf2]]
    refine Ld.two (Ld.imm fun k hk => ?_) (by simp) rfl (by simp [fdsV]) rfl
    show _ = fdV (if k = m then f else x.a.l k)
    by_cases hkm : k = m
    · rw [if_pos hkm]
      first
        | exact if_pos (show k = 0 + Int.toNat (m : Int) by omega)
        | exact if_pos (show 0 + k = 0 + Int.toNat (m : Int) by omega)
    · rw [if_neg hkm]
      first
        | exact if_neg (show ¬ k = 0 + Int.toNat (m : Int) by omega)
        | exact (if_neg (show ¬ 0 + k = 0 + Int.toNat (m : Int) by omega)).trans (congrArg (fun j => fdV (x.a.l j)) (Nat.zero_add k))
end Go.Proofs.YtaihjcpfjgpmoaaGreatDoor

/- The layer's wakes: a put. -/
namespace Go.Proofs.YtaihjcpfjgpmoaaGreatDoor
set_option linter.unusedVariables false
set_option linter.unusedSimpArgs false
set_option maxRecDepth 100000
open Go Go.DD
def s1 : List UInt8 := 1 :: List.replicate 31 0
def p1 : List UInt8 := pubO s1
theorem p1_len : p1.length = 32 := pubO_len s1
def o1 : Ent := { ent0 with kind := 1, key := [107], val := [118] }
theorem s1_succ (k : Nat) : V.int .u8 0 = bf s1 (k + 1) := by
  show V.int .u8 0 = V.int .u8 (((List.replicate 31 (0 : UInt8)).getD k 0).toNat : Nat)
  rw [show (List.replicate 31 (0 : UInt8)).getD k 0 = 0 by rw [List.getD_eq_getElem?_getD, List.getElem?_replicate]; split <;> rfl]
  rfl
def f1 : Fd := newFd p1
theorem f1_pre : preF f1 := ⟨p1_len, fun k hk => absurd hk (Nat.not_lt_zero _), ⟨wfE_ent0, by decide⟩, ⟨wfE_ent0, by decide⟩⟩
theorem noneE_ent0 : noneE ent0 = true := by decide
theorem f1_look : lookF f1 = (z32, true) := by
  simp [lookF, f1, newFd, folR, folF, noneE_ent0]
theorem feedsOk1 {l : Nat → Fd} (h : (lookF (l 0)).2 = true) : feedsOk 1 l = true := by
  simp [feedsOk, List.range_succ, oneOk, h]
theorem f1_ok : feedsOk 1 (fun _ => f1) = true := feedsOk1 (by rw [f1_look])
def x1 : PtA := ⟨s1, ⟨false, 1, fun _ => f1⟩, o1⟩
theorem x1_find : findR x1.a.l x1.a.n (pubO x1.s) = 0 := by
  show findN (fun _ => f1) p1 1 0 = 0
  simp [findN, f1, newFd]
theorem o1_ok : opOk o1 = true := by decide
theorem x1_k : x1.nx.k = 0 := by
  show (findR x1.a.l x1.a.n (pubO x1.s)).toNat = 0
  rw [x1_find]; rfl
theorem x1_nx : NxOk x1.nx := ⟨rfl, fun _ _ => f1_pre, f1_ok, by rw [x1_k]; exact Nat.zero_lt_one, o1_ok⟩
theorem x1_clock : clockR x1.a = 0 := by
  have : clockR x1.a = clockN (fun _ => f1) 1 := if_pos f1_ok
  rw [this]; rfl
theorem x1_top : topB x1.nx = false := by
  have h : clockR x1.nx.a = 0 := x1_clock
  simp only [topB, h]
  decide
def e1 : Ent := signE s1 (nextE x1.nx)
theorem x1_next : nextR x1.nx = (e1, 0) := (if_neg (by simp [PtA.nx, x1, f1, newFd])).trans (if_neg (by simp [x1_top]))
def f2 : Fd := pushF f1 e1
def l2 : Nat → Fd := fun j => if j = 0 then f2 else f1
theorem x1_put : putR x1 = (1, l2, 0) := by
  have h1 : feedsOk x1.a.n x1.a.l = true := f1_ok
  have h2 := x1_find
  have h3 : opOk x1.o = true := o1_ok
  have h4 : ¬ (x1.o.kind = 2 ∧ (getR x1.gt).2 ≠ 0) := fun h => absurd h.1 (by decide)
  have h5 : ¬ (nextR x1.nx).2 ≠ 0 := by rw [x1_next]; simp
  refine (if_neg (by simp [h1])).trans ((if_neg (by rw [h2]; decide)).trans ((if_neg (by simp [h3])).trans ((if_neg h4).trans ((if_neg h5).trans ?_))))
  rw [x1_k, x1_next]
  rfl
theorem x1_ps : PsOk ⟨f1, e1⟩ := by
  have h := sign_ps x1_nx (by rw [x1_next]) rfl
  rw [x1_next] at h
  exact h
theorem f2_es (k : Nat) : f2.es k = e1 := by
  show (if k < 0 then f1.es k else e1) = e1
  exact if_neg (Nat.not_lt_zero k)
theorem f2_pre : preF f2 := ⟨p1_len, fun k _ => by rw [f2_es]; exact x1_ps.pe, ⟨wfE_ent0, by decide⟩, ⟨wfE_ent0, by decide⟩⟩
theorem f2_look : (lookF f2).2 = true := by
  have h := x1_ps
  have h1 : (idE e1).2 = 0 := (idE_ok h.pe.1).2 h.ent
  have h2 : e1.author = p1 := h.auth
  have h3 : e1.seq = (0 : Nat) + 1 := h.seq
  have h4 : e1.prev = z32 := by have := h.prev; rw [f1_look] at this; exact this
  have hf : folR f2.author f2.es f2.n = ((idE e1).1, true) := by
    show folR p1 f2.es 1 = _
    rw [folR, if_neg (by omega), folF, if_neg (by simp [folF]), f2_es, if_neg ?_]
    rintro (h | h | h | h)
    · exact h h1
    · exact h h2
    · exact h h3
    · exact h (h4.trans rfl)
  simp only [lookF, hf, Bool.true_and]
  show (if false = true then _ else noneE ent0 && noneE ent0) = true
  simp [noneE_ent0]
theorem l2_ok : feedsOk 1 l2 = true := feedsOk1 f2_look
theorem x1_view : viewL 1 l2 = [mkCell e1] := by
  rw [viewL, if_pos l2_ok, viewN, if_neg (by simp [l2, f2, pushF, f1, newFd])]
  show viewE f2.es 1 [] = _
  rw [viewE, f2_es, viewE]
  unfold stepV
  rw [if_pos (by simp [bsR, bsI])]
  simp
theorem x1_get : getR ⟨false, 1, gce [mkCell e1], [107]⟩ = ([118], 0) := by
  have hk : keyR ⟨false, 1, gce [mkCell e1], [107]⟩ = 0 := by
    show keyN (gce [mkCell e1]) [107] 1 0 = 0
    rw [keyN, if_pos (show (gce [mkCell e1] 0).key = [107] from rfl)]; rfl
  unfold getR
  rw [hk]
  exact if_neg (by rw [not_or]; exact ⟨by decide, by show ¬ (decide (e1.kind = 2)) = true; exact of_decide_eq_true rfl⟩)
def F17 : FSpec := mkG (fun (_ : Unit) => []) (fun _ => True) (fun _ => true) .bool
theorem f17_ok : FOk Tryz.prog G 7 F17 := mkG_ok fun _ _ => by
  have hΓ := ctxG_ok Tryz.f7.ntmps [(11, FpubR), (21, F44), (9, Fput), (14, F25c), (16, Fget), (6, Fbound)] [] [] (.cons (fpubR_ok.g) (.cons (f44_ok) (.cons (fput_ok) (.cons (f25c_ok) (.cons (fget_ok.g) (.cons (fbound_ok.g) .nil)))))) .nil
  refine CP_of_OK hΓ Tryz.func7 (c := bodyOf Tryz.f7) rfl (by decide) rfl rfl (by simp) (vc_ok hΓ mixed 1000 _ [] _ (by kernel_rfl) rfl ?_)
  conv => whnf
  repeat' (first | (refine And.intro (fun _ => ?_) (fun _ => ?_) <;> conv => whnf) | (refine And.intro ?_ ?_ <;> conv => whnf))
  all_goals try first | exact ⟨rfl⟩ | exact ⟨⟨rfl, rfl⟩⟩ | exact ⟨⟨rfl, rfl, rfl⟩⟩ | exact ⟨fun _ _ => rfl⟩ | exact ⟨fun _ _ => trivial⟩ | exact ⟨fun k _ => isU8_bf _ k⟩ | exact ⟨by omega⟩ | exact ⟨⟨by omega, by omega⟩⟩ | exact ⟨⟨by omega, by omega, by omega⟩⟩
  · refine ⟨fun k _ => ?_⟩
    cases k <;> exact trivial
  refine ⟨s1, ⟨AE.refl _, AE.row fun k _ => ?_, trivial⟩, ⟨rfl⟩, ?_⟩
  · cases k with
    | zero => rfl
    | succ k => exact Eq.trans rfl (s1_succ k)
  intro p hp
  replace hp : p = p1 := hp
  subst hp
  conv => whnf
  repeat' (refine And.intro ?_ ?_ <;> conv => whnf)
  all_goals try first | exact ⟨rfl⟩ | exact ⟨⟨rfl, rfl⟩⟩ | exact ⟨⟨rfl, rfl, rfl⟩⟩ | exact ⟨fun _ _ => rfl⟩ | exact ⟨fun _ _ => trivial⟩ | exact ⟨fun k _ => isU8_bf _ k⟩ | exact ⟨by omega⟩ | exact ⟨⟨by omega, by omega⟩⟩ | exact ⟨⟨by omega, by omega, by omega⟩⟩ | exact ⟨fun _ _ => trivial⟩ | exact ⟨fun _ _ => rfl⟩
  · refine ⟨fun k hk => ?_⟩
    obtain rfl : k = 0 := by omega
    exact fun _ _ => trivial
  refine ⟨⟨true, 1, fun _ => p1⟩, ⟨AE.imm fun k hk => ?_, trivial⟩, ⟨by decide, fun _ _ => p1_len⟩, ?_⟩
  · obtain rfl : k = 0 := by omega
    rfl
  intro r hr
  obtain rfl : r = (1, (fun _ => p1), 0) := hr.trans ((if_neg (by decide)).trans (if_neg (by simp [dupB])))
  conv => whnf
  repeat' (refine And.intro ?_ ?_ <;> conv => whnf)
  all_goals try first | exact ⟨rfl⟩ | exact ⟨⟨rfl, rfl⟩⟩ | exact ⟨⟨rfl, rfl, rfl⟩⟩ | exact ⟨fun _ _ => rfl⟩ | exact ⟨fun _ _ => trivial⟩ | exact ⟨fun k _ => isU8_bf _ k⟩ | exact ⟨by omega⟩ | exact ⟨⟨by omega, by omega⟩⟩ | exact ⟨⟨by omega, by omega, by omega⟩⟩ | exact ⟨fun _ _ => trivial⟩ | exact ⟨fun _ _ => rfl⟩
  · refine ⟨fun k hk => ?_⟩
    obtain rfl : k = 0 := by omega
    exact trivial
  · refine ⟨fun k _ => ?_⟩
    cases k <;> exact trivial
  refine ⟨x1, ⟨AE.refl _, AE.row fun k _ => ?_, AE.refl _, AE_st (.cons (LdR.refl _) (.cons (LdR.refl _) (.cons (LdR.imm (m := 1) (g := bf [118]) rfl fun k hk => ?_) .nil))), trivial⟩, ⟨rfl, fun _ _ => f1_pre⟩, ?_⟩
  · cases k with
    | zero => rfl
    | succ k => exact Eq.trans rfl (s1_succ k)
  · obtain rfl : k = 0 := by omega
    rfl
  intro r hr
  replace hr : r = (1, l2, 0) := hr.trans x1_put
  subst hr
  conv => whnf
  repeat' (refine And.intro ?_ ?_ <;> conv => whnf)
  all_goals try first | exact ⟨rfl⟩ | exact ⟨⟨rfl, rfl⟩⟩ | exact ⟨⟨rfl, rfl, rfl⟩⟩ | exact ⟨fun _ _ => rfl⟩ | exact ⟨fun _ _ => trivial⟩ | exact ⟨fun k _ => isU8_bf _ k⟩ | exact ⟨by omega⟩ | exact ⟨⟨by omega, by omega⟩⟩ | exact ⟨⟨by omega, by omega, by omega⟩⟩ | exact ⟨fun _ _ => trivial⟩ | exact ⟨fun _ _ => rfl⟩
  refine ⟨⟨false, 1, l2⟩, ⟨AE.refl _, trivial⟩, ⟨fun k hk => ?_⟩, ?_⟩
  · obtain rfl : k = 0 := by have : k < 1 := hk; omega
    exact f2_pre
  intro vw hvw
  replace hvw : vw = [mkCell e1] := hvw.trans x1_view
  subst hvw
  conv => whnf
  repeat' (refine And.intro ?_ ?_ <;> conv => whnf)
  all_goals try first | exact ⟨rfl⟩ | exact ⟨⟨rfl, rfl⟩⟩ | exact ⟨⟨rfl, rfl, rfl⟩⟩ | exact ⟨fun _ _ => rfl⟩ | exact ⟨fun _ _ => trivial⟩ | exact ⟨fun k _ => isU8_bf _ k⟩ | exact ⟨by omega⟩ | exact ⟨⟨by omega, by omega⟩⟩ | exact ⟨⟨by omega, by omega, by omega⟩⟩ | exact ⟨fun _ _ => trivial⟩ | exact ⟨fun _ _ => rfl⟩
  refine ⟨⟨false, 1, gce [mkCell e1], [107]⟩, ⟨AE.refl _, AE.refl _, trivial⟩, ⟨by decide, fun k hk => ?_⟩, ?_⟩
  · obtain rfl : k = 0 := by have : k < 1 := hk; omega
    show [(118 : UInt8)].length ≤ 1000000
    decide
  intro g hg
  replace hg : g = ([118], 0) := hg.trans x1_get
  subst hg
  have hb : (bytesOf [(118 : UInt8)].length (bf [118]) == [(118 : UInt8)]) = true := by decide
  conv => whnf
  repeat' (first | (refine And.intro (fun hp => ?_) (fun hp => ?_) <;> first | (exfalso; revert hp; simp; done) | conv => whnf) | (refine And.intro ?_ ?_ <;> conv => whnf))
  all_goals try first | exact ⟨rfl⟩ | exact ⟨⟨rfl, rfl⟩⟩ | exact ⟨⟨rfl, rfl, rfl⟩⟩ | exact ⟨fun _ _ => rfl⟩ | exact ⟨fun _ _ => trivial⟩ | exact ⟨fun k _ => isU8_bf _ k⟩ | exact ⟨by omega⟩ | exact ⟨⟨by omega, by omega⟩⟩ | exact ⟨⟨by omega, by omega, by omega⟩⟩ | exact ⟨fun _ _ => isU8_bf _ _⟩
  · refine ⟨(2, 3, 1), ⟨AE.refl _, AE.refl _, AE.refl _, trivial⟩, ⟨by decide⟩, ?_⟩
    intro z hz
    obtain rfl : z = 110 := hz.trans (by decide)
    conv => whnf
    repeat' (first | (refine And.intro (fun hp => ?_) (fun hp => ?_) <;> first | (exfalso; revert hp; simp; done) | conv => whnf) | (refine And.intro ?_ ?_ <;> conv => whnf))
    exact Ld.refl _
  · exact absurd (hb.symm.trans hp) (by decide)
end Go.Proofs.YtaihjcpfjgpmoaaGreatDoor

/- What a law of this layer is handed, as plain values. -/
namespace Go.Proofs.YtaihjcpfjgpmoaaGreatDoor
set_option linter.unusedVariables false
set_option linter.unusedSimpArgs false
set_option maxRecDepth 100000
open Go Go.DD
/-- Feeds as the types have them. -/
def tyF (f : Fd) : Prop := preF f ∧ f.pf.a.val.length ≤ 9223372036854775807 ∧ f.pf.b.val.length ≤ 9223372036854775807
def tyL (a : Fds) : Prop := ∀ k, k < a.n → tyF (a.l k)
theorem cells5 : Tryz.prog.cellsOf 5 = 1 := by kernel_rfl
theorem cells43 : Tryz.prog.cellsOf 38 = 133 := by kernel_rfl
theorem cells47 : Tryz.prog.cellsOf 42 = 300 := by kernel_rfl
theorem ty_arr {f t n : Nat} {v : V} (hu : Tryz.prog.underlying t = some (.array n 5)) (h : Ty Tryz.prog f t v) : ∃ l : List UInt8, l.length = n ∧ RE v (arrV n l) := by
  obtain ⟨g, m, rfl, hg⟩ := h.array hu cells5
  obtain ⟨l, h1, h2⟩ := bytes_of fun k hk => (hg k hk).int Tryz.underlying5
  exact ⟨l, h1, RE.row fun k hk => RE.of (h2 k hk)⟩
theorem ty_bys {f : Nat} {v : V} (h : Ty Tryz.prog f 27 v) : ∃ l : List UInt8, RE v (byV false l) ∧ l.length ≤ 9223372036854775807 := by
  obtain ⟨n, g, m, rfl, hn, hg⟩ := h.slice Tryz.underlying27 cells5
  obtain ⟨l, h1, h2⟩ := bytes_of fun k hk => (hg k hk).int Tryz.underlying5
  subst h1
  exact ⟨l, RE.imm fun k hk => RE.of (h2 k hk), hn⟩
theorem ty_ent {f : Nat} {v : V} (h : Ty Tryz.prog f 38 v) : ∃ e, RE v (entV e) ∧ preE e ∧ e.val.length ≤ 9223372036854775807 := by
  obtain ⟨x, m, rfl, hx⟩ := h.struct Tryz.underlying38 rfl
  match x, hx with
  | .cons a (.cons b (.cons c (.cons d (.cons e (.cons s .nil))))), ⟨h1, h2, h3, h4, h5, h6, _⟩ =>
    obtain ⟨la, l1, r1⟩ := ty_arr Tryz.underlying25 h1
    obtain ⟨sq, rfl, _⟩ := h2.int Tryz.underlying3
    obtain ⟨lp, l3, r3⟩ := ty_arr Tryz.underlying25 h3
    obtain ⟨st, rfl, w4⟩ := h4.int Tryz.underlying3
    obtain ⟨ls, l6, r6⟩ := ty_arr Tryz.underlying36 h6
    obtain ⟨y, m', rfl, hy⟩ := h5.struct Tryz.underlying29 rfl
    match y, hy with
    | .cons k (.cons q (.cons u .nil)), ⟨g1, g2, g3, _⟩ =>
      obtain ⟨kn, rfl, _⟩ := g1.int Tryz.underlying3
      obtain ⟨ky, rfl, _⟩ := g2.string Tryz.underlying9
      obtain ⟨lv, r8, l8⟩ := ty_bys g3
      have hst : st ≤ 9223372036854775807 := (bounds_i64 w4).2
      exact ⟨⟨la, sq, lp, st, kn, ky, lv, ls⟩, RE.st ⟨r1, RE.refl _, r3, RE.refl _, RE.st ⟨RE.refl _, RE.refl _, r8, trivial⟩, r6, trivial⟩, ⟨⟨l1, l3, l6⟩, hst⟩, l8⟩
theorem ty_ents {f : Nat} {v : V} (h : Ty Tryz.prog f 35 v) : ∃ (n : Nat) (es : Nat → Ent), RE v (.imm false 133 n fun k => entV (es k)) ∧ ∀ k, k < n → preE (es k) := by
  obtain ⟨n, g, m, rfl, _, hg⟩ := h.slice Tryz.underlying35 cells43
  have hk : ∀ k, ∃ e, k < n → RE (g k) (entV e) ∧ preE e := fun k => by
    by_cases hk : k < n
    · obtain ⟨e, he1, he2, _⟩ := ty_ent (hg k hk)
      exact ⟨e, fun _ => ⟨he1, he2⟩⟩
    · exact ⟨⟨[], 0, [], 0, 0, [], [], []⟩, fun h => absurd h hk⟩
  obtain ⟨es, he⟩ := Classical.axiomOfChoice hk
  exact ⟨n, es, RE.imm fun k hk => (he k hk).1, fun k hk => (he k hk).2⟩
theorem ty_pf {f : Nat} {v : V} (h : Ty Tryz.prog f 40 v) : ∃ p, RE v (pfV p) ∧ preE p.a ∧ preE p.b ∧ p.a.val.length ≤ 9223372036854775807 ∧ p.b.val.length ≤ 9223372036854775807 := by
  obtain ⟨x, m, rfl, hx⟩ := h.struct Tryz.underlying40 rfl
  match x, hx with
  | .cons a (.cons b .nil), ⟨h1, h2, _⟩ =>
    obtain ⟨ea, r1, p1, q1⟩ := ty_ent h1
    obtain ⟨eb, r2, p2, q2⟩ := ty_ent h2
    exact ⟨⟨ea, eb⟩, RE.st ⟨r1, r2, trivial⟩, p1, p2, q1, q2⟩
theorem ty_fd {f : Nat} {v : V} (h : Ty Tryz.prog f 42 v) : ∃ d, RE v (fdV d) ∧ tyF d := by
  obtain ⟨x, m, rfl, hx⟩ := h.struct Tryz.underlying42 rfl
  match x, hx with
  | .cons a (.cons b (.cons c (.cons d .nil))), ⟨h1, h2, h3, h4, _⟩ =>
    obtain ⟨la, l1, r1⟩ := ty_arr Tryz.underlying25 h1
    obtain ⟨n, es, r2, p2⟩ := ty_ents h2
    obtain ⟨sh, rfl⟩ := h3.bool Tryz.underlying4
    obtain ⟨p, r4, p4, p5, p6⟩ := ty_pf h4
    exact ⟨⟨la, n, es, sh, p⟩, RE.st ⟨r1, r2, RE.refl _, r4, trivial⟩, ⟨l1, p2, p4, p5⟩, p6⟩
theorem ty_fds {f : Nat} {v : V} (h : Ty Tryz.prog f 26 v) : ∃ a : Fds, a.b = false ∧ RE v (fdsV a.b a.n a.l) ∧ tyL a ∧ a.n ≤ maxLen := by
  obtain ⟨n, g, m, rfl, hn, hg⟩ := h.slice Tryz.underlying26 cells47
  have hk : ∀ k, ∃ e, k < n → RE (g k) (fdV e) ∧ tyF e := fun k => by
    by_cases hk : k < n
    · obtain ⟨e, he⟩ := ty_fd (hg k hk)
      exact ⟨e, fun _ => he⟩
    · exact ⟨⟨[], 0, fun _ => ⟨[], 0, [], 0, 0, [], [], []⟩, false, ⟨⟨[], 0, [], 0, 0, [], [], []⟩, ⟨[], 0, [], 0, 0, [], [], []⟩⟩⟩, fun h => absurd h hk⟩
  obtain ⟨es, he⟩ := Classical.axiomOfChoice hk
  exact ⟨⟨false, n, es⟩, rfl, RE.imm fun k hk => (he k hk).1, fun k hk => (he k hk).2, hn⟩
theorem plain22 : plT Tryz.prog 8 26 = true := by kernel_rfl
theorem plain29 : plT Tryz.prog 3 25 = true := by kernel_rfl
theorem ty_op {f : Nat} {v : V} (h : Ty Tryz.prog f 29 v) : ∃ o : Ent, RE v (opV o) := by
  obtain ⟨y, m', rfl, hy⟩ := h.struct Tryz.underlying29 rfl
  match y, hy with
  | .cons k (.cons q (.cons u .nil)), ⟨g1, g2, g3, _⟩ =>
    obtain ⟨kn, rfl, _⟩ := g1.int Tryz.underlying3
    obtain ⟨ky, rfl, _⟩ := g2.string Tryz.underlying9
    obtain ⟨lv, r8, _⟩ := ty_bys g3
    exact ⟨⟨[], 0, [], 0, kn, ky, lv, []⟩, RE.st ⟨RE.refl _, RE.refl _, r8, trivial⟩⟩
theorem plainOp : plT Tryz.prog 3 29 = true := by kernel_rfl
section
variable {H : Type} {enc : TypeId × Value → H} {w : World} {b0 base : Nat} {spare : Nat → Bool} {held : Bool} {x : Value} {d : DataW H} {ps : List MemPlace}
/-- Feeds that a law is handed. -/
theorem open_feeds (hval : Value.okWide Tryz.prog w .any b0 26 x) (h : DataW.Trod enc Tryz.prog w base spare held 26 x d ps) : ∃ a : Fds, T (Env.law w) (fdsV a.b a.n a.l) x ∧ tyL a ∧ a.n ≤ maxLen := by
  obtain ⟨v, h1, h2⟩ := arg_slice Tryz.underlying26 plain22 hval h
  obtain ⟨a, hb, h4, h5, h6⟩ := ty_fds h1
  obtain ⟨b, n, l⟩ := a
  obtain rfl : b = false := hb
  exact ⟨_, h2 _ _ _ h4, h5, h6⟩
/-- An author that a law is handed. -/
theorem open_author (hval : Value.okWide Tryz.prog w .any b0 25 x) (h : DataW.Trod enc Tryz.prog w base spare held 25 x d ps) : ∃ l : List UInt8, T (Env.law w) (arrV 32 l) x ∧ l.length = 32 := by
  obtain ⟨v, h1, h2⟩ := arg_array Tryz.underlying25 plain29 hval h
  obtain ⟨l, h3, h4⟩ := ty_arr Tryz.underlying25 h1
  exact ⟨l, h2 _ rfl h4, h3⟩
/-- An operation that a law is handed. -/
theorem open_op (hval : Value.okWide Tryz.prog w .any b0 29 x) (h : DataW.Trod enc Tryz.prog w base spare held 29 x d ps) : ∃ o : Ent, T (Env.law w) (opV o) x := by
  obtain ⟨v, h1, h2⟩ := arg_struct Tryz.underlying29 plainOp hval h
  obtain ⟨o, h4⟩ := ty_op h1
  exact ⟨o, h2 _ rfl h4⟩
end
/-- What the row lists of package variables. -/
def laidL : List (String × DataW Unit) := [("unicode/utf8.acceptRanges", Rows.laid_unicode_utf8_acceptRanges), ("unicode/utf8.first", Rows.laid_unicode_utf8_first)]
theorem gAcc : Tryz.prog.globalNamed "unicode/utf8.acceptRanges" = some 2 := by kernel_rfl
theorem gFirst : Tryz.prog.globalNamed "unicode/utf8.first" = some 1 := by kernel_rfl
theorem first_eq : ∀ k, k < 256 → Lib.firstT k = (firstB k).toNat := by decide
theorem accLo_eq : ∀ k, k < 16 → Lib.accLo k = (accB k).1.toNat := by decide
theorem accHi_eq : ∀ k, k < 16 → Lib.accHi k = (accB k).2.toNat := by decide
theorem glOk {w : World} (h : laidMet Tryz.prog laidL w) : GlOk G (Env.law w) := by
  have h3 : Lib.VarReads Tryz.prog w "unicode/utf8.first" Lib.firstData := Pinned.utf8First_eq ▸ Lib.laidMet.reads h (.tail _ (.head _))
  have h4 : Lib.VarReads Tryz.prog w "unicode/utf8.acceptRanges" Lib.acceptData := Lib.laidMet.reads h (.head _)
  have c1 : ∀ k, k < 256 → w.cell? ⟨1, k, none⟩ = some (.int .u8 (Lib.firstT k)) := fun c hc => by
    obtain ⟨g, t, cs, fuel, p, hg, hty, hvar, hd⟩ := h3
    obtain rfl := Option.some.inj (gFirst.symm.trans hg)
    obtain rfl := Option.some.inj ((show (Tryz.prog.globals[1]?).map (·.type) = some 268 by kernel_rfl).symm.trans hty)
    have hcs := Lib.cells_of_tab (n := 256) (show Tryz.prog.underlying _ = some (.array 256 5) by kernel_rfl) Tryz.underlying5 cells5 (by kernel_rfl) hd
    rw [World.var?_cell hg hvar c, ← Array.getElem?_toList, hcs]
    simp [Lib.firstTab, hc]
  have c2 : ∀ i, i < 16 → w.cell? ⟨2, 2 * i, none⟩ = some (.int .u8 (Lib.accLo i)) ∧ w.cell? ⟨2, 2 * i + 1, none⟩ = some (.int .u8 (Lib.accHi i)) := fun i hi => by
    obtain ⟨g, t, cs, fuel, p, hg, hty, hvar, hd⟩ := h4
    obtain rfl := Option.some.inj (gAcc.symm.trans hg)
    obtain rfl := Option.some.inj ((show (Tryz.prog.globals[2]?).map (·.type) = some 271 by kernel_rfl).symm.trans hty)
    obtain ⟨fuel', d, q, hdi, he⟩ := Lib.array_elem (n := 16) (e := 270) (by kernel_rfl) hd i hi
    simp only [List.getElem?_map, List.getElem?_range hi, Option.map_some, Option.some.injEq] at hdi
    subst hdi
    rw [show Tryz.prog.cellsOf 270 = 2 by kernel_rfl] at he
    have hcs := Lib.ints_of_struct Tryz.underlying270 (fun j f hj => by
      match j, hj with
      | 0, hj => simp at hj; subst hj; exact ⟨Tryz.underlying5, rfl, cells5⟩
      | 1, hj => simp at hj; subst hj; exact ⟨Tryz.underlying5, rfl, cells5⟩
      | j + 2, hj => simp at hj) (by kernel_rfl) he
    have e0 := congrArg (·[0]?) hcs
    have e1 := congrArg (·[1]?) hcs
    simp only [List.getElem?_take, List.getElem?_drop] at e0 e1
    constructor
    · rw [World.var?_cell hg hvar (2 * i), ← Array.getElem?_toList]
      simpa [Nat.mul_comm] using e0
    · rw [World.var?_cell hg hvar (2 * i + 1), ← Array.getElem?_toList]
      simpa [Nat.mul_comm] using e1
  refine GlOk.two ?_ (cell_lt (c1 0 (by decide))) ?_ (cell_lt (c2 0 (by decide)).1)
  · simp only [firstV, R]
    intro k hk
    refine ⟨rfl, ?_⟩
    show w.cell? ⟨1, 0 + k * 1, none⟩ = _
    rw [Nat.zero_add, Nat.mul_one, c1 k hk, first_eq k hk]
  · simp only [accV, R]
    intro k hk
    refine ⟨rfl, ?_, ?_, trivial⟩
    · show w.cell? ⟨2, 0 + k * 2, none⟩ = _
      rw [Nat.zero_add, Nat.mul_comm, (c2 k hk).1, accLo_eq k hk]
    · show w.cell? ⟨2, 0 + k * 2 + 1, none⟩ = _
      rw [Nat.zero_add, Nat.mul_comm, (c2 k hk).2, accHi_eq k hk]
end Go.Proofs.YtaihjcpfjgpmoaaGreatDoor

/- Facts that all rows of this seat share. -/
namespace Go.Proofs.YtaihjcpfjgpmoaaGreatDoor
open Go.ChangeShapes Go.WideShapes Go.ChangeAt Go.RowKit
set_option linter.unusedVariables false
set_option linter.unusedSimpArgs false
set_option maxRecDepth 100000
theorem laidOut : laidOutB Tryz.prog = true := by kernel_rfl
theorem own : ownKnob Tryz.prog.godebug = none := by kernel_rfl
theorem laid_shape (os : Os) (args : Array Value) : ((World.laidAll Tryz.prog os laidL).forCall (fun _ _ => 0) ⟨#[], args, []⟩).Shaped Tryz.prog := World.shaped_of_ZipB (by kernel_rfl) (by kernel_rfl)
theorem laid_met (os : Os) (args : Array Value) : laidMetH Tryz.prog laidL ((World.laidAll Tryz.prog os laidL).forCall (fun _ _ => 0) ⟨#[], args, []⟩).memory := by
  rw [MakeChecks.laidMetH_plain _ _ _ (by kernel_rfl)]; exact laidMet_laidAll _ (by kernel_rfl) (by kernel_rfl)
theorem glOkH {w : World} (h : laidMetH Tryz.prog laidL w) : Go.DD.GlOk G (Go.DD.Env.law w) := by
  rw [MakeChecks.laidMetH_plain _ _ _ (by kernel_rfl)] at h; exact glOk h
end Go.Proofs.YtaihjcpfjgpmoaaGreatDoor
