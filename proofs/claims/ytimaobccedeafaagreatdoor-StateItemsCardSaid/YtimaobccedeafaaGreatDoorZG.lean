/- Part of the claim: Z57, Z58, Z59, Z60, LawA. -/
import Derived.Test.YtimaobccedeafaaGreatDoorZF
import Derived.Test.YtimaobccedeafaaGreatDoorDC
import Derived.Test.YtimaobccedeafaaGreatDoorRows
import Derived.PinnedBridge
import Derived.Lib.LaidU8
import Derived.FnData
import Derived.WalkKit
import Derived.ProofKit
import Derived.OpenShut
import Derived.ShutString
import Derived.ChangeOld
import Derived.Below
import Derived.SizedLaws
import Derived.Lib.SmallJoins
import Derived.Lay
import Derived.LaidOnce
import Derived.SevenTiedAt
/- feeds.New. -/
namespace Go.Proofs.YtimaobccedeafaaGreatDoor
set_option linter.unusedVariables false
set_option linter.unusedSimpArgs false
set_option maxRecDepth 100000
open Go Go.DD
structure RwA where
  b : Bool
  n : Nat
  l : Rw
def seqV : V := .fn 110 (.cons (.ref 0 []) .nil)
def H77 : SpecH := mkHS (fun (x : RwA) => [seqV, .fn 67 .nil]) (fun x => [some (rowsV x.b x.n x.l)]) (fun x => (1 ≤ x.n ∧ x.n ≤ 8) ∧ ∀ k, k < x.n → (x.l k).length = 32) (fun x => .sl 1 [] 32 0 x.n x.n) (fun x => [some (rowsV x.b x.n x.l), some (rowV32 x.n (sortI x.l (x.n - 1)))])
theorem c108_ok : CtxOk Tryz.prog (ctxG Tryz.f108.ntmps [] [(132, H132)] []) := ctxG_ok Tryz.f108.ntmps [] [(132, H132)] [] .nil (.cons (h132_ok) .nil)
def S108 : SpecH := fun xs h κ => xs.length = 1 ∧ inlineS Tryz.prog (ctxG Tryz.f108.ntmps [] [(132, H132)] []) (bodyOf Tryz.f108) Tryz.f108.results.toList xs h κ
theorem s108_ok : SpecHOk Tryz.prog G 108 S108 := inline_ok (c := bodyOf Tryz.f108) (np := 1) c108_ok Tryz.func108 rfl (by decide) rfl (by decide)
theorem c77_ok : CtxOk Tryz.prog (ctxG Tryz.f77.ntmps [] [(108, S108), (109, H109)] []) := ctxG_ok Tryz.f77.ntmps [] [(108, S108), (109, H109)] [] .nil (.cons (s108_ok) (.cons (hg h109_ok) .nil))
def S77 : SpecH := fun xs h κ => xs.length = 2 ∧ inlineS Tryz.prog (ctxG Tryz.f77.ntmps [] [(108, S108), (109, H109)] []) (bodyOf Tryz.f77) Tryz.f77.results.toList xs h κ
theorem s77_ok : SpecHOk Tryz.prog G 77 S77 := inline_ok (c := bodyOf Tryz.f77) (np := 2) c77_ok Tryz.func77 rfl (by decide) rfl (by decide)
theorem h77_ok : SpecHOk Tryz.prog G 77 H77 := mkHS_ok s77_ok (fun ⟨b, n, l⟩ κ ⟨⟨hn1, hn⟩, hl⟩ h => by
  refine ⟨rfl, ?_⟩
  replace hn : n ≤ 8 := hn
  replace hn1 : 1 ≤ n := hn1
  replace hl : ∀ k, k < n → (l k).length = 32 := hl
  refine vc_ok (CtxOk.inner c77_ok _) mixed 1000 _ [] _ (by kernel_rfl) rfl ?_
  conv => whnf
  refine ⟨rfl, ?_⟩
  refine vc_ok (CtxOk.inner c108_ok _) mixed 1000 _ [] _ (by kernel_rfl) rfl ?_
  conv => whnf
  refine ⟨0, b, n, l, rfl, rfl, ⟨by omega, by omega⟩, ?_⟩
  conv => whnf
  refine ⟨⟨n, l⟩, [some 1], ?_⟩
  conv => whnf
  repeat' (first | (refine And.intro (fun _ => ?_) (fun _ => ?_) <;> conv => whnf) | (refine And.intro ?_ ?_ <;> conv => whnf))
  all_goals try first | exact ⟨rfl⟩ | exact ⟨⟨rfl, rfl⟩⟩ | exact ⟨⟨rfl, rfl, rfl⟩⟩ | exact ⟨by omega⟩ | exact ⟨⟨by omega, by omega⟩⟩ | exact ⟨⟨by omega, by omega, by omega⟩⟩ | exact ⟨fun k _ => leV_refl _ (by simp [arrV, pln, bf])⟩ | exact ⟨⟨hn, hl⟩⟩ | exact ⟨fun _ _ => rfl⟩
  refine ⟨[some 0, some 1], .sl 1 [] 32 0 n n, [some (rowsV b n l), some (rowV32 n (sortI l (n - 1)))], ?_⟩
  conv => whnf
  repeat' (refine And.intro ?_ ?_ <;> conv => whnf)
  all_goals try first | exact ⟨rfl⟩ | exact ⟨⟨rfl, rfl⟩⟩ | exact ⟨⟨rfl, rfl, rfl⟩⟩ | exact ⟨by omega⟩ | exact ⟨⟨by omega, by omega⟩⟩ | exact ⟨⟨by omega, by omega, by omega⟩⟩ | exact ⟨fun k _ => leV_refl _ (by simp [arrV, pln, bf])⟩ | exact ⟨fun _ _ => rfl⟩
  exact h
  ) (fun _ => by simp) (fun _ => by simp [rok, roks]) (fun x u hu => by
    simp at hu
    rcases hu with rfl | rfl
    · simp [rowsV, rok]
    · simp only [rowV32, rok]
      intro k _
      simp only [arrV, noref]
      intro q _
      trivial)
def newFd (a : List UInt8) : Fd := { author := a, n := 0, es := fun _ => ent0, shut := false, pf := ⟨ent0, ent0⟩ }
/-- Two alike beside one another, among the first so many. -/
def dupB (s : Rw) : Nat → Bool | 0 => false | i + 1 => dupB s i || (decide (0 < i) && decide (s i = s (i - 1)))
def newR (x : RwA) : Nat × Rw × Int := if x.n < 1 ∨ 8 < x.n then (0, x.l, 2) else if dupB (sortI x.l (x.n - 1)) x.n then (0, x.l, 11) else (x.n, sortI x.l (x.n - 1), 0)
def F44 : FSpec := mkG (fun (x : RwA) => [rowsV x.b x.n x.l]) (fun x => x.n ≤ 1000000 ∧ ∀ k, k < x.n → (x.l k).length = 32) newR (fun r => .tup (.cons (fdsV false r.1 fun k => newFd (r.2.1 k)) (.cons (.int .i64 r.2.2) .nil)))
theorem c78_ok : CtxOk Tryz.prog (ctxG Tryz.f78.ntmps [] [] []) := ctxG_ok Tryz.f78.ntmps [] [] [] .nil .nil
def S78 : SpecH := fun xs h κ => xs.length = 1 ∧ inlineS Tryz.prog (ctxG Tryz.f78.ntmps [] [] []) (bodyOf Tryz.f78) Tryz.f78.results.toList xs h κ
theorem s78_ok : SpecHOk Tryz.prog G 78 S78 := inline_ok (c := bodyOf Tryz.f78) (np := 1) c78_ok Tryz.func78 rfl (by decide) rfl (by decide)
def newV (a : List UInt8) : V := .st (.cons (arrV 32 a) (.cons .emp (.cons .ff (.cons (.st (.cons zV (.cons zV .nil))) .nil))))
theorem leV_zV (m : List (Option Nat)) : leV m zV (entV ent0) := by
  simp only [zV, entV, leV]
  refine ⟨_, rfl, ?_⟩
  simp only [leVs, leV, opV, byV, arrV, ent0]
  refine ⟨⟨_, rfl, fun k _ => leV_eq (bf_rep 32 k).symm trivial⟩, trivial, ⟨_, rfl, fun k _ => leV_eq (bf_rep 32 k).symm trivial⟩, trivial, ⟨_, rfl, ?_⟩, ⟨_, rfl, fun k _ => leV_eq (bf_rep 64 k).symm trivial⟩, trivial⟩
  simp only [leVs, leV]
  exact ⟨trivial, trivial, .inl (by simp), trivial⟩
theorem leV_new (m : List (Option Nat)) (a : List UInt8) : leV m (newV a) (fdV (newFd a)) := by
  simp only [newV, fdV, leV]
  refine ⟨_, rfl, ?_⟩
  simp only [leVs, leV, newFd, arrV, pfV]
  refine ⟨⟨_, rfl, fun k _ => leV_refl _ trivial⟩, .inl (by simp), rfl, ⟨_, rfl, ?_⟩, trivial⟩
  simp only [leVs]
  exact ⟨leV_zV m, leV_zV m, trivial⟩
theorem dupB_up {s : Rw} {i : Nat} (h : dupB s i = true) : ∀ {n : Nat}, i ≤ n → dupB s n = true
  | n, hn => by
    induction n with
    | zero => obtain rfl : i = 0 := by omega
              exact h
    | succ n ih =>
      rcases Nat.lt_or_ge n i with h1 | h1
      · obtain rfl : i = n + 1 := by omega
        exact h
      · rw [dupB, ih h1, Bool.true_or]
theorem f44_ok : FOk Tryz.prog G 44 F44 := mkG_ok fun ⟨b, n, l⟩ ⟨hn6, hl⟩ => by
  replace hn6 : n ≤ 1000000 := hn6
  replace hl : ∀ k, k < n → (l k).length = 32 := hl
  have hΓ := ctxG_ok Tryz.f44.ntmps [] [(78, S78), (77, H77)] [] .nil (.cons (s78_ok) (.cons (h77_ok) .nil))
  refine CP_of_OK hΓ Tryz.func44 (c := bodyOf Tryz.f44) rfl (by decide) rfl rfl (by simp) (vc_ok hΓ mixed 1000 _ [] _ (by kernel_rfl) rfl ?_)
  conv => whnf
  repeat' (first | (refine And.intro (fun _ => ?_) (fun _ => ?_) <;> conv => whnf) | (refine And.intro ?_ ?_ <;> conv => whnf))
  all_goals (try simp only [decide_eq_true_eq, decide_eq_false_iff_not] at *)
  · rename_i g1
    have e : newR ⟨b, n, l⟩ = (0, l, 2) := if_pos (.inl (by show n < 1; omega))
    rw [e]
    exact Ld.two Ld.emp (by simp) rfl (by simp [fdsV]) rfl
  · rename_i g1 g2
    have e : newR ⟨b, n, l⟩ = (0, l, 2) := if_pos (.inr (by show 8 < n; omega))
    rw [e]
    exact Ld.two Ld.emp (by simp) rfl (by simp [fdsV]) rfl
  all_goals
    rename_i g1 g2
    have hn1 : 1 ≤ n := by omega
    have hn8 : n ≤ 8 := by omega
  · rfl
  refine vc_ok (CtxOk.inner c78_ok _) mixed 1000 _ [] _ (by kernel_rfl) rfl ?_
  conv => whnf
  refine ⟨⟨b, n, l⟩, [some 0], ?_⟩
  conv => whnf
  repeat' (first | (refine And.intro (fun _ => ?_) (fun _ => ?_) <;> conv => whnf) | (refine And.intro ?_ ?_ <;> conv => whnf))
  all_goals try first | exact ⟨rfl⟩ | exact ⟨⟨rfl, rfl⟩⟩ | exact ⟨⟨rfl, rfl, rfl⟩⟩ | exact ⟨by omega⟩ | exact ⟨⟨by omega, by omega⟩⟩ | exact ⟨⟨by omega, by omega, by omega⟩⟩ | exact ⟨fun _ _ => rfl⟩ | exact ⟨⟨⟨hn1, hn8⟩, hl⟩⟩
  have hs := sortI_len hl (m := n - 1) (by omega)
  have e : newR ⟨b, n, l⟩ = if dupB (sortI l (n - 1)) n then (0, l, 11) else (n, sortI l (n - 1), 0) := if_neg (by show ¬ (n < 1 ∨ 8 < n); omega)
  rw [e]
  clear e
  revert hs
  generalize sortI l (n - 1) = s
  intro hs
  refine OK_loopC (ι := Nat) (fun i => [(4, .sl 0 [] 32 0 n n), (5, .sl 1 [] 300 0 i i), (19, .sl 0 [] 32 0 n n), (20, .int .i64 (n : Nat)), (21, .int .i64 (i : Nat))]) (fun i => [some (rowV32 n s), some (.row 300 i fun k => fdV (newFd (s k)))]) (fun i => i ≤ n ∧ dupB s i = false) (fun i => n - i) 0 [some 2, none] ?_ (fun i hi => vc_ok hΓ mixed 1000 _ [] _ (by kernel_rfl) rfl ?_)
  · conv => whnf
    repeat' (first | (refine And.intro (fun _ => ?_) (fun _ => ?_) <;> conv => whnf) | (refine And.intro ?_ ?_ <;> conv => whnf))
    all_goals try first | exact ⟨rfl⟩ | exact ⟨⟨rfl, rfl⟩⟩ | exact ⟨⟨rfl, rfl, rfl⟩⟩ | exact ⟨by omega⟩ | exact ⟨⟨by omega, by omega⟩⟩ | exact ⟨⟨by omega, by omega, by omega⟩⟩ | exact ⟨fun k _ => leV_refl _ (by simp [arrV, pln, bf])⟩
    exact ⟨⟨Nat.zero_le _, rfl⟩⟩
  · obtain ⟨hi1, hi2⟩ := hi
    conv => whnf
    refine And.intro (fun h3 => ?_) (fun h3 => ?_) <;> conv => whnf
    · have hin : i < n := by simpa using h3
      have e1 : 0 < i → IntKind.i64.wrap ((i : Int) - 1) = ((i - 1 : Nat) : Int) := fun h => by rw [wrap_id (by omega) (by omega)]; omega
      have hd : dupB s (i + 1) = (decide (0 < i) && decide (s i = s (i - 1))) := by rw [dupB, hi2, Bool.false_or]
      conv => whnf
      repeat' (first | (refine And.intro (fun _ => ?_) (fun _ => ?_) <;> conv => whnf) | (refine And.intro ?_ ?_ <;> conv => whnf))
      all_goals try first | exact ⟨rfl⟩ | exact ⟨⟨rfl, rfl⟩⟩ | exact ⟨⟨rfl, rfl, rfl⟩⟩ | exact ⟨by omega⟩ | exact ⟨⟨by omega, by omega⟩⟩ | exact ⟨⟨by omega, by omega, by omega⟩⟩ | exact ⟨fun _ _ => rfl⟩
      all_goals (try simp only [decide_eq_true_eq, decide_eq_false_iff_not, Int.toNat_natCast, Nat.zero_add] at *)
      all_goals try (rw [e1 (by omega)] at *)
      all_goals try exact ⟨by omega⟩
      · rename_i g3 g4
        replace g3 : 0 < i := by omega
        have g5 : s i = s (i - 1) := by
          have := (rowEq_bf (hs i hin) (hs (i - 1) (by omega))).symm.trans g4
          exact of_decide_eq_true this
        have hd2 : dupB s n = true := dupB_up (i := i + 1) (by rw [hd, decide_eq_true g3, decide_eq_true g5]; rfl) (show i + 1 ≤ n by omega)
        rw [if_pos hd2]
        exact Ld.two Ld.emp (by simp) rfl (by simp [fdsV]) rfl
      · rename_i g3 g4
        replace g3 : 0 < i := by omega
        have g5 : ¬ s i = s (i - 1) := by
          have := (rowEq_bf (hs i hin) (hs (i - 1) (by omega))).symm.trans g4
          exact of_decide_eq_false this
        rw [decide_eq_false g5, Bool.and_false] at hd
        refine Or.inl ?_
        conv => whnf
        repeat' (first | (refine And.intro (fun _ => ?_) (fun _ => ?_) <;> conv => whnf) | (refine And.intro ?_ ?_ <;> conv => whnf))
        all_goals try first | exact ⟨rfl⟩ | exact ⟨⟨rfl, rfl⟩⟩ | exact ⟨⟨rfl, rfl, rfl⟩⟩ | exact ⟨by omega⟩ | exact ⟨⟨by omega, by omega⟩⟩ | exact ⟨⟨by omega, by omega, by omega⟩⟩
        · exact ⟨by show (i + 1) * 448 ≤ _ ∧ i + 1 ≤ _; omega⟩
        refine ⟨i + 1, [some 0, some 4], ?_⟩
        conv => whnf
        repeat' (refine And.intro ?_ ?_ <;> conv => whnf)
        all_goals try first | exact ⟨rfl⟩ | exact ⟨⟨rfl, rfl⟩⟩ | exact ⟨⟨rfl, rfl, rfl⟩⟩ | exact ⟨by omega⟩ | exact ⟨⟨by omega, by omega⟩⟩ | exact ⟨⟨by omega, by omega, by omega⟩⟩ | exact ⟨fun k _ => leV_refl _ (by simp [arrV, pln, bf])⟩ | exact ⟨by rw [wrap_id (by omega) (by omega)]; rfl⟩
        · refine ⟨fun k hk => ?_⟩
          by_cases hki : k < i
          · exact leV_eq (if_pos hki) (pln_fdV _)
          · obtain rfl : k = i := by omega
            have e : ∀ (F : V), F = newV (s k) → leV [some 0, some 4] F (fdV (newFd (s k))) := fun F e => by rw [e]; exact leV_new _ _
            refine e _ ((if_neg (Nat.lt_irrefl k)).trans ?_)
            rw [Nat.sub_self]
            rfl
        · exact ⟨⟨⟨by omega, hd⟩, by omega⟩⟩
      · rename_i g3
        replace g3 : ¬ 0 < i := by omega
        rw [decide_eq_false g3, Bool.false_and] at hd
        refine Or.inl ?_
        conv => whnf
        repeat' (first | (refine And.intro (fun _ => ?_) (fun _ => ?_) <;> conv => whnf) | (refine And.intro ?_ ?_ <;> conv => whnf))
        all_goals try first | exact ⟨rfl⟩ | exact ⟨⟨rfl, rfl⟩⟩ | exact ⟨⟨rfl, rfl, rfl⟩⟩ | exact ⟨by omega⟩ | exact ⟨⟨by omega, by omega⟩⟩ | exact ⟨⟨by omega, by omega, by omega⟩⟩
        · exact ⟨by show (i + 1) * 448 ≤ _ ∧ i + 1 ≤ _; omega⟩
        refine ⟨i + 1, [some 0, some 4], ?_⟩
        conv => whnf
        repeat' (refine And.intro ?_ ?_ <;> conv => whnf)
        all_goals try first | exact ⟨rfl⟩ | exact ⟨⟨rfl, rfl⟩⟩ | exact ⟨⟨rfl, rfl, rfl⟩⟩ | exact ⟨by omega⟩ | exact ⟨⟨by omega, by omega⟩⟩ | exact ⟨⟨by omega, by omega, by omega⟩⟩ | exact ⟨fun k _ => leV_refl _ (by simp [arrV, pln, bf])⟩ | exact ⟨by rw [wrap_id (by omega) (by omega)]; rfl⟩
        · refine ⟨fun k hk => ?_⟩
          by_cases hki : k < i
          · exact leV_eq (if_pos hki) (pln_fdV _)
          · obtain rfl : k = i := by omega
            have e : ∀ (F : V), F = newV (s k) → leV [some 0, some 4] F (fdV (newFd (s k))) := fun F e => by rw [e]; exact leV_new _ _
            refine e _ ((if_neg (Nat.lt_irrefl k)).trans ?_)
            rw [Nat.sub_self]
            rfl
        · exact ⟨⟨⟨by omega, hd⟩, by omega⟩⟩
    · have hin : i = n := by
        have : ¬ ((i : Nat) : Int) < (n : Nat) := by simpa using h3
        omega
      subst hin
      rw [if_neg (by rw [hi2]; simp)]
      refine vc_ok hΓ mixed 1000 _ [] _ (by kernel_rfl) rfl ?_
      conv => whnf
      conv => whnf
      repeat' (first | (refine And.intro (fun _ => ?_) (fun _ => ?_) <;> conv => whnf) | (refine And.intro ?_ ?_ <;> conv => whnf))
      · exact ⟨by omega⟩
      · exact ⟨fun _ _ => own_fdV _⟩
      · refine Ld.two (Ld.imm fun k _ => ?_) (by simp) rfl (by simp [fdsV]) rfl
        rw [Nat.zero_add]
end Go.Proofs.YtimaobccedeafaaGreatDoor

/- The law's wakes. -/
namespace Go.Proofs.YtimaobccedeafaaGreatDoor
set_option linter.unusedVariables false
set_option linter.unusedSimpArgs false
set_option maxRecDepth 100000
open Go Go.DD
def w1 : List UInt8 := 1 :: List.replicate 31 0
def wF : Fd := newFd w1
theorem w1_look : (lookF wF).2 = true := by decide
theorem w1_ok : feedsOk 1 (fun _ => wF) = true := by decide
theorem w1_pre : preF wF := ⟨rfl, fun k hk => absurd hk (Nat.not_lt_zero _), ⟨wfE_ent0, by decide⟩, ⟨wfE_ent0, by decide⟩⟩
theorem w1_feedB : feedB wF = [0x84, 6, 0x58, 32] ++ w1 ++ [0, 0x58, 32] ++ List.replicate 32 0 := by
  rw [feedB_eq rfl w1_look]
  decide
theorem w1_state : (stateR ⟨false, 1, fun _ => wF⟩) = ([0x84, 6, 0x58, 32] ++ w1 ++ [0, 0x58, 32] ++ List.replicate 32 0, 0) := by
  have hv : viewL 1 (fun _ => wF) = [] := by
    rw [viewL, if_pos w1_ok]; rfl
  rw [stateR, if_pos w1_ok]
  show (feedsB (fun _ => wF) 1 ++ cellsB (viewL 1 fun _ => wF) (viewL 1 fun _ => wF).length, (0 : Int)) = _
  rw [hv]
  show (([] ++ feedB wF) ++ [], (0 : Int)) = _
  rw [w1_feedB]; rfl
def F17 : FSpec := mkG (fun (_ : Unit) => []) (fun _ => True) (fun _ => true) .bool
theorem rowEq_refl (n : Nat) (f : Nat → V) : rowEq n f f = true := by
  simp [rowEq]
theorem f17_ok : FOk Tryz.prog G 17 F17 := mkG_ok fun _ _ => by
  have hΓ := ctxG_ok Tryz.f17.ntmps [(44, F44), (11, F11), (12, F12), (21, F21c), (13, F13)] [] [] (.cons (f44_ok) (.cons (f11_ok) (.cons (f12_ok) (.cons (f21c_ok.g) (.cons (f13_ok) .nil))))) .nil
  refine CP_of_OK hΓ Tryz.func17 (c := bodyOf Tryz.f17) rfl (by decide) rfl rfl (by simp) (vc_ok hΓ mixed 1000 _ [] _ (by kernel_rfl) rfl ?_)
  conv => whnf
  repeat' (first | (refine And.intro (fun _ => ?_) (fun _ => ?_) <;> conv => whnf) | (refine And.intro ?_ ?_ <;> conv => whnf))
  · exact ⟨by decide⟩
  · refine ⟨?_⟩
    intro k hk
    obtain rfl : k = 0 := by omega
    intro q _
    cases q <;> trivial
  refine ⟨⟨true, 1, fun _ => w1⟩, ⟨AE.imm fun k hk => ?_, trivial⟩, ⟨by decide, fun _ _ => rfl⟩, ?_⟩
  · obtain rfl : k = 0 := by omega
    refine congrArg (V.row 1 32) (funext fun q => ?_)
    cases q with
    | zero => rfl
    | succ q =>
      refine (show _ = V.int .u8 0 from rfl).trans ?_
      show V.int .u8 0 = V.int .u8 (((List.replicate 31 (0 : UInt8)).getD q 0).toNat : Nat)
      rw [show (List.replicate 31 (0 : UInt8)).getD q 0 = 0 by rw [List.getD_eq_getElem?_getD, List.getElem?_replicate]; split <;> rfl]
      rfl
  intro r hr
  obtain rfl : r = (1, (fun _ => w1), 0) := hr.trans (by
    have : newR ⟨true, 1, fun _ => w1⟩ = (1, sortI (fun _ => w1) 0, 0) := (if_neg (by decide)).trans (if_neg (by simp [dupB]))
    exact this)
  conv => whnf
  repeat' (first | (refine And.intro (fun _ => ?_) (fun _ => ?_) <;> conv => whnf) | (refine And.intro ?_ ?_ <;> conv => whnf))
  have hpre : ∀ k, k < 1 → preF ((fun _ => wF) k) := fun _ _ => w1_pre
  refine ⟨⟨false, 1, fun _ => wF⟩, ⟨AE.refl _, trivial⟩, ⟨hpre⟩, ?_⟩
  intro r hr
  replace hr : r = stateR ⟨false, 1, fun _ => wF⟩ := hr
  rw [w1_state] at hr
  conv => whnf
  repeat' (first | (refine And.intro (fun _ => ?_) (fun _ => ?_) <;> conv => whnf) | (refine And.intro ?_ ?_ <;> conv => whnf))
  refine ⟨⟨false, 1, fun _ => wF⟩, ⟨AE.refl _, trivial⟩, ⟨hpre⟩, ?_⟩
  intro q hq
  replace hq : q = (sha (stateR ⟨false, 1, fun _ => wF⟩).1, 0) := hq.trans (if_pos w1_ok)
  have hr2 : r.2 = 0 := by rw [hr]
  have hl : r.1.length = 71 := by rw [hr]; rfl
  have b0 : r.1.getD 0 0 = 0x84 := by rw [hr]; rfl
  have b1 : r.1.getD 1 0 = 6 := by rw [hr]; rfl
  have hq2 : q.2 = 0 := by rw [hq]
  have hq1 : q.1 = sha r.1 := by rw [hq, w1_state, hr]
  clear hr hq
  conv => whnf
  repeat' (first | (refine And.intro (fun hp => ?_) (fun hp => ?_) <;> first | (exfalso; revert hp; simp [hr2, hl, b0, b1, hq2, bf, intOfV] <;> omega; done) | conv => whnf) | (refine And.intro ?_ ?_ <;> conv => whnf))
  all_goals try first | exact ⟨rfl⟩ | exact ⟨⟨rfl, rfl⟩⟩ | exact ⟨⟨rfl, rfl, rfl⟩⟩ | exact ⟨by omega⟩ | exact ⟨⟨by omega, by omega⟩⟩ | exact ⟨⟨by omega, by omega, by omega⟩⟩
  · refine ⟨.of false r.1, ⟨AE.refl _, trivial⟩, ⟨trivial, by show r.1.length ≤ 1000000; omega⟩, ?_⟩
    intro u hu
    replace hu : u = sha r.1 := hu
    conv => whnf
    repeat' (first | (refine And.intro (fun _ => ?_) (fun _ => ?_) <;> conv => whnf) | (refine And.intro ?_ ?_ <;> conv => whnf))
    all_goals try exact ⟨fun _ _ => rfl⟩
    · refine ⟨⟨⟨false, 1, fun _ => wF⟩, ⟨false, 1, fun _ => wF⟩⟩, ⟨AE.refl _, AE.refl _, trivial⟩, ⟨hpre, hpre⟩, ?_⟩
      intro z hz
      have hz : z = true := hz.trans (show sameR ⟨⟨false, 1, fun _ => wF⟩, ⟨false, 1, fun _ => wF⟩⟩ = true by simp only [sameR, w1_ok]; rfl)
      conv => whnf
      repeat' (first | (refine And.intro (fun _ => ?_) (fun _ => ?_) <;> conv => whnf) | (refine And.intro ?_ ?_ <;> conv => whnf))
      rw [hz]
      exact Ld.refl _
    · rename_i g
      have e : q.1 = u := hq1.trans hu.symm
      rw [e, rowEq_refl] at g
      cases g
  · exfalso
    rw [show r.1.getD (Int.toNat 1) 0 = 6 from b1] at hp
    cases hp
  · exfalso
    rw [show r.1.getD (Int.toNat 0) 0 = 0x84 from b0] at hp
    cases hp
end Go.Proofs.YtimaobccedeafaaGreatDoor

/- StateExact. -/
namespace Go.Proofs.YtimaobccedeafaaGreatDoor
set_option linter.unusedVariables false
set_option linter.unusedSimpArgs false
set_option maxRecDepth 100000
open Go Go.DD
def F9c : FSpec := mkG (fun (a : Fds) => [fdsV a.b a.n a.l]) (fun _ => True) (fun a => heavy18 a.n a.l) .bool
theorem f9c_ok : FOk Tryz.prog [] 9 F9c where
  sng := fun xs Φ h => by
    obtain ⟨a, ha, hp, h⟩ := h
    exact ⟨_, h _ rfl, fun _ h' => ⟨a, ha, hp, fun r hr => hr ▸ h'⟩⟩
  ok := fun xs Φ h' => by
    obtain ⟨a, ha, hp, h'⟩ := h'
    exact CP.le (fun E l hT => ha.Ts hT) (f9_ok.ok _ Φ ⟨a.b, a.n, a.l, rfl, h' _ rfl⟩)
/-- Feeds as the types have them. -/
def tyL (a : Fds) : Prop := ∀ k, k < a.n → preF (a.l k)
theorem light11 {n : Nat} {es : Nat → Ent} (h : heavy11 n es = false) : n ≤ 300 ∧ ∀ k, k < n → (es k).val.length ≤ 300 := by
  simp only [heavy11, Bool.or_eq_false_iff, decide_eq_false_iff_not] at h
  refine ⟨by omega, fun k hk => ?_⟩
  have := List.any_eq_false.1 h.2 k (List.mem_range.2 hk)
  simp only [heavyE, Bool.or_eq_true, decide_eq_true_eq, not_or] at this
  omega
theorem light {a : Fds} (h : heavy18 a.n a.l = false) (ht : tyL a) : a.n ≤ 20 ∧ ∀ k, k < a.n → preV (a.l k) := by
  simp only [heavy18, Bool.or_eq_false_iff, decide_eq_false_iff_not] at h
  refine ⟨by omega, fun k hk => ⟨ht k hk, ?_⟩⟩
  have h1 : heavy17 (a.l k) = false := by
    have := List.any_eq_false.1 h.1.2 k (List.mem_range.2 hk)
    simpa using this
  simp only [heavy17, Bool.or_eq_false_iff, decide_eq_false_iff_not] at h1
  have h2 := light11 h1.1.2
  have h3 := light11 h1.2
  refine ⟨by omega, fun j hj => ?_, ?_, ?_⟩
  · have := h2.2 j hj
    show ((a.l k).es j).val.length ≤ 1000000
    omega
  · have := h3.2 0 (by omega)
    show (a.l k).pf.a.val.length ≤ 1000000
    simp at this
    omega
  · have := h3.2 1 (by omega)
    show (a.l k).pf.b.val.length ≤ 1000000
    simp at this
    omega
theorem preV.okVF {f : Fd} (h : preV f) : okVF f := by
  obtain ⟨⟨h1, h2, h3, h4⟩, h5, h6, h7, h8⟩ := h
  exact ⟨h1, by omega, fun k hk => ⟨(h2 k hk).1, h6 k hk⟩, ⟨h3.1, h7⟩, ⟨h4.1, h8⟩⟩
theorem eqEs_self (n : Nat) (es : Nat → Ent) : eqEs n es n es = true := by
  simp only [eqEs, allB, Bool.and_eq_true, decide_eq_true_eq, List.all_eq_true]
  exact ⟨trivial, fun k _ => eqE_iff.2 rfl⟩
theorem eqF_self (f : Fd) : eqF f f = true := by
  simp [eqF, eqEs_self, eqP, eqE_iff.2]
theorem eqFs_self (n : Nat) (l : Nat → Fd) : eqFs n l n l = true := by
  simp only [eqFs, allB, Bool.and_eq_true, decide_eq_true_eq, List.all_eq_true]
  exact ⟨trivial, fun k _ => eqF_self _⟩
def F10c : FSpec := mkG (fun (a : Fds) => [fdsV a.b a.n a.l]) (fun a => a.n ≤ 10000 ∧ ∀ k, k < a.n → okFd (a.l k)) (fun a => (⟨false, a.n, a.l⟩ : Fds)) (fun a => fdsV a.b a.n a.l)
theorem f10c_ok : FOk Tryz.prog [] 10 F10c := mkG_of f10_ok
end Go.Proofs.YtimaobccedeafaaGreatDoor

/- What a law of this layer is handed, as plain values. -/
namespace Go.Proofs.YtimaobccedeafaaGreatDoor
set_option linter.unusedVariables false
set_option linter.unusedSimpArgs false
set_option maxRecDepth 100000
open Go Go.DD
theorem cells5 : Tryz.prog.cellsOf 5 = 1 := by kernel_rfl
theorem cells43 : Tryz.prog.cellsOf 43 = 133 := by kernel_rfl
theorem cells47 : Tryz.prog.cellsOf 47 = 300 := by kernel_rfl
theorem ty_arr {f t n : Nat} {v : V} (hu : Tryz.prog.underlying t = some (.array n 5)) (h : Ty Tryz.prog f t v) : ∃ l : List UInt8, l.length = n ∧ RE v (arrV n l) := by
  obtain ⟨g, m, rfl, hg⟩ := h.array hu cells5
  obtain ⟨l, h1, h2⟩ := bytes_of fun k hk => (hg k hk).int Tryz.underlying5
  exact ⟨l, h1, RE.row fun k hk => RE.of (h2 k hk)⟩
theorem ty_bys {f : Nat} {v : V} (h : Ty Tryz.prog f 25 v) : ∃ l : List UInt8, RE v (byV false l) := by
  obtain ⟨n, g, m, rfl, _, hg⟩ := h.slice Tryz.underlying25 cells5
  obtain ⟨l, h1, h2⟩ := bytes_of fun k hk => (hg k hk).int Tryz.underlying5
  subst h1
  exact ⟨l, RE.imm fun k hk => RE.of (h2 k hk)⟩
theorem ty_ent {f : Nat} {v : V} (h : Ty Tryz.prog f 43 v) : ∃ e, RE v (entV e) ∧ preE e := by
  obtain ⟨x, m, rfl, hx⟩ := h.struct Tryz.underlying43 rfl
  match x, hx with
  | .cons a (.cons b (.cons c (.cons d (.cons e (.cons s .nil))))), ⟨h1, h2, h3, h4, h5, h6, _⟩ =>
    obtain ⟨la, l1, r1⟩ := ty_arr Tryz.underlying29 h1
    obtain ⟨sq, rfl, _⟩ := h2.int Tryz.underlying3
    obtain ⟨lp, l3, r3⟩ := ty_arr Tryz.underlying29 h3
    obtain ⟨st, rfl, w4⟩ := h4.int Tryz.underlying3
    obtain ⟨ls, l6, r6⟩ := ty_arr Tryz.underlying41 h6
    obtain ⟨y, m', rfl, hy⟩ := h5.struct Tryz.underlying40 rfl
    match y, hy with
    | .cons k (.cons q (.cons u .nil)), ⟨g1, g2, g3, _⟩ =>
      obtain ⟨kn, rfl, _⟩ := g1.int Tryz.underlying3
      obtain ⟨ky, rfl, _⟩ := g2.string Tryz.underlying9
      obtain ⟨lv, r8⟩ := ty_bys g3
      have hst : st ≤ 9223372036854775807 := (bounds_i64 w4).2
      exact ⟨⟨la, sq, lp, st, kn, ky, lv, ls⟩, RE.st ⟨r1, RE.refl _, r3, RE.refl _, RE.st ⟨RE.refl _, RE.refl _, r8, trivial⟩, r6, trivial⟩, ⟨l1, l3, l6⟩, hst⟩
theorem ty_ents {f : Nat} {v : V} (h : Ty Tryz.prog f 38 v) : ∃ (n : Nat) (es : Nat → Ent), RE v (.imm false 133 n fun k => entV (es k)) ∧ ∀ k, k < n → preE (es k) := by
  obtain ⟨n, g, m, rfl, _, hg⟩ := h.slice Tryz.underlying38 cells43
  have hk : ∀ k, ∃ e, k < n → RE (g k) (entV e) ∧ preE e := fun k => by
    by_cases hk : k < n
    · obtain ⟨e, he⟩ := ty_ent (hg k hk)
      exact ⟨e, fun _ => he⟩
    · exact ⟨⟨[], 0, [], 0, 0, [], [], []⟩, fun h => absurd h hk⟩
  obtain ⟨es, he⟩ := Classical.axiomOfChoice hk
  exact ⟨n, es, RE.imm fun k hk => (he k hk).1, fun k hk => (he k hk).2⟩
theorem ty_pf {f : Nat} {v : V} (h : Ty Tryz.prog f 45 v) : ∃ p, RE v (pfV p) ∧ preE p.a ∧ preE p.b := by
  obtain ⟨x, m, rfl, hx⟩ := h.struct Tryz.underlying45 rfl
  match x, hx with
  | .cons a (.cons b .nil), ⟨h1, h2, _⟩ =>
    obtain ⟨ea, r1, p1⟩ := ty_ent h1
    obtain ⟨eb, r2, p2⟩ := ty_ent h2
    exact ⟨⟨ea, eb⟩, RE.st ⟨r1, r2, trivial⟩, p1, p2⟩
theorem ty_fd {f : Nat} {v : V} (h : Ty Tryz.prog f 47 v) : ∃ d, RE v (fdV d) ∧ preF d := by
  obtain ⟨x, m, rfl, hx⟩ := h.struct Tryz.underlying47 rfl
  match x, hx with
  | .cons a (.cons b (.cons c (.cons d .nil))), ⟨h1, h2, h3, h4, _⟩ =>
    obtain ⟨la, l1, r1⟩ := ty_arr Tryz.underlying29 h1
    obtain ⟨n, es, r2, p2⟩ := ty_ents h2
    obtain ⟨sh, rfl⟩ := h3.bool Tryz.underlying4
    obtain ⟨p, r4, p4⟩ := ty_pf h4
    exact ⟨⟨la, n, es, sh, p⟩, RE.st ⟨r1, r2, RE.refl _, r4, trivial⟩, l1, p2, p4⟩
theorem ty_fds {f : Nat} {v : V} (h : Ty Tryz.prog f 22 v) : ∃ a : Fds, a.b = false ∧ RE v (fdsV a.b a.n a.l) ∧ tyL a ∧ a.n ≤ maxLen := by
  obtain ⟨n, g, m, rfl, hn, hg⟩ := h.slice Tryz.underlying22 cells47
  have hk : ∀ k, ∃ e, k < n → RE (g k) (fdV e) ∧ preF e := fun k => by
    by_cases hk : k < n
    · obtain ⟨e, he⟩ := ty_fd (hg k hk)
      exact ⟨e, fun _ => he⟩
    · exact ⟨⟨[], 0, fun _ => ⟨[], 0, [], 0, 0, [], [], []⟩, false, ⟨⟨[], 0, [], 0, 0, [], [], []⟩, ⟨[], 0, [], 0, 0, [], [], []⟩⟩⟩, fun h => absurd h hk⟩
  obtain ⟨es, he⟩ := Classical.axiomOfChoice hk
  exact ⟨⟨false, n, es⟩, rfl, RE.imm fun k hk => (he k hk).1, fun k hk => (he k hk).2, hn⟩
theorem plain22 : plT Tryz.prog 8 22 = true := by kernel_rfl
theorem plain29 : plT Tryz.prog 3 29 = true := by kernel_rfl
section
variable {H : Type} {enc : TypeId × Value → H} {w : World} {b0 base : Nat} {spare : Nat → Bool} {held : Bool} {x : Value} {d : DataW H} {ps : List MemPlace}
/-- Feeds that a law is handed. -/
theorem open_feeds (hval : Value.okWide Tryz.prog w .any b0 22 x) (h : DataW.Trod enc Tryz.prog w base spare held 22 x d ps) : ∃ a : Fds, T (Env.law w) (fdsV a.b a.n a.l) x ∧ tyL a ∧ a.n ≤ maxLen := by
  obtain ⟨v, h1, h2⟩ := arg_slice Tryz.underlying22 plain22 hval h
  obtain ⟨a, hb, h4, h5, h6⟩ := ty_fds h1
  obtain ⟨b, n, l⟩ := a
  obtain rfl : b = false := hb
  exact ⟨_, h2 _ _ _ h4, h5, h6⟩
/-- An author that a law is handed. -/
theorem open_author (hval : Value.okWide Tryz.prog w .any b0 29 x) (h : DataW.Trod enc Tryz.prog w base spare held 29 x d ps) : ∃ l : List UInt8, T (Env.law w) (arrV 32 l) x ∧ l.length = 32 := by
  obtain ⟨v, h1, h2⟩ := arg_array Tryz.underlying29 plain29 hval h
  obtain ⟨l, h3, h4⟩ := ty_arr Tryz.underlying29 h1
  exact ⟨l, h2 _ rfl h4, h3⟩
end
/-- What the row lists of package variables. -/
def laidL : List (String × DataW Unit) := [("unicode/utf8.acceptRanges", Rows.laid_unicode_utf8_acceptRanges), ("unicode/utf8.first", Rows.laid_unicode_utf8_first)]
theorem gAcc : Tryz.prog.globalNamed "unicode/utf8.acceptRanges" = some 2 := by kernel_rfl
theorem gFirst : Tryz.prog.globalNamed "unicode/utf8.first" = some 1 := by kernel_rfl
theorem first_eq : ∀ k, k < 256 → Lib.firstT k = (firstB k).toNat := by decide
theorem accLo_eq : ∀ k, k < 16 → Lib.accLo k = (accB k).1.toNat := by decide
theorem accHi_eq : ∀ k, k < 16 → Lib.accHi k = (accB k).2.toNat := by decide
theorem glOk {w : World} (h : laidMet Tryz.prog laidL w) : GlOk G (Env.law w) := by
  have h3 : Lib.VarReads Tryz.prog w "unicode/utf8.first" Lib.firstData := Pinned.utf8First_eq ▸ Lib.laidMet.reads h (.tail _ (.head _))
  have h4 : Lib.VarReads Tryz.prog w "unicode/utf8.acceptRanges" Lib.acceptData := Lib.laidMet.reads h (.head _)
  have c1 : ∀ k, k < 256 → w.cell? ⟨1, k, none⟩ = some (.int .u8 (Lib.firstT k)) := fun c hc => by
    obtain ⟨g, t, cs, fuel, p, hg, hty, hvar, hd⟩ := h3
    obtain rfl := Option.some.inj (gFirst.symm.trans hg)
    obtain rfl := Option.some.inj ((show (Tryz.prog.globals[1]?).map (·.type) = some 204 by kernel_rfl).symm.trans hty)
    have hcs := Lib.cells_of_tab (n := 256) (show Tryz.prog.underlying _ = some (.array 256 5) by kernel_rfl) Tryz.underlying5 cells5 (by kernel_rfl) hd
    rw [World.var?_cell hg hvar c, ← Array.getElem?_toList, hcs]
    simp [Lib.firstTab, hc]
  have c2 : ∀ i, i < 16 → w.cell? ⟨2, 2 * i, none⟩ = some (.int .u8 (Lib.accLo i)) ∧ w.cell? ⟨2, 2 * i + 1, none⟩ = some (.int .u8 (Lib.accHi i)) := fun i hi => by
    obtain ⟨g, t, cs, fuel, p, hg, hty, hvar, hd⟩ := h4
    obtain rfl := Option.some.inj (gAcc.symm.trans hg)
    obtain rfl := Option.some.inj ((show (Tryz.prog.globals[2]?).map (·.type) = some 207 by kernel_rfl).symm.trans hty)
    obtain ⟨fuel', d, q, hdi, he⟩ := Lib.array_elem (n := 16) (e := 206) (by kernel_rfl) hd i hi
    simp only [List.getElem?_map, List.getElem?_range hi, Option.map_some, Option.some.injEq] at hdi
    subst hdi
    rw [show Tryz.prog.cellsOf 206 = 2 by kernel_rfl] at he
    have hcs := Lib.ints_of_struct Tryz.underlying206 (fun j f hj => by
      match j, hj with
      | 0, hj => simp at hj; subst hj; exact ⟨Tryz.underlying5, rfl, cells5⟩
      | 1, hj => simp at hj; subst hj; exact ⟨Tryz.underlying5, rfl, cells5⟩
      | j + 2, hj => simp at hj) (by kernel_rfl) he
    have e0 := congrArg (·[0]?) hcs
    have e1 := congrArg (·[1]?) hcs
    simp only [List.getElem?_take, List.getElem?_drop] at e0 e1
    constructor
    · rw [World.var?_cell hg hvar (2 * i), ← Array.getElem?_toList]
      simpa [Nat.mul_comm] using e0
    · rw [World.var?_cell hg hvar (2 * i + 1), ← Array.getElem?_toList]
      simpa [Nat.mul_comm] using e1
  refine GlOk.two ?_ (cell_lt (c1 0 (by decide))) ?_ (cell_lt (c2 0 (by decide)).1)
  · simp only [firstV, R]
    intro k hk
    refine ⟨rfl, ?_⟩
    show w.cell? ⟨1, 0 + k * 1, none⟩ = _
    rw [Nat.zero_add, Nat.mul_one, c1 k hk, first_eq k hk]
  · simp only [accV, R]
    intro k hk
    refine ⟨rfl, ?_, ?_, trivial⟩
    · show w.cell? ⟨2, 0 + k * 2, none⟩ = _
      rw [Nat.zero_add, Nat.mul_comm, (c2 k hk).1, accLo_eq k hk]
    · show w.cell? ⟨2, 0 + k * 2 + 1, none⟩ = _
      rw [Nat.zero_add, Nat.mul_comm, (c2 k hk).2, accHi_eq k hk]
end Go.Proofs.YtimaobccedeafaaGreatDoor

/- Facts that all rows of this seat share. -/
namespace Go.Proofs.YtimaobccedeafaaGreatDoor
open Go.ChangeShapes Go.WideShapes Go.ChangeAt Go.RowKit
set_option linter.unusedVariables false
set_option linter.unusedSimpArgs false
set_option maxRecDepth 100000
theorem laidOut : laidOutB Tryz.prog = true := by kernel_rfl
theorem own : ownKnob Tryz.prog.godebug = none := by kernel_rfl
theorem laid_shape (os : Os) (args : Array Value) : ((World.laidAll Tryz.prog os laidL).forCall (fun _ _ => 0) ⟨#[], args, []⟩).Shaped Tryz.prog := World.shaped_of_ZipB (by kernel_rfl) (by kernel_rfl)
theorem laid_met (os : Os) (args : Array Value) : laidMetH Tryz.prog laidL ((World.laidAll Tryz.prog os laidL).forCall (fun _ _ => 0) ⟨#[], args, []⟩).memory := by
  rw [MakeChecks.laidMetH_plain _ _ _ (by kernel_rfl)]; exact laidMet_laidAll _ (by kernel_rfl) (by kernel_rfl)
theorem glOkH {w : World} (h : laidMetH Tryz.prog laidL w) : Go.DD.GlOk G (Go.DD.Env.law w) := by
  rw [MakeChecks.laidMetH_plain _ _ _ (by kernel_rfl)] at h; exact glOk h
end Go.Proofs.YtimaobccedeafaaGreatDoor
