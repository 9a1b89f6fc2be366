/- Part of the claim: Z63, Z64, Z65. -/
import Derived.Test.YtimaobccedeafaaGreatDoorZH
/- StateSame. -/
namespace Go.Proofs.YtimaobccedeafaaGreatDoor
set_option linter.unusedVariables false
set_option linter.unusedSimpArgs false
set_option maxRecDepth 100000
open Go Go.DD
/-- Feeds in memory of their own. -/
def rowF (n : Nat) (l : Nat → Fd) : V := .row 300 n fun k => fdV (l k)
theorem rok_rowF (n : Nat) (l : Nat → Fd) : rok (rowF n l) := by
  simp only [rowF, rok]
  exact fun k _ => (show noref (fdV (l k)) by simp [fdV, pfV, entV, opV, byV, arrV, bf, noref, norefs])
def H10 : SpecH := mkHS (fun (a : Fds) => [fdsV a.b a.n a.l]) (fun _ => []) (fun a => a.n ≤ 10000 ∧ ∀ k, k < a.n → okFd (a.l k)) (fun a => .sl 0 [] 300 0 a.n a.n) (fun a => [some (rowF a.n a.l)])
theorem c10_ok : CtxOk Tryz.prog (ctx Tryz.f10.ntmps [(28, F28)] []) := ctxOk Tryz.f10.ntmps [(28, F28)] [] (FL.all (.cons f28_ok .nil)) (HL.all .nil)
def S10 : SpecH := fun xs h κ => xs.length = 1 ∧ inlineS Tryz.prog (ctx Tryz.f10.ntmps [(28, F28)] []) (bodyOf Tryz.f10) Tryz.f10.results.toList xs h κ
theorem s10_ok : SpecHOk Tryz.prog [] 10 S10 := inline_ok (c := bodyOf Tryz.f10) (np := 1) c10_ok Tryz.func10 rfl (by decide) rfl (by decide)
theorem h10_ok : SpecHOk Tryz.prog [] 10 H10 := mkHS_ok s10_ok (fun a κ ⟨hn, hv⟩ h => by
  refine ⟨rfl, ?_⟩
  replace hn : a.n ≤ 10000 := hn
  replace hv : ∀ k, k < a.n → okFd (a.l k) := hv
  refine vc_ok (CtxOk.inner c10_ok _) mixed 1000 _ [] _ (by kernel_rfl) rfl ?_
  conv => whnf
  refine OK_loopC (ι := Nat) (fun i => [(0, fdsV a.b a.n a.l), (3, .sl 0 [] 300 0 i i), (4, .int .i64 (i : Nat))]) (fun i => [some (.row 300 i fun k => fdV (a.l k))]) (fun i => i ≤ a.n) (fun i => a.n - i) 0 [none] ?_ (fun i hi => vc_ok (CtxOk.inner c10_ok _) mixed 1000 _ [] _ (by kernel_rfl) rfl ?_)
  · conv => whnf
    repeat' (first | (refine And.intro (fun _ => ?_) (fun _ => ?_) <;> conv => whnf) | (refine And.intro ?_ ?_ <;> conv => whnf))
    all_goals try first | exact ⟨rfl⟩ | exact ⟨⟨rfl, rfl⟩⟩ | exact ⟨⟨rfl, rfl, rfl⟩⟩ | exact ⟨fun _ _ => rfl⟩ | exact ⟨fun _ _ => trivial⟩ | exact ⟨fun k _ => isU8_bf _ k⟩ | exact ⟨by omega⟩ | exact ⟨⟨by omega, by omega⟩⟩ | exact ⟨⟨by omega, by omega, by omega⟩⟩
  · conv => whnf
    repeat' (first | (refine And.intro (fun _ => ?_) (fun _ => ?_) <;> conv => whnf) | (refine And.intro ?_ ?_ <;> conv => whnf))
    all_goals (try simp only [decide_eq_true_eq, decide_eq_false_iff_not, Int.toNat_natCast, Bool.not_eq_true, Bool.not_eq_false] at *)
    all_goals try first | exact ⟨rfl⟩ | exact ⟨⟨rfl, rfl⟩⟩ | exact ⟨⟨rfl, rfl, rfl⟩⟩ | exact ⟨fun _ _ => rfl⟩ | exact ⟨fun _ _ => trivial⟩ | exact ⟨fun k _ => isU8_bf _ k⟩ | exact ⟨by omega⟩ | exact ⟨⟨by omega, by omega⟩⟩ | exact ⟨⟨by omega, by omega, by omega⟩⟩
    · refine ⟨a.l i, rfl, ⟨hv i (by omega)⟩, ?_⟩
      conv => whnf
      refine And.intro (show Ob (_ ≤ _) from ⟨by omega⟩) ?_
      conv => whnf
      refine Or.inl ?_
      conv => whnf
      repeat' (refine And.intro ?_ ?_ <;> conv => whnf)
      all_goals try first | exact ⟨rfl⟩ | exact ⟨⟨rfl, rfl⟩⟩ | exact ⟨⟨rfl, rfl, rfl⟩⟩ | exact ⟨fun _ _ => rfl⟩ | exact ⟨fun _ _ => trivial⟩ | exact ⟨fun k _ => isU8_bf _ k⟩ | exact ⟨by omega⟩ | exact ⟨⟨by omega, by omega⟩⟩ | exact ⟨⟨by omega, by omega, by omega⟩⟩ | exact ⟨⟨by simp only []; omega, by omega⟩⟩
      refine ⟨i + 1, [some 2], ?_⟩
      conv => whnf
      repeat' (refine And.intro ?_ ?_ <;> conv => whnf)
      all_goals try first | exact ⟨rfl⟩ | exact ⟨⟨rfl, rfl⟩⟩ | exact ⟨⟨rfl, rfl, rfl⟩⟩ | exact ⟨fun _ _ => rfl⟩ | exact ⟨fun _ _ => trivial⟩ | exact ⟨fun k _ => isU8_bf _ k⟩ | exact ⟨by omega⟩ | exact ⟨⟨by omega, by omega⟩⟩ | exact ⟨⟨by omega, by omega, by omega⟩⟩
      · exact ⟨by rw [wrap_id (by omega) (by omega)]; rfl⟩
      · refine ⟨?_⟩
        refine leV_snoc ?_ ?_ fun k _ => pln_fdV _
        · exact fun k hk => if_pos hk
        · exact (if_neg (Nat.lt_irrefl i)).trans (by rw [Nat.sub_self]; rfl)
    refine vc_ok (CtxOk.inner c10_ok _) mixed 1000 _ [] _ (by kernel_rfl) rfl ?_
    conv => whnf
    repeat' (refine And.intro ?_ ?_ <;> conv => whnf)
    obtain rfl : i = a.n := by omega
    refine ⟨[some 0], .sl 0 [] 300 0 a.n a.n, [some (rowF a.n a.l)], ?_⟩
    conv => whnf
    repeat' (refine And.intro ?_ ?_ <;> conv => whnf)
    all_goals try first | exact ⟨rfl⟩ | exact ⟨⟨rfl, rfl⟩⟩ | exact ⟨⟨rfl, rfl, rfl⟩⟩ | exact ⟨by omega⟩ | exact ⟨⟨by omega, by omega⟩⟩ | exact ⟨⟨by omega, by omega, by omega⟩⟩ | exact ⟨fun k _ => leV_refl _ (pln_fdV _)⟩
    exact h
  ) (fun _ => by simp) (fun _ => by simp [rok, roks]) (fun x u hu => by
    simp at hu
    subst hu
    exact rok_rowF _ _)
end Go.Proofs.YtimaobccedeafaaGreatDoor

/- Same sets: same states; and the like: in plain lists. -/
namespace Go.Proofs.YtimaobccedeafaaGreatDoor
set_option linter.unusedVariables false
set_option linter.unusedSimpArgs false
set_option maxRecDepth 100000
open Go Go.DD
/-- Without its last entry. -/
def cutF (d : Bool) (f : Fd) : Fd := if d then { f with n := f.n - 1 } else f
theorem folF_congr {author : List UInt8} {es fs : Nat → Ent} : ∀ (n : Nat), (∀ k, k < n → es k = fs k) → folF author es n = folF author fs n
  | 0, _ => rfl
  | n + 1, h => by
    have ih := folF_congr (author := author) n fun k hk => h k (by omega)
    simp only [folF, ih, h n (by omega)]
theorem viewE_congr {es fs : Nat → Ent} {cs : List Ce} : ∀ (n : Nat), (∀ k, k < n → es k = fs k) → viewE es n cs = viewE fs n cs
  | 0, _ => rfl
  | n + 1, h => by
    have ih := viewE_congr (cs := cs) n fun k hk => h k (by omega)
    simp only [viewE, ih, h n (by omega)]
theorem folR_cut {author : List UInt8} {es : Nat → Ent} {n : Nat} (h : (folR author es n).2 = true) : (folR author es (n - 1)).2 = true := by
  unfold folR at h ⊢
  split at h
  · cases h
  · rw [if_neg (by omega)]
    cases hf : (folF author es (n - 1)).2 with
    | true => rfl
    | false => rw [folF_stop hf n (by omega), hf] at h; cases h
theorem look_cut {f : Fd} (h : (lookF f).2 = true) : (lookF { f with n := f.n - 1 }).2 = true := by
  simp only [lookF, Bool.and_eq_true] at h ⊢
  exact ⟨folR_cut h.1, h.2⟩
theorem look_cutF {f : Fd} {d : Bool} (h : (lookF f).2 = true) : (lookF (cutF d f)).2 = true := by
  cases d with
  | false => exact h
  | true => exact look_cut h
theorem cutF_author (d : Bool) (f : Fd) : (cutF d f).author = f.author := by cases d <;> rfl
theorem cutF_shut (d : Bool) (f : Fd) : (cutF d f).shut = f.shut := by cases d <;> rfl
theorem preF_cutF {d : Bool} {f : Fd} (h : preF f) : preF (cutF d f) := by
  cases d with
  | false => exact h
  | true => exact ⟨h.1, fun k hk => h.2.1 k (by have : k < f.n - 1 := hk; omega), h.2.2⟩
theorem feedsOk_iff {n : Nat} {l : Nat → Fd} : feedsOk n l = true ↔ (1 ≤ n ∧ n ≤ 8) ∧ (∀ k, k < n → (lookF (l k)).2 = true) ∧ ∀ k, 0 < k → k < n → cmpB (l (k - 1)).author (l k).author < 0 := by
  simp only [feedsOk, Bool.and_eq_true, decide_eq_true_eq, List.all_eq_true, List.mem_range, oneOk, Bool.or_eq_true]
  constructor
  · rintro ⟨h1, h2⟩
    exact ⟨h1, fun k hk => (h2 k hk).1, fun k h0 hk => (h2 k hk).2.resolve_left (by omega)⟩
  · rintro ⟨h1, h2, h3⟩
    refine ⟨h1, fun k hk => ⟨h2 k hk, ?_⟩⟩
    by_cases h0 : k = 0
    · exact .inl h0
    · exact .inr (h3 k (by omega) hk)
theorem feedsOk_change {n : Nat} {l m : Nat → Fd} (h : feedsOk n l = true) (ha : ∀ k, k < n → (m k).author = (l k).author) (hl : ∀ k, k < n → (lookF (m k)).2 = true) : feedsOk n m = true := by
  rw [feedsOk_iff] at h ⊢
  refine ⟨h.1, hl, fun k h0 hk => ?_⟩
  rw [ha k hk, ha (k - 1) (by omega)]
  exact h.2.2 k h0 hk
theorem feedB_same {f g : Fd} (ha : f.author = g.author) (hs : f.shut = g.shut) (hl : f.shut = false → lastF f = lastF g) : feedB f = feedB g := by
  unfold feedB feedT
  rw [← hs, ← ha]
  cases h : f.shut with
  | true => rfl
  | false => rw [hl h]
theorem fB_congr {n : Nat} {l m : Nat → Fd} (h : ∀ k, k < n → feedB (l k) = feedB (m k)) : feedsB l n = feedsB m n := by
  induction n with
  | zero => rfl
  | succ n ih => simp only [feedsB]; rw [ih fun k hk => h k (by omega), h n (by omega)]
theorem viewN_congr {n : Nat} {l m : Nat → Fd} (h : ∀ k, k < n → (l k).shut = (m k).shut ∧ ((l k).shut = false → (l k).n = (m k).n ∧ ∀ j, j < (l k).n → (l k).es j = (m k).es j)) : viewN l n = viewN m n := by
  induction n with
  | zero => rfl
  | succ n ih =>
    obtain ⟨h1, h2⟩ := h n (by omega)
    simp only [viewN]
    rw [ih fun k hk => h k (by omega), ← h1]
    cases hs : (l n).shut with
    | true => rfl
    | false =>
      obtain ⟨h3, h4⟩ := h2 hs
      simp only [Bool.false_eq_true, if_false]
      rw [← h3]
      exact viewE_congr _ h4
theorem state_congr {n : Nat} {b b' : Bool} {l m : Nat → Fd} (h1 : feedsOk n l = true) (h2 : feedsOk n m = true)
    (h : ∀ k, k < n → (l k).author = (m k).author ∧ (l k).shut = (m k).shut ∧ ((l k).shut = false → lastF (l k) = lastF (m k) ∧ (l k).n = (m k).n ∧ ∀ j, j < (l k).n → (l k).es j = (m k).es j)) :
    stateR ⟨b, n, l⟩ = stateR ⟨b', n, m⟩ := by
  have e1 : feedsB l n = feedsB m n := fB_congr fun k hk => feedB_same (h k hk).1 (h k hk).2.1 fun hs => ((h k hk).2.2 hs).1
  have e2 : viewN l n = viewN m n := viewN_congr fun k hk => ⟨(h k hk).2.1, fun hs => ((h k hk).2.2 hs).2⟩
  simp only [stateR, viewL, h1, h2, if_pos, e1, e2]
theorem alikeE_comm (e f : Ent) : alikeE e f = alikeE f e := by
  simp only [alikeE, eq_comm]
theorem sameFd_comm (f g : Fd) : sameFd f g = sameFd g f := by
  refine boolEq ?_
  simp only [sameFd, Bool.and_eq_true, Bool.or_eq_true, decide_eq_true_eq, allB_iff]
  constructor
  · rintro ⟨⟨h1, h2⟩, h3⟩
    refine ⟨⟨h1.symm, h2.symm⟩, h3.imp (fun h => h2 ▸ h) fun ⟨h4, h5⟩ => ⟨h4.symm, fun k hk => ?_⟩⟩
    rw [alikeE_comm]; exact h5 k (h4 ▸ hk)
  · rintro ⟨⟨h1, h2⟩, h3⟩
    refine ⟨⟨h1.symm, h2.symm⟩, h3.imp (fun h => h2 ▸ h) fun ⟨h4, h5⟩ => ⟨h4.symm, fun k hk => ?_⟩⟩
    rw [alikeE_comm]; exact h5 k (h4 ▸ hk)
theorem sameR_iff {x : SmA} : sameR x = true ↔ feedsOk x.a.n x.a.l = true ∧ feedsOk x.b.n x.b.l = true ∧ x.a.n = x.b.n ∧ ∀ k, k < x.a.n → sameFd (x.a.l k) (x.b.l k) = true := by
  simp only [sameR, Bool.and_eq_true, decide_eq_true_eq, allB_iff, and_assoc]
theorem sameR_comm (a b : Fds) : sameR ⟨a, b⟩ = sameR ⟨b, a⟩ := by
  refine boolEq ?_
  rw [sameR_iff, sameR_iff]
  constructor
  · rintro ⟨h1, h2, h3, h4⟩
    refine ⟨h2, h1, h3.symm, fun k hk => ?_⟩
    rw [sameFd_comm]; exact h4 k (h3 ▸ hk)
  · rintro ⟨h1, h2, h3, h4⟩
    refine ⟨h2, h1, h3.symm, fun k hk => ?_⟩
    rw [sameFd_comm]; exact h4 k (h3 ▸ hk)
theorem sameFd_self_cut (d : Bool) (f : Fd) (h : d = true → f.shut = true) : sameFd f (cutF d f) = true := by
  simp only [sameFd, cutF_author, cutF_shut, Bool.and_eq_true, Bool.or_eq_true, decide_eq_true_eq, allB_iff, true_and]
  cases d with
  | true => exact .inl (h rfl)
  | false => exact .inr ⟨rfl, fun k _ => by simp [cutF, alikeE]⟩
/-- The same sets have the same state. -/
theorem same_state {a b : Fds} (ha : tyL a) (hb : tyL b) (h : sameR ⟨a, b⟩ = true) : (stateR a).1 = (stateR b).1 := by
  obtain ⟨h1, h2, h3, h4⟩ := sameR_iff.1 h
  obtain ⟨ba, n, l⟩ := a
  obtain ⟨bb, m, r⟩ := b
  obtain rfl : n = m := h3
  refine congrArg Prod.fst (state_congr h1 h2 fun k hk => ?_)
  have hs := h4 k hk
  have ok1 := (feedsOk_look h1).2.2 k hk
  have ok2 := (feedsOk_look h2).2.2 k hk
  have p1 := ha k hk
  have p2 := hb k hk
  simp only at hs ok1 ok2 p1 p2
  generalize l k = f at hs ok1 p1 ⊢
  generalize r k = g at hs ok2 p2 ⊢
  simp only [sameFd, Bool.and_eq_true, Bool.or_eq_true, decide_eq_true_eq, allB_iff] at hs
  obtain ⟨⟨e1, e2⟩, e3⟩ := hs
  refine ⟨e1, e2, fun hsh => ?_⟩
  rcases e3 with e3 | ⟨e3, e4⟩
  · rw [hsh] at e3; cases e3
  · have e5 : ∀ j, j < f.n → f.es j = g.es j := fun j hj => by
      have h6 := e4 j hj
      rwa [alikeE_eq (p1.2.1 _ hj) ((look_ents ok1).2 _ hj) (p2.2.1 _ (by omega)) ((look_ents ok2).2 _ (by omega)), eqE_iff] at h6
    refine ⟨?_, e3, e5⟩
    rw [lastR_eq ok1, lastR_eq ok2]
    have e6 : lastR f = lastR g := by
      unfold lastR
      rw [← e3]
      by_cases h0 : f.n = 0
      · rw [if_pos h0, if_pos h0]
      · rw [if_neg h0, if_neg h0, e5 _ (by omega)]
    rw [e6]
/-- What cutting entries of shut feeds does not change. -/
theorem cut_same {b b' : Bool} {n : Nat} {l : Nat → Fd} {d : Nat → Bool} (ta : ∀ k, k < n → preF (l k)) (h : feedsOk n l = true) (hd : ∀ k, d k = true → (l k).shut = true) :
    tyL ⟨b', n, fun k => cutF (d k) (l k)⟩ ∧ feedsOk n (fun k => cutF (d k) (l k)) = true ∧ stateR ⟨b', n, fun k => cutF (d k) (l k)⟩ = stateR ⟨b, n, l⟩ ∧ sameR ⟨⟨b, n, l⟩, ⟨b', n, fun k => cutF (d k) (l k)⟩⟩ = true := by
  have h1 : feedsOk n (fun k => cutF (d k) (l k)) = true := feedsOk_change h (fun k _ => cutF_author _ _) fun k hk => look_cutF ((feedsOk_look h).2.2 k hk)
  refine ⟨fun k hk => preF_cutF (ta k hk), h1, ?_, sameR_iff.2 ⟨h, h1, rfl, fun k hk => sameFd_self_cut _ _ (hd k)⟩⟩
  refine state_congr h1 h fun k hk => ⟨cutF_author _ _, cutF_shut _ _, fun hs => ?_⟩
  have hdk : d k = false := by
    cases hh : d k with
    | false => rfl
    | true => simp only [cutF_shut] at hs; rw [hd k hh] at hs; cases hs
  simp only [hdk, cutF, Bool.false_eq_true, if_false]
  exact ⟨trivial, trivial, fun _ _ => trivial⟩
end Go.Proofs.YtimaobccedeafaaGreatDoor

/- StateSame. -/
namespace Go.Proofs.YtimaobccedeafaaGreatDoor
set_option linter.unusedVariables false
set_option linter.unusedSimpArgs false
set_option maxRecDepth 100000
open Go Go.DD
theorem noref_fdV (f : Fd) : noref (fdV f) := by simp [fdV, pfV, entV, opV, byV, arrV, bf, noref, norefs]
structure CuX where
  i : Nat
  d : Nat → Bool
structure SmW where
  a : Fds
  b : Fds
  w : Int
def F4 : FSpec := mkG (fun (x : SmW) => [fdsV x.a.b x.a.n x.a.l, fdsV x.b.b x.b.n x.b.l, .int .i64 x.w]) (fun x => tyL x.a ∧ tyL x.b) (fun _ => true) .bool
theorem f4_ok : FOk Tryz.prog G 4 F4 := mkG_ok fun ⟨a, b, w⟩ ⟨ta, tb⟩ => by
  replace ta : tyL a := ta
  replace tb : tyL b := tb
  show CP _ _ _ [fdsV a.b a.n a.l, fdsV b.b b.n b.l, .int .i64 w] fun v => Ld v (.bool true)
  have hΓ := ctxG_ok Tryz.f4.ntmps [(9, F9c), (11, F11), (13, F13), (16, F16), (17, F17), (18, F71)] [(10, H10)] [] (.cons (f9c_ok.g) (.cons (f11_ok) (.cons (f13_ok) (.cons (f16_ok) (.cons (f17_ok) (.cons (f18_ok.g) .nil)))))) (.cons (hg h10_ok) .nil)
  refine CP_of_OK hΓ Tryz.func4 (c := bodyOf Tryz.f4) rfl (by decide) rfl rfl (by simp) (vc_ok hΓ mixed 1000 _ [] _ (by kernel_rfl) rfl ?_)
  conv => whnf
  refine ⟨a, ⟨AE.refl _, trivial⟩, ⟨trivial⟩, ?_⟩
  intro r hr
  replace hr : r = heavy18 a.n a.l := hr
  conv => whnf
  repeat' (first | (refine And.intro (fun _ => ?_) (fun _ => ?_) <;> conv => whnf) | (refine And.intro ?_ ?_ <;> conv => whnf))
  · exact Ld.refl _
  rename_i g1
  replace g1 : r = false := g1
  rw [g1] at hr
  refine ⟨b, ⟨AE.refl _, trivial⟩, ⟨trivial⟩, ?_⟩
  intro q hq
  replace hq : q = heavy18 b.n b.l := hq
  conv => whnf
  repeat' (first | (refine And.intro (fun _ => ?_) (fun _ => ?_) <;> conv => whnf) | (refine And.intro ?_ ?_ <;> conv => whnf))
  · exact Ld.refl _
  rename_i g2
  replace g2 : q = false := g2
  rw [g2] at hq
  obtain ⟨la1, la2⟩ := light hr.symm ta
  obtain ⟨lb1, lb2⟩ := light hq.symm tb
  refine ⟨a, ⟨AE.refl _, trivial⟩, ⟨fun k hk => (la2 k hk).set⟩, ?_⟩
  intro u hu
  replace hu : u = feedsOk a.n a.l := hu
  conv => whnf
  repeat' (first | (refine And.intro (fun _ => ?_) (fun _ => ?_) <;> conv => whnf) | (refine And.intro ?_ ?_ <;> conv => whnf))
  · exact Ld.refl _
  rename_i g3
  replace g3 : u = true := by simpa using g3
  rw [g3] at hu
  refine ⟨b, ⟨AE.refl _, trivial⟩, ⟨fun k hk => (lb2 k hk).set⟩, ?_⟩
  intro v hv
  replace hv : v = feedsOk b.n b.l := hv
  conv => whnf
  repeat' (first | (refine And.intro (fun _ => ?_) (fun _ => ?_) <;> conv => whnf) | (refine And.intro ?_ ?_ <;> conv => whnf))
  · exact Ld.refl _
  rename_i g4
  replace g4 : v = true := by simpa using g4
  rw [g4] at hv
  refine ⟨a, [], ?_⟩
  conv => whnf
  repeat' (first | (refine And.intro (fun _ => ?_) (fun _ => ?_) <;> conv => whnf) | (refine And.intro ?_ ?_ <;> conv => whnf))
  all_goals try first | exact ⟨rfl⟩ | exact ⟨⟨rfl, rfl⟩⟩ | exact ⟨⟨rfl, rfl, rfl⟩⟩ | exact ⟨by omega⟩ | exact ⟨⟨by omega, by omega⟩⟩ | exact ⟨⟨by omega, by omega, by omega⟩⟩ | exact ⟨fun _ _ => rfl⟩ | exact ⟨by omega, fun k hk => (la2 k hk).2⟩
  refine OK_loopC (ι := CuX) (fun x => [(0, fdsV a.b a.n a.l), (1, fdsV b.b b.n b.l), (2, .int .i64 w), (7, .sl 0 [] 300 0 a.n a.n), (8, .int .i64 (x.i : Nat))]) (fun x => [some (rowF a.n fun k => cutF (x.d k) (a.l k))]) (fun x => x.i ≤ a.n ∧ ∀ k, x.d k = true → (a.l k).shut = true ∧ 0 < (a.l k).n ∧ k < x.i) (fun x => a.n - x.i) ⟨0, fun _ => false⟩ [some 0] ?_ (fun i hi => vc_ok hΓ mixed 1000 _ [] _ (by kernel_rfl) rfl ?_)
  · conv => whnf
    repeat' (first | (refine And.intro (fun _ => ?_) (fun _ => ?_) <;> conv => whnf) | (refine And.intro ?_ ?_ <;> conv => whnf))
    all_goals try first | exact ⟨rfl⟩ | exact ⟨⟨rfl, rfl⟩⟩ | exact ⟨⟨rfl, rfl, rfl⟩⟩ | exact ⟨by omega⟩ | exact ⟨⟨by omega, by omega⟩⟩ | exact ⟨⟨by omega, by omega, by omega⟩⟩ | exact ⟨fun k _ => leV_refl _ (pln_fdV _)⟩ | exact ⟨Nat.zero_le _, fun k h => by cases h⟩ | exact ⟨fun _ _ => rfl⟩
  · revert hi; revert i; intro y hi
    obtain ⟨hy, hd⟩ := hi
    have hdi : y.d y.i = false := by
      cases h : y.d y.i with
      | false => rfl
      | true => exact absurd (hd _ h).2.2 (Nat.lt_irrefl _)
    have hcut : cutF (y.d y.i) (a.l y.i) = a.l y.i := by rw [hdi]; rfl
    have hstep : ∀ k, y.d k = true → (a.l k).shut = true ∧ 0 < (a.l k).n ∧ k < y.i + 1 := fun k h => ⟨(hd k h).1, (hd k h).2.1, by have := (hd k h).2.2; omega⟩
    conv => whnf
    repeat' (first | (refine And.intro (fun _ => ?_) (fun _ => ?_) <;> conv => whnf) | (refine And.intro ?_ ?_ <;> conv => whnf))
    all_goals (try simp only [decide_eq_true_eq, decide_eq_false_iff_not, Int.toNat_natCast, Nat.zero_add, Int.ofNat_lt, hcut] at *)
    all_goals try first | exact ⟨rfl⟩ | exact ⟨⟨rfl, rfl⟩⟩ | exact ⟨⟨rfl, rfl, rfl⟩⟩ | exact ⟨by omega⟩ | exact ⟨⟨by omega, by omega⟩⟩ | exact ⟨⟨by omega, by omega, by omega⟩⟩ | exact ⟨fun _ _ => rfl⟩ | exact ⟨by rw [IntKind.wrap_u64]; exact Int.emod_nonneg _ (by decide)⟩
    · rename_i hin hsh hpos
      have := (la2 _ hin).2.1
      exact ⟨by rw [wrap_id (by omega) (by omega)]; omega⟩
    · rename_i hin hsh hpos
      refine ⟨⟨y.i + 1, fun k => if k = y.i then true else y.d k⟩, [some 0], ?_⟩
      conv => whnf
      repeat' (refine And.intro ?_ ?_ <;> conv => whnf)
      all_goals try first | exact ⟨rfl⟩ | exact ⟨⟨rfl, rfl⟩⟩ | exact ⟨⟨rfl, rfl, rfl⟩⟩ | exact ⟨by omega⟩ | exact ⟨⟨by omega, by omega⟩⟩ | exact ⟨⟨by omega, by omega, by omega⟩⟩ | exact ⟨fun _ _ => rfl⟩
      · exact ⟨by rw [wrap_id (by omega) (by omega)]; rfl⟩
      · refine ⟨fun k hk => leV_eq ?_ (pln_fdV _)⟩
        by_cases hki : k = y.i
        · subst hki
          refine (if_pos rfl).trans ?_
          show V.st (.cons (arrV 32 _) (.cons (.imm false 133 _ _) (.cons (.bool _) (.cons _ .nil)))) = _
          show _ = fdV (cutF (if y.i = y.i then true else y.d y.i) (a.l y.i))
          rw [if_pos rfl]
          have e1 : (IntKind.i64.wrap (((a.l y.i).n : Int) - 1)).toNat - Int.toNat 0 = (a.l y.i).n - 1 := by
            have := (la2 _ hin).2.1
            rw [wrap_id (by omega) (by omega)]; omega
          have e2 : ∀ k, Int.toNat 0 + k = k := fun k => Nat.zero_add k
          rw [e1]
          simp only [e2]
          rfl
        · refine (if_neg hki).trans ?_
          show _ = fdV (cutF (if k = y.i then true else y.d k) (a.l k))
          rw [if_neg hki]
      · refine ⟨⟨by show y.i + 1 ≤ a.n; omega, fun k hk => ?_⟩, by show a.n - (y.i + 1) < _; omega⟩
        by_cases hki : k = y.i
        · subst hki
          exact ⟨hsh, by omega, Nat.lt_succ_self _⟩
        · exact hstep k (by simpa [hki] using hk)
    · refine ⟨⟨y.i + 1, y.d⟩, [some 0], ?_⟩
      conv => whnf
      repeat' (refine And.intro ?_ ?_ <;> conv => whnf)
      all_goals try first | exact ⟨rfl⟩ | exact ⟨⟨rfl, rfl⟩⟩ | exact ⟨⟨rfl, rfl, rfl⟩⟩ | exact ⟨by omega⟩ | exact ⟨⟨by omega, by omega⟩⟩ | exact ⟨⟨by omega, by omega, by omega⟩⟩ | exact ⟨fun k _ => leV_refl _ (pln_fdV _)⟩ | exact ⟨⟨⟨by show y.i + 1 ≤ a.n; omega, hstep⟩, by show a.n - (y.i + 1) < _; omega⟩⟩ | exact ⟨fun _ _ => rfl⟩
      · exact ⟨by rw [wrap_id (by omega) (by omega)]; rfl⟩
    · refine ⟨⟨y.i + 1, y.d⟩, [some 0], ?_⟩
      conv => whnf
      repeat' (refine And.intro ?_ ?_ <;> conv => whnf)
      all_goals try first | exact ⟨rfl⟩ | exact ⟨⟨rfl, rfl⟩⟩ | exact ⟨⟨rfl, rfl, rfl⟩⟩ | exact ⟨by omega⟩ | exact ⟨⟨by omega, by omega⟩⟩ | exact ⟨⟨by omega, by omega, by omega⟩⟩ | exact ⟨fun k _ => leV_refl _ (pln_fdV _)⟩ | exact ⟨⟨⟨by show y.i + 1 ≤ a.n; omega, hstep⟩, by show a.n - (y.i + 1) < _; omega⟩⟩ | exact ⟨fun _ _ => rfl⟩
      · exact ⟨by rw [wrap_id (by omega) (by omega)]; rfl⟩
    · refine ⟨⟨y.i + 1, y.d⟩, [some 0], ?_⟩
      conv => whnf
      repeat' (refine And.intro ?_ ?_ <;> conv => whnf)
      all_goals try first | exact ⟨rfl⟩ | exact ⟨⟨rfl, rfl⟩⟩ | exact ⟨⟨rfl, rfl, rfl⟩⟩ | exact ⟨by omega⟩ | exact ⟨⟨by omega, by omega⟩⟩ | exact ⟨⟨by omega, by omega, by omega⟩⟩ | exact ⟨fun k _ => leV_refl _ (pln_fdV _)⟩ | exact ⟨⟨⟨by show y.i + 1 ≤ a.n; omega, hstep⟩, by show a.n - (y.i + 1) < _; omega⟩⟩ | exact ⟨fun _ _ => rfl⟩
      · exact ⟨by rw [wrap_id (by omega) (by omega)]; rfl⟩
    have hyn : y.i = a.n := by rename_i hin; omega
    obtain ⟨ca, cb, cc, cd⟩ := cut_same (b := a.b) (b' := true) (d := y.d) ta hu.symm fun k hk => (hd k hk).1
    have sa : (stateR a).2 = 0 := by rw [stateR_err, if_pos hu.symm]
    have sb : (stateR b).2 = 0 := by rw [stateR_err, if_pos hv.symm]
    have hAE : AE (.imm true 300 a.n fun k => (fun k => fdV ((fun k => cutF (y.d k) (a.l k)) k)) (0 + k)) (fdsV true a.n fun k => cutF (y.d k) (a.l k)) := AE.imm fun k _ => by rw [Nat.zero_add]
    have hno : ∀ k, k < a.n → noref ((fun k => fdV ((fun k => cutF (y.d k) (a.l k)) k)) (0 + k)) := fun k _ => noref_fdV _
    refine vc_ok hΓ mixed 1000 _ [] _ (by kernel_rfl) rfl ?_
    conv => whnf
    refine ⟨a, ⟨AE.refl _, trivial⟩, ⟨ta⟩, ?_⟩
    intro s1 hs1
    replace hs1 : s1 = stateR a := hs1
    conv => whnf
    repeat' (first | (refine And.intro (fun _ => ?_) (fun _ => ?_) <;> conv => whnf) | (refine And.intro ?_ ?_ <;> conv => whnf))
    all_goals try first | exact ⟨rfl⟩ | exact ⟨⟨rfl, rfl⟩⟩ | exact ⟨⟨rfl, rfl, rfl⟩⟩ | exact ⟨by omega⟩ | exact ⟨⟨by omega, by omega⟩⟩ | exact ⟨⟨by omega, by omega, by omega⟩⟩ | exact ⟨hno⟩
    refine ⟨⟨true, a.n, fun k => cutF (y.d k) (a.l k)⟩, ⟨hAE, trivial⟩, ⟨ca⟩, ?_⟩
    intro s2 hs2
    replace hs2 : s2 = stateR a := hs2.trans cc
    conv => whnf
    repeat' (first | (refine And.intro (fun _ => ?_) (fun _ => ?_) <;> conv => whnf) | (refine And.intro ?_ ?_ <;> conv => whnf))
    refine ⟨b, ⟨AE.refl _, trivial⟩, ⟨tb⟩, ?_⟩
    intro s3 hs3
    replace hs3 : s3 = stateR b := hs3
    have e1 : s1.2 = 0 := by rw [hs1]; exact sa
    have e2 : s2.2 = 0 := by rw [hs2]; exact sa
    have e3 : s3.2 = 0 := by rw [hs3]; exact sb
    conv => whnf
    repeat' (first | (refine And.intro (fun hp => ?_) (fun hp => ?_) <;> first | (exfalso; revert hp; simp [e1, e2, e3]; done) | conv => whnf) | (refine And.intro ?_ ?_ <;> conv => whnf))
    all_goals try first | exact ⟨rfl⟩ | exact ⟨⟨rfl, rfl⟩⟩ | exact ⟨⟨rfl, rfl, rfl⟩⟩ | exact ⟨by omega⟩ | exact ⟨⟨by omega, by omega⟩⟩ | exact ⟨⟨by omega, by omega, by omega⟩⟩ | exact ⟨hno⟩
    refine ⟨⟨a, ⟨true, a.n, fun k => cutF (y.d k) (a.l k)⟩⟩, ⟨AE.refl _, hAE, trivial⟩, ⟨ta, ca⟩, ?_⟩
    intro t1 ht1
    replace ht1 : t1 = true := ht1.trans cd
    conv => whnf
    repeat' (first | (refine And.intro (fun hp => ?_) (fun hp => ?_) <;> first | (exfalso; revert hp; simp [e1, e2, e3, ht1]; done) | conv => whnf) | (refine And.intro ?_ ?_ <;> conv => whnf))
    all_goals try first | exact ⟨rfl⟩ | exact ⟨⟨rfl, rfl⟩⟩ | exact ⟨⟨rfl, rfl, rfl⟩⟩ | exact ⟨by omega⟩ | exact ⟨⟨by omega, by omega⟩⟩ | exact ⟨⟨by omega, by omega, by omega⟩⟩ | exact ⟨hno⟩
    refine ⟨⟨⟨true, a.n, fun k => cutF (y.d k) (a.l k)⟩, a⟩, ⟨hAE, AE.refl _, trivial⟩, ⟨ca, ta⟩, ?_⟩
    intro t2 ht2
    replace ht2 : t2 = true := ht2.trans ((sameR_comm _ _).trans cd)
    conv => whnf
    repeat' (first | (refine And.intro (fun hp => ?_) (fun hp => ?_) <;> first | (exfalso; revert hp; simp [e1, e2, e3, ht1, ht2]; done) | conv => whnf) | (refine And.intro ?_ ?_ <;> conv => whnf))
    refine ⟨(.of false s1.1, .of false s2.1), ⟨AE.refl _, AE.refl _, trivial⟩, ⟨⟨trivial, by rw [hs1]; exact stateR_len ta⟩, trivial⟩, ?_⟩
    intro t3 ht3
    replace ht3 : t3 = true := ht3.trans (decide_eq_true (by rw [hs1, hs2]))
    conv => whnf
    repeat' (first | (refine And.intro (fun hp => ?_) (fun hp => ?_) <;> first | (exfalso; revert hp; simp [e1, e2, e3, ht1, ht2, ht3]; done) | conv => whnf) | (refine And.intro ?_ ?_ <;> conv => whnf))
    refine ⟨⟨a, b⟩, ⟨AE.refl _, AE.refl _, trivial⟩, ⟨ta, tb⟩, ?_⟩
    intro t4 ht4
    replace ht4 : t4 = sameR ⟨a, b⟩ := ht4
    conv => whnf
    repeat' (first | (refine And.intro (fun _ => ?_) (fun _ => ?_) <;> conv => whnf) | (refine And.intro ?_ ?_ <;> conv => whnf))
    refine ⟨⟨b, a⟩, ⟨AE.refl _, AE.refl _, trivial⟩, ⟨tb, ta⟩, ?_⟩
    intro t5 ht5
    replace ht5 : t5 = t4 := ht5.trans ((sameR_comm _ _).trans ht4.symm)
    subst ht5
    conv => whnf
    repeat' (first | (refine And.intro (fun hp => ?_) (fun hp => ?_) <;> first | (exfalso; revert hp; simp; done) | conv => whnf) | (refine And.intro ?_ ?_ <;> conv => whnf))
    refine ⟨⟨a, b⟩, ⟨AE.refl _, AE.refl _, trivial⟩, ⟨ta, tb⟩, ?_⟩
    intro t6 ht6
    replace ht6 : t6 = t5 := ht6.trans ht4.symm
    subst ht6
    conv => whnf
    repeat' (first | (refine And.intro (fun _ => ?_) (fun _ => ?_) <;> conv => whnf) | (refine And.intro ?_ ?_ <;> conv => whnf))
    · refine ⟨(), trivial, ⟨trivial⟩, ?_⟩
      intro z hz
      obtain rfl : z = true := hz
      conv => whnf
      repeat' (first | (refine And.intro (fun _ => ?_) (fun _ => ?_) <;> conv => whnf) | (refine And.intro ?_ ?_ <;> conv => whnf))
      exact Ld.refl _
    · rename_i g5
      replace g5 : t6 = true := by simpa using g5
      refine ⟨(.of false s1.1, .of false s3.1), ⟨AE.refl _, AE.refl _, trivial⟩, ⟨⟨trivial, by rw [hs1]; exact stateR_len ta⟩, trivial⟩, ?_⟩
      intro t7 ht7
      replace ht7 : t7 = true := ht7.trans (decide_eq_true (by rw [hs1, hs3]; exact same_state ta tb (ht4.symm.trans g5)))
      conv => whnf
      repeat' (first | (refine And.intro (fun hp => ?_) (fun hp => ?_) <;> first | (exfalso; revert hp; simp [ht7]; done) | conv => whnf) | (refine And.intro ?_ ?_ <;> conv => whnf))
      refine ⟨(), trivial, ⟨trivial⟩, ?_⟩
      intro z hz
      obtain rfl : z = true := hz
      conv => whnf
      repeat' (first | (refine And.intro (fun _ => ?_) (fun _ => ?_) <;> conv => whnf) | (refine And.intro ?_ ?_ <;> conv => whnf))
      exact Ld.refl _
end Go.Proofs.YtimaobccedeafaaGreatDoor
