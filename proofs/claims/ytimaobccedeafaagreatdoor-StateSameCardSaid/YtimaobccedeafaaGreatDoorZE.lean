/- Part of the claim: Z43, Z44, Z45, Z46, Z47. -/
import Derived.Test.YtimaobccedeafaaGreatDoorZD
import Derived.Lib.Bytealg
/- The reference: ids, proofs, feeds, sets. -/
namespace Go.Proofs.YtimaobccedeafaaGreatDoor
set_option linter.unusedVariables false
set_option linter.unusedSimpArgs false
set_option maxRecDepth 100000
open Go Go.DD
theorem cmpB_eq (a b : List UInt8) : cmpB a b = Lib.compareBytes a b := Lib.cmp_eq _ _
theorem cmpB_nil : cmpB [] [] = 0 := by rw [cmpB_eq]; rfl
theorem cmpB_cons (a b : UInt8) (l m : List UInt8) : cmpB (a :: l) (b :: m) = if a < b then -1 else if b < a then 1 else cmpB l m := by rw [cmpB_eq, cmpB_eq]; rfl
theorem cmpB_nc (b : UInt8) (m : List UInt8) : cmpB [] (b :: m) = -1 := by rw [cmpB_eq]; rfl
theorem cmpB_cn (b : UInt8) (m : List UInt8) : cmpB (b :: m) [] = 1 := by rw [cmpB_eq]; rfl
theorem less_eq : ∀ a b : List UInt8, Op.bytesLess a b = decide (cmpB a b < 0)
  | [], [] => by rw [cmpB_nil]; rfl
  | [], b :: m => by rw [cmpB_nc]; rfl
  | a :: l, [] => by rw [cmpB_cn]; rfl
  | a :: l, b :: m => by
    rw [cmpB_cons]
    have ih := less_eq l m
    show (decide (a < b) || a == b && Op.bytesLess l m) = _
    by_cases h1 : a < b
    · simp [h1]
    · by_cases h2 : b < a
      · have h3 : ¬ a = b := fun e => by subst e; exact h1 h2
        simp [h1, h2, h3]
      · have h3 : a = b := by
          simp only [UInt8.lt_iff_toNat_lt] at h1 h2
          exact UInt8.toNat_inj.1 (by omega)
        subst h3
        simp [h1, ih]
theorem cmpB_zero : ∀ {a b : List UInt8}, cmpB a b = 0 ↔ a = b
  | [], [] => by simp [cmpB_nil]
  | [], b :: m => by simp [cmpB_nc]
  | a :: l, [] => by simp [cmpB_cn]
  | a :: l, b :: m => by
    rw [cmpB_cons]
    have ih := cmpB_zero (a := l) (b := m)
    simp only [UInt8.lt_iff_toNat_lt]
    constructor
    · intro h
      split at h
      · cases h
      · split at h
        · cases h
        · rw [ih.1 h, UInt8.toNat_inj.1 (show a.toNat = b.toNat by omega)]
    · intro h
      cases h
      rw [if_neg (Nat.lt_irrefl _), if_neg (Nat.lt_irrefl _)]
      exact ih.2 rfl
theorem cmpB_swap : ∀ a b : List UInt8, cmpB b a = - cmpB a b
  | [], [] => by simp [cmpB_nil]
  | [], b :: m => by simp [cmpB_nc, cmpB_cn]
  | a :: l, [] => by simp [cmpB_cn, cmpB_nc]
  | a :: l, b :: m => by
    rw [cmpB_cons, cmpB_cons]
    have ih := cmpB_swap l m
    simp only [UInt8.lt_iff_toNat_lt]
    split
    · first | (rw [if_neg (by omega)]; done) | (rw [if_neg (by omega)]; rfl)
    · split
      · rfl
      · exact ih
theorem cmpB_trans : ∀ {a b c : List UInt8}, cmpB a b < 0 → cmpB b c < 0 → cmpB a c < 0
  | [], [], _, h, _ => by rw [cmpB_nil] at h; omega
  | _ :: _, [], _, h, _ => by rw [cmpB_cn] at h; omega
  | [], _ :: _, [], _, h => by rw [cmpB_cn] at h; omega
  | _ :: _, _ :: _, [], _, h => by rw [cmpB_cn] at h; omega
  | [], _ :: _, _ :: _, _, _ => by rw [cmpB_nc]; omega
  | a :: l, b :: m, c :: n, h1, h2 => by
    rw [cmpB_cons] at h1 h2 ⊢
    simp only [UInt8.lt_iff_toNat_lt] at h1 h2 ⊢
    split at h1
    · split at h2
      · rw [if_pos (by omega)]; omega
      · split at h2
        · omega
        · rw [if_pos (by omega)]; omega
    · split at h1
      · omega
      · split at h2
        · rw [if_pos (by omega)]; omega
        · split at h2
          · omega
          · rw [if_neg (by omega), if_neg (by omega)]
            exact cmpB_trans h1 h2
theorem encE_ok {e : Ent} (hw : wfE e) : (encE e).2 = 0 ↔ entOk e = true := by
  constructor
  · intro h
    unfold encE at h
    split at h
    · assumption
    · cases h
  · intro h
    rw [encE_eq hw h]
theorem idE_ok {e : Ent} (hw : wfE e) : (idE e).2 = 0 ↔ entOk e = true := by
  rw [← encE_ok hw, idE]
  split
  · rename_i h; simp [h]
  · rfl
def F75 : FSpec := mkG (fun (e : Ent) => [entV e]) (fun e => preE e ∧ entOk e = true) (fun e => (idE e).1) (arrV 32)
theorem f75_ok : FOk Tryz.prog G 75 F75 := mkG_ok fun e ⟨he, hok⟩ => by
  have h1 := encE_eq he.1 hok
  have h2 := entTr_len he.1 hok
  have hΓ := ctxG_ok Tryz.f75.ntmps [(107, F107), (50, F50)] [] [] (.cons (f107_ok) (.cons (f50_ok.g) .nil)) .nil
  refine CP_of_OK hΓ Tryz.func75 (c := bodyOf Tryz.f75) rfl (by decide) rfl rfl (by simp) (vc_ok hΓ mixed 1000 _ [] _ (by kernel_rfl) rfl ?_)
  conv => whnf
  repeat' (first | (refine And.intro (fun _ => ?_) (fun _ => ?_) <;> conv => whnf) | (refine And.intro ?_ ?_ <;> conv => whnf))
  all_goals try first | exact ⟨rfl⟩ | exact ⟨⟨rfl, rfl⟩⟩ | exact ⟨⟨rfl, rfl, rfl⟩⟩ | exact ⟨fun _ _ => rfl⟩ | exact ⟨fun _ _ => trivial⟩ | exact ⟨fun k _ => isU8_bf _ k⟩ | exact ⟨by omega⟩ | exact ⟨⟨by omega, by omega⟩⟩ | exact ⟨⟨by omega, by omega, by omega⟩⟩
  refine ⟨e, ⟨AE.refl _, trivial⟩, ⟨he, hok⟩, ?_⟩
  intro r hr
  replace hr : r = (entTr e).by := hr
  conv => whnf
  repeat' (first | (refine And.intro (fun _ => ?_) (fun _ => ?_) <;> conv => whnf) | (refine And.intro ?_ ?_ <;> conv => whnf))
  refine ⟨.of _ _, ⟨AE.refl _, trivial⟩, ⟨trivial, by show r.length ≤ 1000000; rw [hr]; omega⟩, ?_⟩
  intro w hw
  replace hw : w = sha r := hw
  conv => whnf
  repeat' (first | (refine And.intro (fun _ => ?_) (fun _ => ?_) <;> conv => whnf) | (refine And.intro ?_ ?_ <;> conv => whnf))
  all_goals try first | exact ⟨rfl⟩ | exact ⟨⟨rfl, rfl⟩⟩ | exact ⟨⟨rfl, rfl, rfl⟩⟩ | exact ⟨fun _ _ => rfl⟩ | exact ⟨fun _ _ => trivial⟩ | exact ⟨fun k _ => isU8_bf _ k⟩ | exact ⟨by omega⟩ | exact ⟨⟨by omega, by omega⟩⟩ | exact ⟨⟨by omega, by omega, by omega⟩⟩
  rw [show (idE e).1 = w by rw [idE, h1, hw, hr]; rfl]
  exact Ld.refl _
def prfOk (p : Pf) : Bool := decide (ordP p.a p.b < 0)
def F76 : FSpec := mkG (fun (p : Pf) => [pfV p]) (fun p => preE p.a ∧ preE p.b) prfOk .bool
theorem prfOk_eq {p : Pf} (ha : preE p.a) (hb : preE p.b) : prfOk p = (entOk p.a && entOk p.b && decide (p.a.author = p.b.author) && decide (p.a.seq = p.b.seq) && Op.bytesLess (encE p.a).1 (encE p.b).1) := by
  have h1 := encE_ok ha.1
  have h2 := encE_ok hb.1
  rw [less_eq, prfOk, ordP]
  refine boolEq ?_
  simp only [decide_eq_true_eq, Bool.and_eq_true, ← h1, ← h2]
  split
  · rename_i h
    refine ⟨fun h0 => absurd h0 (by decide), fun ⟨⟨⟨⟨a1, a2⟩, a3⟩, a4⟩, _⟩ => ?_⟩
    rcases h with h | h | h | h
    · exact absurd a1 h
    · exact absurd a2 h
    · exact absurd a3 h
    · exact absurd a4 h
  · rename_i h
    simp only [not_or, ne_eq, Decidable.not_not] at h
    simp [h]
theorem f76_ok : FOk Tryz.prog G 76 F76 := mkG_ok fun p ⟨ha, hb⟩ => by
  have hau := rowEq_bf ha.1.1 hb.1.1
  rw [prfOk_eq ha hb]
  have hΓ := ctxG_ok Tryz.f76.ntmps [(74, F74), (107, F107)] [] [] (.cons (f74_ok.g) (.cons (f107_ok) .nil)) .nil
  refine CP_of_OK hΓ Tryz.func76 (c := bodyOf Tryz.f76) rfl (by decide) rfl rfl (by simp) (vc_ok hΓ mixed 1000 _ [] _ (by kernel_rfl) rfl ?_)
  conv => whnf
  repeat' (first | (refine And.intro (fun _ => ?_) (fun _ => ?_) <;> conv => whnf) | (refine And.intro ?_ ?_ <;> conv => whnf))
  all_goals try first | exact ⟨rfl⟩ | exact ⟨⟨rfl, rfl⟩⟩ | exact ⟨⟨rfl, rfl, rfl⟩⟩ | exact ⟨fun _ _ => rfl⟩ | exact ⟨fun _ _ => trivial⟩ | exact ⟨fun k _ => isU8_bf _ k⟩ | exact ⟨by omega⟩ | exact ⟨⟨by omega, by omega⟩⟩ | exact ⟨⟨by omega, by omega, by omega⟩⟩
  refine ⟨p.a, ⟨AE.refl _, trivial⟩, ⟨ha.1⟩, ?_⟩
  intro r hr
  replace hr : r = entOk p.a := hr
  rw [← hr]
  conv => whnf
  repeat' (first | (refine And.intro (fun _ => ?_) (fun _ => ?_) <;> conv => whnf) | (refine And.intro ?_ ?_ <;> conv => whnf))
  all_goals try first | exact ⟨rfl⟩ | exact ⟨⟨rfl, rfl⟩⟩ | exact ⟨⟨rfl, rfl, rfl⟩⟩ | exact ⟨fun _ _ => rfl⟩ | exact ⟨fun _ _ => trivial⟩ | exact ⟨fun k _ => isU8_bf _ k⟩ | exact ⟨by omega⟩ | exact ⟨⟨by omega, by omega⟩⟩ | exact ⟨⟨by omega, by omega, by omega⟩⟩
  · rename_i g1
    replace g1 : r = true := g1
    refine ⟨p.b, ⟨AE.refl _, trivial⟩, ⟨hb.1⟩, ?_⟩
    intro q hq
    replace hq : q = entOk p.b := hq
    rw [← hq]
    conv => whnf
    repeat' (first | (refine And.intro (fun _ => ?_) (fun _ => ?_) <;> conv => whnf) | (refine And.intro ?_ ?_ <;> conv => whnf))
    all_goals try first | exact ⟨rfl⟩ | exact ⟨⟨rfl, rfl⟩⟩ | exact ⟨⟨rfl, rfl, rfl⟩⟩ | exact ⟨fun _ _ => rfl⟩ | exact ⟨fun _ _ => trivial⟩ | exact ⟨fun k _ => isU8_bf _ k⟩ | exact ⟨by omega⟩ | exact ⟨⟨by omega, by omega⟩⟩ | exact ⟨⟨by omega, by omega, by omega⟩⟩ | exact ⟨fun _ _ => rfl⟩
    · rename_i g2 g3 g4
      replace g2 : q = true := g2
      replace g3 : rowEq 32 (bf p.a.author) (bf p.b.author) = true := g3
      rw [hau] at g3
      simp only [decide_eq_true_eq, beq_iff_eq] at g3 g4
      have k1 := encE_eq ha.1 (hr.symm.trans g1)
      have k2 := encE_eq hb.1 (hq.symm.trans g2)
      refine ⟨p.a, ⟨AE.refl _, trivial⟩, ⟨ha, hr.symm.trans g1⟩, ?_⟩
      intro x hx
      replace hx : x = (entTr p.a).by := hx
      conv => whnf
      repeat' (first | (refine And.intro (fun _ => ?_) (fun _ => ?_) <;> conv => whnf) | (refine And.intro ?_ ?_ <;> conv => whnf))
      all_goals try first | exact ⟨rfl⟩ | exact ⟨⟨rfl, rfl⟩⟩ | exact ⟨⟨rfl, rfl, rfl⟩⟩ | exact ⟨fun _ _ => rfl⟩ | exact ⟨fun _ _ => trivial⟩ | exact ⟨fun k _ => isU8_bf _ k⟩ | exact ⟨by omega⟩ | exact ⟨⟨by omega, by omega⟩⟩ | exact ⟨⟨by omega, by omega, by omega⟩⟩
      refine ⟨p.b, ⟨AE.refl _, trivial⟩, ⟨hb, hq.symm.trans g2⟩, ?_⟩
      intro y hy
      replace hy : y = (entTr p.b).by := hy
      conv => whnf
      repeat' (first | (refine And.intro (fun _ => ?_) (fun _ => ?_) <;> conv => whnf) | (refine And.intro ?_ ?_ <;> conv => whnf))
      all_goals try first | exact ⟨rfl⟩ | exact ⟨⟨rfl, rfl⟩⟩ | exact ⟨⟨rfl, rfl, rfl⟩⟩ | exact ⟨fun _ _ => rfl⟩ | exact ⟨fun _ _ => trivial⟩ | exact ⟨fun k _ => isU8_bf _ k⟩ | exact ⟨by omega⟩ | exact ⟨⟨by omega, by omega⟩⟩ | exact ⟨⟨by omega, by omega, by omega⟩⟩
      rw [bytesOf_bf, bytesOf_bf, k1, k2, g1, g2, ← hx, ← hy]
      refine Ld.of (congrArg V.bool (boolEq ?_))
      simp [g3, g4]
    · rename_i g2 g3 g4
      refine Ld.of (congrArg V.bool (boolEq ?_))
      simp only [beq_eq_false_iff_ne, ne_eq] at g4
      simp [g4]
    · rename_i g2 g3
      replace g3 : rowEq 32 (bf p.a.author) (bf p.b.author) = false := g3
      rw [hau] at g3
      refine Ld.of (congrArg V.bool (boolEq ?_))
      simp [g3]
    · rename_i g2
      replace g2 : q = false := g2
      refine Ld.of (congrArg V.bool (boolEq ?_))
      simp [g2]
  · rename_i g1
    replace g1 : r = false := g1
    refine Ld.of (congrArg V.bool ?_)
    rw [g1]; rfl
end Go.Proofs.YtimaobccedeafaaGreatDoor

/- The reference: feeds, sets. -/
namespace Go.Proofs.YtimaobccedeafaaGreatDoor
set_option linter.unusedVariables false
set_option linter.unusedSimpArgs false
set_option maxRecDepth 100000
open Go Go.DD
def lastR (f : Fd) : Int × List UInt8 := if f.n = 0 then (0, z32) else ((f.n : Nat), (idE (f.es (f.n - 1))).1)
theorem folF_last {author : List UInt8} {es : Nat → Ent} {n : Nat} (h : (folF author es (n + 1)).2 = true) : (folF author es (n + 1)).1 = (idE (es n)).1 := by
  simp only [folF] at h ⊢
  split at h
  · rename_i h1; rw [h] at h1; cases h1
  · split at h
    · cases h
    · rename_i h1 h2
      rw [if_neg h1, if_neg h2]
theorem lastR_eq {f : Fd} (h : (lookF f).2 = true) : lastF f = ((lastR f).1, (lastR f).2, 0) := by
  have h1 := lastF_ok h
  have h2 : (folR f.author f.es f.n).2 = true := by
    simp only [lookF, Bool.and_eq_true] at h
    exact h.1
  obtain ⟨hn, _⟩ := look_ents h
  have e2 : folR f.author f.es f.n = folF f.author f.es f.n := if_neg (by omega)
  rw [e2] at h2
  have h3 : (lookF f).1 = (folF f.author f.es f.n).1 := by show (folR f.author f.es f.n).1 = _; rw [e2]
  rw [h1, h3, lastR]
  split
  · rename_i h0
    rw [h0]
    rfl
  · rename_i h0
    obtain ⟨m, hm⟩ : ∃ m, f.n = m + 1 := ⟨f.n - 1, by omega⟩
    rw [hm] at h2 ⊢
    rw [folF_last h2]
    rfl
def F47 : FSpec := mkG (fun (f : Fd) => [fdV f]) (fun f => preF f ∧ f.n ≤ 1000000 ∧ (∀ k, k < f.n → entOk (f.es k) = true)) lastR (fun r => .tup (.cons (.int .i64 r.1) (.cons (arrV 32 r.2) .nil)))
theorem f47_ok : FOk Tryz.prog G 47 F47 := mkG_ok fun f ⟨hf, hn, he⟩ => by
  have hΓ := ctxG_ok Tryz.f47.ntmps [(75, F75)] [] [] (.cons (f75_ok) .nil) .nil
  refine CP_of_OK hΓ Tryz.func47 (c := bodyOf Tryz.f47) rfl (by decide) rfl rfl (by simp) (vc_ok hΓ mixed 1000 _ [] _ (by kernel_rfl) rfl ?_)
  conv => whnf
  refine And.intro (fun h1 => ?_) (fun h1 => ?_) <;> conv => whnf
  · have h2 : f.n = 0 := by
      simp only [beq_iff_eq] at h1
      omega
    rw [lastR, if_pos h2]
    conv => whnf
    repeat' (first | (refine And.intro (fun _ => ?_) (fun _ => ?_) <;> conv => whnf) | (refine And.intro ?_ ?_ <;> conv => whnf))
    · exact ⟨fun _ _ => trivial⟩
    refine Ld.of ?_
    refine congrArg (fun g => V.tup (.cons (.int .i64 0) (.cons (.row 1 32 g) .nil))) ?_
    exact funext fun k => (bf_rep 32 k).symm
  · have h2 : ¬ f.n = 0 := by
      simp only [beq_eq_false_iff_ne, ne_eq] at h1
      omega
    have e0 : IntKind.i64.wrap ((f.n : Int) - 1) = ((f.n - 1 : Nat) : Int) := by rw [wrap_id (by omega) (by omega)]; omega
    rw [lastR, if_neg h2]
    conv => whnf
    repeat' (first | (refine And.intro (fun _ => ?_) (fun _ => ?_) <;> conv => whnf) | (refine And.intro ?_ ?_ <;> conv => whnf))
    · exact ⟨by rw [e0]; omega⟩
    · exact ⟨fun _ _ => trivial⟩
    · exact ⟨fun _ _ => trivial⟩
    · exact ⟨fun _ _ => trivial⟩
    rw [e0, Int.toNat_natCast]
    refine ⟨f.es (f.n - 1), ⟨AE.refl _, trivial⟩, ⟨hf.2.1 _ (by omega), he _ (by omega)⟩, ?_⟩
    intro r hr
    conv => whnf
    repeat' (first | (refine And.intro (fun _ => ?_) (fun _ => ?_) <;> conv => whnf) | (refine And.intro ?_ ?_ <;> conv => whnf))
    all_goals try first | exact ⟨rfl⟩ | exact ⟨⟨rfl, rfl⟩⟩ | exact ⟨⟨rfl, rfl, rfl⟩⟩ | exact ⟨fun _ _ => rfl⟩ | exact ⟨fun _ _ => trivial⟩ | exact ⟨fun k _ => isU8_bf _ k⟩ | exact ⟨by omega⟩ | exact ⟨⟨by omega, by omega⟩⟩ | exact ⟨⟨by omega, by omega, by omega⟩⟩
    rw [hr]
    exact Ld.refl _
/-- Nothing. -/
def ent0 : Ent := ⟨z32, 0, z32, 0, 0, [], [], List.replicate 64 0⟩
theorem eqE_none {e : Ent} : eqE e ent0 = noneE e := by
  refine boolEq ?_
  simp only [eqE, eqO, noneE, Bool.and_eq_true]
  constructor
  · rintro ⟨⟨⟨⟨⟨h1, h2⟩, h3⟩, h4⟩, ⟨h5, h6⟩, h7⟩, h8⟩
    exact ⟨⟨⟨⟨⟨⟨⟨decide_eq_true (of_decide_eq_true h1), decide_eq_true (of_decide_eq_true h2)⟩, decide_eq_true (of_decide_eq_true h3)⟩, decide_eq_true (of_decide_eq_true h4)⟩, decide_eq_true (of_decide_eq_true h8)⟩, decide_eq_true (of_decide_eq_true h5)⟩, decide_eq_true (of_decide_eq_true h6)⟩, decide_eq_true (congrArg List.length (of_decide_eq_true h7))⟩
  · rintro ⟨⟨⟨⟨⟨⟨⟨h1, h2⟩, h3⟩, h4⟩, h8⟩, h5⟩, h6⟩, h7⟩
    exact ⟨⟨⟨⟨⟨decide_eq_true (of_decide_eq_true h1), decide_eq_true (of_decide_eq_true h2)⟩, decide_eq_true (of_decide_eq_true h3)⟩, decide_eq_true (of_decide_eq_true h4)⟩, ⟨decide_eq_true (of_decide_eq_true h5), decide_eq_true (of_decide_eq_true h6)⟩, decide_eq_true (List.length_eq_zero_iff.1 (of_decide_eq_true h7))⟩, decide_eq_true (of_decide_eq_true h8)⟩
theorem wfE_ent0 : wfE ent0 := ⟨by simp [ent0, z32], by simp [ent0, z32], by simp [ent0]⟩
def zV : V := .st (.cons (.row 1 32 fun _ => .int .u8 0) (.cons (.int .i64 0) (.cons (.row 1 32 fun _ => .int .u8 0) (.cons (.int .i64 0) (.cons (.st (.cons (.int .i64 0) (.cons (.str []) (.cons .emp .nil)))) (.cons (.row 1 64 fun _ => .int .u8 0) .nil))))))
theorem LdR_ent0 : LdR zV (entV ent0) := by
  refine LdRs.st (.cons (LdR.row fun k _ => (bf_rep 32 k).symm) (.cons (LdR.refl _) (.cons (LdR.row fun k _ => (bf_rep 32 k).symm) (.cons (LdR.refl _) (.cons ?_ (.cons (LdR.row fun k _ => (bf_rep 64 k).symm) .nil))))))
  exact LdRs.st (.cons (LdR.refl _) (.cons (LdR.refl _) (.cons LdR.emp .nil)))
theorem AE_pf0 : AE (.st (.cons zV (.cons zV .nil))) (pfV ⟨ent0, ent0⟩) := (Ld.st (.cons LdR_ent0 (.cons LdR_ent0 .nil))).1
def okVE (e : Ent) : Prop := preE e ∧ e.val.length ≤ 1000000
def F43 : FSpec := mkG (fun (f : Fd) => [fdV f]) (fun f => preF f ∧ f.pf.a.val.length ≤ 1000000 ∧ f.pf.b.val.length ≤ 1000000) (fun f => (lookF f).2) .bool
theorem f43_ok : FOk Tryz.prog G 43 F43 := mkG_ok fun f ⟨⟨hf1, hf2, hf3, hf4⟩, v1, v2⟩ => by
  have hΓ := ctxG_ok Tryz.f43.ntmps [(73, F73), (74, F74), (75, F75), (76, F76)] [] [] (.cons (f73_ok.g) (.cons (f74_ok.g) (.cons (f75_ok) (.cons (f76_ok) .nil)))) .nil
  refine CP_of_OK hΓ Tryz.func43 (c := bodyOf Tryz.f43) rfl (by decide) rfl rfl (by simp) (vc_ok hΓ mixed 1000 _ [] _ (by kernel_rfl) rfl ?_)
  conv => whnf
  refine And.intro (fun h1 => ?_) (fun h1 => ?_) <;> conv => whnf
  · have h2 : 200 < f.n := by
      have : (200 : Int) < (f.n : Nat) := of_decide_eq_true h1
      omega
    refine Ld.of (congrArg V.bool ?_)
    simp [lookF, folR, h2]
  have h2 : ¬ 200 < f.n := by
    have : ¬ (200 : Int) < (f.n : Nat) := of_decide_eq_false h1
    omega
  have e1 : folR f.author f.es f.n = folF f.author f.es f.n := if_neg h2
  have hl : (lookF f).2 = ((folF f.author f.es f.n).2 && (if f.shut then decide (ordP f.pf.a f.pf.b < 0) && decide (f.pf.a.author = f.author) else noneE f.pf.a && noneE f.pf.b)) := by rw [lookF, e1]
  rw [hl]
  refine OK_loopC (ι := Nat) (fun i => [(1, .ref 0 []), (3, .ref 1 []), (4, .int .i64 (i : Nat))]) (fun i => [some (fdV f), some (arrV 32 (folF f.author f.es i).1)]) (fun i => i ≤ f.n ∧ (folF f.author f.es i).2 = true) (fun i => f.n - i) 0 [some 0, some 1] ?_ (fun i hi => vc_ok hΓ mixed 1000 _ [] _ (by kernel_rfl) rfl ?_)
  · conv => whnf
    repeat' (first | (refine And.intro (fun _ => ?_) (fun _ => ?_) <;> conv => whnf) | (refine And.intro ?_ ?_ <;> conv => whnf))
    all_goals try first | exact ⟨rfl⟩ | exact ⟨⟨rfl, rfl⟩⟩ | exact ⟨⟨rfl, rfl, rfl⟩⟩ | exact ⟨by omega⟩ | exact ⟨⟨by omega, by omega⟩⟩ | exact ⟨⟨by omega, by omega, by omega⟩⟩ | exact ⟨fun k _ => leV_refl _ trivial⟩ | exact ⟨fun _ _ => rfl⟩ | exact ⟨⟨Nat.zero_le _, rfl⟩⟩
    · exact ⟨fun k _ => leV_eq (bf_rep 32 k).symm trivial⟩
  obtain ⟨hi1, hi2⟩ := hi
  conv => whnf
  refine And.intro (fun h3 => ?_) (fun h3 => ?_) <;> conv => whnf
  · have hin : i < f.n := by
      have : ((i : Nat) : Int) < (f.n : Nat) := of_decide_eq_true h3
      omega
    have w0 := hf2 i hin
    have wl := folF_length f.author f.es i
    have ea := rowEq_bf w0.1.1 hf1
    have ep := rowEq_bf w0.1.2.1 wl
    have ew : IntKind.i64.wrap ((i : Int) + 1) = (i : Int) + 1 := wrap_id (by omega) (by omega)
    have hid := idE_ok w0.1
    have hstop : folF f.author f.es (i + 1) = ((folF f.author f.es i).1, false) → Ld (V.bool false) (V.bool ((folF f.author f.es f.n).2 && (if f.shut then decide (ordP f.pf.a f.pf.b < 0) && decide (f.pf.a.author = f.author) else noneE f.pf.a && noneE f.pf.b))) := fun h => by
      rw [folF_stop (i := i + 1) (by rw [h]) f.n (by omega), h]
      exact Ld.refl _
    have hgo : ((idE (f.es i)).2 ≠ 0 ∨ (f.es i).author ≠ f.author ∨ (f.es i).seq ≠ (i : Nat) + 1 ∨ (f.es i).prev ≠ (folF f.author f.es i).1) → folF f.author f.es (i + 1) = ((folF f.author f.es i).1, false) := fun h => by
      simp only [folF]
      rw [if_neg (by simp [hi2]), if_pos h]
    conv => whnf
    repeat' (first | (refine And.intro (fun _ => ?_) (fun _ => ?_) <;> conv => whnf) | (refine And.intro ?_ ?_ <;> conv => whnf))
    all_goals try first | exact ⟨rfl⟩ | exact ⟨⟨rfl, rfl⟩⟩ | exact ⟨⟨rfl, rfl, rfl⟩⟩ | exact ⟨by omega⟩ | exact ⟨⟨by omega, by omega⟩⟩ | exact ⟨⟨by omega, by omega, by omega⟩⟩ | exact ⟨fun _ _ => trivial⟩ | exact ⟨fun _ _ => rfl⟩
    refine ⟨f.es i, ⟨AE.refl _, trivial⟩, ⟨w0.1⟩, ?_⟩
    intro r hr
    replace hr : r = entOk (f.es i) := hr
    rw [← hr] at hid
    conv => whnf
    repeat' (first | (refine And.intro (fun _ => ?_) (fun _ => ?_) <;> conv => whnf) | (refine And.intro ?_ ?_ <;> conv => whnf))
    all_goals try first | exact ⟨rfl⟩ | exact ⟨⟨rfl, rfl⟩⟩ | exact ⟨⟨rfl, rfl, rfl⟩⟩ | exact ⟨by omega⟩ | exact ⟨⟨by omega, by omega⟩⟩ | exact ⟨⟨by omega, by omega, by omega⟩⟩ | exact ⟨fun _ _ => trivial⟩ | exact ⟨fun _ _ => rfl⟩
    all_goals (try simp only [Int.toNat_natCast, ea, ep, ew, Bool.not_eq_true', Bool.not_eq_false', bne_iff_ne, ne_eq, bne_eq_false_iff_eq, decide_eq_true_eq, decide_eq_false_iff_not] at *)
    · rename_i g1
      refine hstop (hgo (.inl fun h => ?_))
      rw [hid.1 h] at g1; cases g1
    · rename_i g1
      exact hstop (hgo (.inr (.inl g1)))
    · rename_i g1
      exact hstop (hgo (.inr (.inr (.inl g1))))
    · rename_i g1
      exact hstop (hgo (.inr (.inr (.inr g1))))
    rename_i g1 g2 g3 g4
    have hs : folF f.author f.es (i + 1) = ((idE (f.es i)).1, true) := by
      simp only [folF]
      rw [if_neg (by simp [hi2]), if_neg ?_]
      rintro (h | h | h | h)
      · exact h (hid.2 g1)
      · exact h g2
      · exact h g3
      · exact h g4
    refine ⟨f.es i, ⟨AE.refl _, trivial⟩, ⟨w0, hr.symm.trans g1⟩, ?_⟩
    intro q hq
    replace hq : q = (idE (f.es i)).1 := hq
    rw [← hq] at hs
    clear hq hid hgo hstop
    conv => whnf
    repeat' (first | (refine And.intro (fun _ => ?_) (fun _ => ?_) <;> conv => whnf) | (refine And.intro ?_ ?_ <;> conv => whnf))
    all_goals try first | exact ⟨rfl⟩ | exact ⟨⟨rfl, rfl⟩⟩ | exact ⟨⟨rfl, rfl, rfl⟩⟩ | exact ⟨by omega⟩ | exact ⟨⟨by omega, by omega⟩⟩ | exact ⟨⟨by omega, by omega, by omega⟩⟩
    refine ⟨i + 1, [some 0, some 1], ?_⟩
    conv => whnf
    repeat' (refine And.intro ?_ ?_ <;> conv => whnf)
    all_goals try first | exact ⟨rfl⟩ | exact ⟨⟨rfl, rfl⟩⟩ | exact ⟨⟨rfl, rfl, rfl⟩⟩ | exact ⟨by omega⟩ | exact ⟨⟨by omega, by omega⟩⟩ | exact ⟨⟨by omega, by omega, by omega⟩⟩ | exact ⟨fun k _ => leV_refl _ trivial⟩ | exact ⟨fun _ _ => rfl⟩
    · exact ⟨by rw [wrap_id (by omega) (by omega)]; rfl⟩
    · exact ⟨fun k _ => leV_eq (by rw [hs]) trivial⟩
    · exact ⟨⟨⟨hin, by rw [hs]⟩, by omega⟩⟩
  · have hin : i = f.n := by
      have : ¬ ((i : Nat) : Int) < (f.n : Nat) := of_decide_eq_false h3
      omega
    subst hin
    refine vc_ok hΓ mixed 1000 _ [] _ (by kernel_rfl) rfl ?_
    conv => whnf
    rw [hi2, Bool.true_and]
    conv => whnf
    repeat' (first | (refine And.intro (fun _ => ?_) (fun _ => ?_) <;> conv => whnf) | (refine And.intro ?_ ?_ <;> conv => whnf))
    all_goals try first | exact ⟨rfl⟩ | exact ⟨⟨rfl, rfl⟩⟩ | exact ⟨⟨rfl, rfl, rfl⟩⟩ | exact ⟨fun _ _ => rfl⟩ | exact ⟨fun _ _ => trivial⟩ | exact ⟨fun k _ => isU8_bf _ k⟩ | exact ⟨by omega⟩ | exact ⟨⟨by omega, by omega⟩⟩ | exact ⟨⟨by omega, by omega, by omega⟩⟩
    · rename_i g1
      replace g1 : f.shut = true := g1
      rw [if_pos g1]
      refine ⟨f.pf, ⟨AE.refl _, trivial⟩, ⟨hf3, hf4⟩, ?_⟩
      intro q hq
      replace hq : q = decide (ordP f.pf.a f.pf.b < 0) := hq
      rw [← hq]
      conv => whnf
      repeat' (first | (refine And.intro (fun _ => ?_) (fun _ => ?_) <;> conv => whnf) | (refine And.intro ?_ ?_ <;> conv => whnf))
      all_goals try first | exact ⟨rfl⟩ | exact ⟨⟨rfl, rfl⟩⟩ | exact ⟨⟨rfl, rfl, rfl⟩⟩ | exact ⟨fun _ _ => rfl⟩ | exact ⟨fun _ _ => trivial⟩ | exact ⟨fun k _ => isU8_bf _ k⟩ | exact ⟨by omega⟩ | exact ⟨⟨by omega, by omega⟩⟩ | exact ⟨⟨by omega, by omega, by omega⟩⟩ | exact ⟨fun _ _ => rfl⟩
      · rename_i g2
        replace g2 : q = true := g2
        rw [g2]
        refine Ld.of (congrArg V.bool ?_)
        exact (rowEq_bf hf3.1.1 hf1).trans (Bool.true_and _).symm
      · rename_i g2
        replace g2 : q = false := g2
        rw [g2]
        exact Ld.refl _
    · rename_i g1
      replace g1 : f.shut = false := g1
      rw [if_neg (by simp [g1])]
      refine ⟨(f.pf, ⟨ent0, ent0⟩), ⟨AE.refl _, AE_pf0, trivial⟩, ⟨⟨hf3.1, v1⟩, ⟨hf4.1, v2⟩, wfE_ent0, wfE_ent0⟩, ?_⟩
      intro q hq
      replace hq : q = (eqE f.pf.a ent0 && eqE f.pf.b ent0) := hq
      rw [eqE_none, eqE_none] at hq
      rw [← hq]
      conv => whnf
      repeat' (first | (refine And.intro (fun _ => ?_) (fun _ => ?_) <;> conv => whnf) | (refine And.intro ?_ ?_ <;> conv => whnf))
      exact Ld.refl _
/-- Sets: the same as the program's. -/
def F16 : FSpec := mkG (fun (a : Fds) => [fdsV a.b a.n a.l]) (fun a => ∀ k, k < a.n → preF (a.l k) ∧ (a.l k).pf.a.val.length ≤ 1000000 ∧ (a.l k).pf.b.val.length ≤ 1000000) (fun a => feedsOk a.n a.l) .bool
theorem f16_ok : FOk Tryz.prog G 16 F16 := mkG_ok fun a hl => by
  have hΓ := ctxG_ok Tryz.f16.ntmps [(42, F42), (43, F43)] [] [] (.cons (f42_ok.g) (.cons (f43_ok) .nil)) .nil
  refine CP_of_OK hΓ Tryz.func16 (c := bodyOf Tryz.f16) rfl (by decide) rfl rfl (by simp) (vc_ok hΓ mixed 1000 _ [] _ (by kernel_rfl) rfl ?_)
  conv => whnf
  refine ⟨((a.n : Nat), 1, 8), ⟨AE.refl _, AE.refl _, AE.refl _, trivial⟩, ⟨trivial⟩, ?_⟩
  intro r hr
  replace hr : r = (decide ((1 : Int) ≤ (a.n : Nat)) && decide (((a.n : Nat) : Int) ≤ 8)) := hr
  conv => whnf
  refine And.intro (fun h1 => ?_) (fun h1 => ?_) <;> conv => whnf
  · have h2 : r = false := by simpa using h1
    rw [h2] at hr
    have hr := hr.symm
    simp only [Bool.and_eq_false_iff, decide_eq_false_iff_not] at hr
    refine Ld.of (congrArg V.bool ?_)
    rw [feedsOk]
    rcases hr with h | h
    · rw [show decide (1 ≤ a.n) = false from decide_eq_false (by omega)]; rfl
    · rw [show decide (a.n ≤ 8) = false from decide_eq_false (by omega), Bool.and_false]; rfl
  have h2 : r = true := by simpa using h1
  rw [h2] at hr
  have hr := hr.symm
  simp only [Bool.and_eq_true, decide_eq_true_eq] at hr
  have e1 : feedsOk a.n a.l = (List.range a.n).all (oneOk a.l) := by
    rw [feedsOk, decide_eq_true (show 1 ≤ a.n by omega), decide_eq_true (show a.n ≤ 8 by omega)]
    simp
  rw [e1]
  refine OK_loopC (ι := Nat) (fun i => [(0, fdsV a.b a.n a.l), (3, .int .i64 (i : Nat))]) (fun i => []) (fun i => i ≤ a.n ∧ (List.range i).all (oneOk a.l) = true) (fun i => a.n - i) 0 [] ?_ (fun i hi => vc_ok hΓ mixed 1000 _ [] _ (by kernel_rfl) rfl ?_)
  · conv => whnf
    repeat' (first | (refine And.intro (fun _ => ?_) (fun _ => ?_) <;> conv => whnf) | (refine And.intro ?_ ?_ <;> conv => whnf))
    all_goals try first | exact ⟨rfl⟩ | exact ⟨⟨rfl, rfl⟩⟩ | exact ⟨⟨rfl, rfl, rfl⟩⟩ | exact ⟨fun _ _ => rfl⟩ | exact ⟨fun _ _ => trivial⟩ | exact ⟨fun k _ => isU8_bf _ k⟩ | exact ⟨by omega⟩ | exact ⟨⟨by omega, by omega⟩⟩ | exact ⟨⟨by omega, by omega, by omega⟩⟩ | exact ⟨⟨Nat.zero_le _, rfl⟩⟩
  obtain ⟨hi1, hi2⟩ := hi
  conv => whnf
  refine And.intro (fun h3 => ?_) (fun h3 => ?_) <;> conv => whnf
  · have hin : i < a.n := by
      have : ((i : Nat) : Int) < (a.n : Nat) := of_decide_eq_true h3
      omega
    conv => whnf
    repeat' (first | (refine And.intro (fun _ => ?_) (fun _ => ?_) <;> conv => whnf) | (refine And.intro ?_ ?_ <;> conv => whnf))
    all_goals try first | exact ⟨rfl⟩ | exact ⟨⟨rfl, rfl⟩⟩ | exact ⟨⟨rfl, rfl, rfl⟩⟩ | exact ⟨by omega⟩ | exact ⟨⟨by omega, by omega⟩⟩ | exact ⟨⟨by omega, by omega, by omega⟩⟩ | exact ⟨fun _ _ => trivial⟩ | exact ⟨fun _ _ => rfl⟩
    refine ⟨a.l i, ⟨AE.refl _, trivial⟩, ⟨hl i hin⟩, ?_⟩
    intro q hq
    replace hq : q = (lookF (a.l i)).2 := hq
    have hone : oneOk a.l i = (q && (decide (i = 0) || decide (cmpB (a.l (i - 1)).author (a.l i).author < 0))) := by rw [hq, oneOk]
    conv => whnf
    repeat' (first | (refine And.intro (fun _ => ?_) (fun _ => ?_) <;> conv => whnf) | (refine And.intro ?_ ?_ <;> conv => whnf))
    all_goals try first | exact ⟨rfl⟩ | exact ⟨⟨rfl, rfl⟩⟩ | exact ⟨⟨rfl, rfl, rfl⟩⟩ | exact ⟨by omega⟩ | exact ⟨⟨by omega, by omega⟩⟩ | exact ⟨⟨by omega, by omega, by omega⟩⟩ | exact ⟨fun _ _ => trivial⟩ | exact ⟨fun _ _ => rfl⟩
    · rename_i g1
      have g2 : q = false := by simpa using g1
      refine Ld.of (congrArg V.bool ?_)
      rw [all_bad hin (show oneOk a.l i = false by rw [hone, g2]; rfl)]
    · exact ⟨fun _ _ => isU8_bf _ _⟩
    · rename_i g1 g2
      have g3 : 0 < ((i : Nat) : Int) := of_decide_eq_true g2
      exact ⟨by rw [wrap_id (by omega) (by omega)]; omega⟩
    · exact ⟨fun _ _ => isU8_bf _ _⟩
    · rename_i g1 g2 g3
      have g4 : 0 < ((i : Nat) : Int) := of_decide_eq_true g2
      have e0 : (IntKind.i64.wrap ((i : Int) - 1)).toNat = i - 1 := by rw [wrap_id (by omega) (by omega)]; omega
      rw [e0, Int.toNat_natCast i, sub32 (hl i hin).1.1, sub32 (hl (i - 1) (by omega)).1.1, less_eq] at g3
      refine Ld.of (congrArg V.bool ?_)
      rw [all_bad hin (show oneOk a.l i = false from ?_)]
      have g5 : ¬ cmpB (a.l (i - 1)).author (a.l i).author < 0 := fun h => by
        have h6 := cmpB_swap (a.l (i - 1)).author (a.l i).author
        simp only [Bool.or_eq_true, decide_eq_true_eq, beq_iff_eq] at g3
        rcases g3 with g3 | g3
        · omega
        · rw [← cmpB_zero] at g3
          have g3 : cmpB (a.l i).author (a.l (i - 1)).author = 0 := g3
          omega
      rw [hone, decide_eq_false g5, decide_eq_false (show ¬ i = 0 by omega)]
      simp
    · rename_i g1 g2 g3
      have g4 : 0 < ((i : Nat) : Int) := of_decide_eq_true g2
      have e0 : (IntKind.i64.wrap ((i : Int) - 1)).toNat = i - 1 := by rw [wrap_id (by omega) (by omega)]; omega
      rw [e0, Int.toNat_natCast i, sub32 (hl i hin).1.1, sub32 (hl (i - 1) (by omega)).1.1, less_eq] at g3
      have g5 : cmpB (a.l (i - 1)).author (a.l i).author < 0 := by
        have h6 := cmpB_swap (a.l (i - 1)).author (a.l i).author
        simp only [Bool.or_eq_false_iff, decide_eq_false_iff_not, beq_eq_false_iff_ne, ne_eq] at g3
        have h7 : ¬ cmpB (a.l i).author (a.l (i - 1)).author = 0 := fun h => g3.2 (cmpB_zero.1 h)
        omega
      have g6 : q = true := by simpa using g1
      refine ⟨i + 1, [], ?_⟩
      conv => whnf
      repeat' (refine And.intro ?_ ?_ <;> conv => whnf)
      all_goals try first | exact ⟨rfl⟩ | exact ⟨⟨rfl, rfl⟩⟩ | exact ⟨⟨rfl, rfl, rfl⟩⟩ | exact ⟨fun _ _ => rfl⟩ | exact ⟨fun _ _ => trivial⟩ | exact ⟨fun k _ => isU8_bf _ k⟩ | exact ⟨by omega⟩ | exact ⟨⟨by omega, by omega⟩⟩ | exact ⟨⟨by omega, by omega, by omega⟩⟩
      · exact ⟨by rw [wrap_id (by omega) (by omega)]; rfl⟩
      · refine ⟨⟨⟨hin, ?_⟩, by omega⟩⟩
        rw [List.range_succ, List.all_append, hi2]
        simp [hone, g6, g5]
    · rename_i g1 g2
      have g4 : ¬ 0 < ((i : Nat) : Int) := of_decide_eq_false g2
      have g5 : i = 0 := by omega
      have g6 : q = true := by simpa using g1
      refine ⟨i + 1, [], ?_⟩
      conv => whnf
      repeat' (refine And.intro ?_ ?_ <;> conv => whnf)
      all_goals try first | exact ⟨rfl⟩ | exact ⟨⟨rfl, rfl⟩⟩ | exact ⟨⟨rfl, rfl, rfl⟩⟩ | exact ⟨fun _ _ => rfl⟩ | exact ⟨fun _ _ => trivial⟩ | exact ⟨fun k _ => isU8_bf _ k⟩ | exact ⟨by omega⟩ | exact ⟨⟨by omega, by omega⟩⟩ | exact ⟨⟨by omega, by omega, by omega⟩⟩
      · exact ⟨by rw [wrap_id (by omega) (by omega)]; rfl⟩
      · refine ⟨⟨⟨hin, ?_⟩, by omega⟩⟩
        rw [List.range_succ, List.all_append, hi2]
        rw [g6, g5] at hone
        simp only [List.all_cons, List.all_nil, g5, hone]
        rfl
  · have hin : i = a.n := by
      have : ¬ ((i : Nat) : Int) < (a.n : Nat) := of_decide_eq_false h3
      omega
    subst hin
    refine vc_ok hΓ mixed 1000 _ [] _ (by kernel_rfl) rfl ?_
    conv => whnf
    rw [hi2]
    exact Ld.refl _
end Go.Proofs.YtimaobccedeafaaGreatDoor

/- The reference: items, which of two cells is later. -/
namespace Go.Proofs.YtimaobccedeafaaGreatDoor
set_option linter.unusedVariables false
set_option linter.unusedSimpArgs false
set_option maxRecDepth 100000
open Go Go.DD
theorem f45_ok : FOk Tryz.prog [] 45 F31 := mkF_ok fun n _ Φ h => by
  have hΓ := ctxOk Tryz.f45.ntmps [] [] (FL.all .nil) (HL.all .nil)
  refine CP_of_OK hΓ Tryz.func45 (c := bodyOf Tryz.f45) rfl (by decide) rfl rfl (by simp) (vc_ok hΓ mixed 1000 _ [] _ (by kernel_rfl) rfl ?_)
  conv => whnf
  repeat' (first | (refine And.intro (fun _ => ?_) (fun _ => ?_) <;> conv => whnf) | (refine And.intro ?_ ?_ <;> conv => whnf))
  exact h
def F46 : FSpec := mkG (fun (b : List UInt8) => [arrV 32 b]) (fun b => b.length = 32) (fun b => bytT false b) tokV
theorem f46_ok : FOk Tryz.prog [] 46 F46 := mkG_ok fun b hb => by
  have hΓ := ctxOk Tryz.f46.ntmps [(79, F79)] [] (FL.all (.cons f79_ok .nil)) (HL.all .nil)
  refine CP_of_OK hΓ Tryz.func46 (c := bodyOf Tryz.f46) rfl (by decide) rfl rfl (by simp) (vc_ok hΓ mixed 1000 _ [] _ (by kernel_rfl) rfl ?_)
  conv => whnf
  repeat' (first | (refine And.intro (fun _ => ?_) (fun _ => ?_) <;> conv => whnf) | (refine And.intro ?_ ?_ <;> conv => whnf))
  all_goals try first | exact ⟨rfl⟩ | exact ⟨⟨rfl, rfl⟩⟩ | exact ⟨⟨rfl, rfl, rfl⟩⟩ | exact ⟨fun _ _ => rfl⟩ | exact ⟨fun _ _ => trivial⟩ | exact ⟨fun k _ => isU8_bf _ k⟩ | exact ⟨by omega⟩ | exact ⟨⟨by omega, by omega⟩⟩ | exact ⟨⟨by omega, by omega, by omega⟩⟩ | exact ⟨fun k _ => isU8_bf _ (0 + k)⟩ | exact ⟨fun k _ => own_bf _ _⟩
  refine Ld.of ?_
  show V.st (.cons (.int .i64 3) (.cons (.int .i64 0) (.cons (.imm false 1 _ _) .nil))) = V.st (.cons (.int .i64 3) (.cons (.int .i64 0) (.cons (.imm false 1 b.length (bf b)) .nil)))
  rw [hb]
  simp
def lessC (e : Ent) (id : List UInt8) (c : Ce) : Bool := if e.stamp ≠ c.stamp then decide (c.stamp < e.stamp) else if e.author ≠ c.author then decide (0 < cmpB e.author c.author) else decide (0 < cmpB id c.id)
structure LtA where
  e : Ent
  id : List UInt8
  c : Ce
def F81 : FSpec := mkG (fun (a : LtA) => [entV a.e, arrV 32 a.id, cellV a.c]) (fun a => wfE a.e ∧ a.id.length = 32 ∧ wfC a.c) (fun a => lessC a.e a.id a.c) .bool
theorem f81_ok : FOk Tryz.prog [] 81 F81 := mkG_ok fun ⟨e, id, c⟩ ⟨he, hid, hc⟩ => by
  show CP _ _ _ [entV e, arrV 32 id, cellV c] fun v => Ld v (.bool (lessC e id c))
  have hb : ∀ l : List UInt8, l.length = 32 → bytesOf (((32 : Nat) : Int).toNat - Int.toNat 0) (fun k => bf l (Int.toNat 0 + k)) = l := fun l hl => by
    refine Eq.trans ?_ (bytesOf_bf l)
    rw [hl]
    exact congrArg (bytesOf 32) (funext fun k => congrArg (bf l) (Nat.zero_add k))
  have hg : ∀ l m : List UInt8, (!(Op.bytesLess l m || l == m)) = decide (0 < cmpB l m) := fun l m => by
    rw [less_eq]
    refine boolEq ?_
    simp only [Bool.not_eq_true', Bool.or_eq_false_iff, decide_eq_false_iff_not, beq_eq_false_iff_ne, ne_eq, decide_eq_true_eq, ← cmpB_zero (a := l) (b := m)]
    omega
  have ha := rowEq_bf he.1 hc.1
  have hΓ := ctxOk Tryz.f81.ntmps [] [] (FL.all .nil) (HL.all .nil)
  refine CP_of_OK hΓ Tryz.func81 (c := bodyOf Tryz.f81) rfl (by decide) rfl rfl (by simp) (vc_ok hΓ mixed 1000 _ [] _ (by kernel_rfl) rfl ?_)
  conv => whnf
  repeat' (first | (refine And.intro (fun _ => ?_) (fun _ => ?_) <;> conv => whnf) | (refine And.intro ?_ ?_ <;> conv => whnf))
  all_goals try first | exact ⟨rfl⟩ | exact ⟨⟨rfl, rfl⟩⟩ | exact ⟨⟨rfl, rfl, rfl⟩⟩ | exact ⟨fun _ _ => rfl⟩ | exact ⟨fun _ _ => trivial⟩ | exact ⟨fun k _ => isU8_bf _ k⟩ | exact ⟨by omega⟩ | exact ⟨⟨by omega, by omega⟩⟩ | exact ⟨⟨by omega, by omega, by omega⟩⟩ | exact ⟨fun k _ => isU8_bf _ (0 + k)⟩ | exact ⟨fun k _ => isInt_bf _ _⟩
  all_goals simp only [bne_iff_ne, bne_eq_false_iff_eq, Bool.not_eq_true', Bool.not_eq_false', ha, decide_eq_true_eq, decide_eq_false_iff_not] at *
  · rename_i g1
    refine Ld.of (congrArg V.bool ?_)
    exact (if_pos g1).symm
  · rename_i g1 g2
    refine Ld.of (congrArg V.bool ?_)
    refine ((congr (congrArg (fun x y => !(Op.bytesLess x y || x == y)) (hb _ he.1)) (hb _ hc.1)).trans (hg _ _)).trans ?_
    exact ((if_neg (by simp [g1])).trans (if_pos g2)).symm
  · rename_i g1 g2
    refine Ld.of (congrArg V.bool ?_)
    refine ((congr (congrArg (fun x y => !(Op.bytesLess x y || x == y)) (hb _ hid)) (hb _ hc.2)).trans (hg _ _)).trans ?_
    exact ((if_neg (by simp [g1])).trans (if_neg (by simp [g2]))).symm
theorem orI_three (f : Nat → Int) : orI f 3 = if f 0 ≠ 0 then f 0 else if f 1 ≠ 0 then f 1 else f 2 := by
  have h1 : orI f 1 = f 0 := if_neg (by simp [orI])
  have h2 : orI f 2 = if f 0 ≠ 0 then f 0 else f 1 := by rw [← h1]; rfl
  have h3 : orI f 3 = if orI f 2 ≠ 0 then orI f 2 else f 2 := rfl
  rw [h3, h2]
  by_cases h : f 0 ≠ 0
  · simp [h]
  · simp [h]
theorem lessC_eq {e : Ent} {id : List UInt8} {c d : Ce} (h1 : d.stamp = e.stamp) (h2 : d.author = e.author) (h3 : d.id = id) : decide (0 < laterC d c) = lessC e id c := by
  have k1 := cmpB_zero (a := e.author) (b := c.author)
  have k2 : laterC d c = if cmpI d.stamp c.stamp ≠ 0 then cmpI d.stamp c.stamp else if cmpB d.author c.author ≠ 0 then cmpB d.author c.author else cmpB d.id c.id := orI_three _
  rw [h1, h2, h3] at k2
  by_cases g1 : e.stamp = c.stamp
  · have g2 : cmpI e.stamp c.stamp = 0 := by simp [cmpI, g1]
    by_cases g3 : e.author = c.author
    · simp [k2, lessC, g1, g2, g3, k1.2 g3]
      simp [g3] at k1
      simp [cmpI, k1]
    · have g4 : ¬ cmpB e.author c.author = 0 := fun h => g3 (k1.1 h)
      simp [k2, lessC, g1, g2, g3, g4, cmpI]
  · have g3 : laterC d c = cmpI e.stamp c.stamp := by
      rw [k2, if_pos]
      unfold cmpI
      split
      · decide
      · split
        · decide
        · omega
    have g4 : lessC e id c = decide (c.stamp < e.stamp) := if_pos g1
    rw [g3, g4]
    refine decide_eq_decide.2 ?_
    unfold cmpI
    by_cases a1 : e.stamp < c.stamp
    · rw [if_pos a1]; omega
    · rw [if_neg a1, if_pos (by omega)]; omega
/-- Cells in the order of their keys. -/
def Srt (cs : List Ce) : Prop := ∀ i j, i < j → j < cs.length → cmpB (gce cs i).key (gce cs j).key < 0
theorem bsI_spec {c : Nat → Int} {n : Nat} : ∀ i j, i ≤ j → j ≤ n → (∀ k, k < i → c k < 0) → (∀ k, j ≤ k → k < n → ¬ c k < 0) → (∀ a b, a ≤ b → b < n → c b < 0 → c a < 0) → (∀ k, k < bsI c i j → c k < 0) ∧ (∀ k, bsI c i j ≤ k → k < n → ¬ c k < 0) := by
  intro i j
  induction i, j using bsI.induct c with
  | case1 i j h1 h2 ih =>
    intro hij hj hlo hhi hm
    rw [bsI, if_pos h1, if_pos h2]
    exact ih (by omega) hj (fun k hk => hm k ((i + j) / 2) (by omega) (by omega) h2) hhi hm
  | case2 i j h1 h2 ih =>
    intro hij hj hlo hhi hm
    rw [bsI, if_pos h1, if_neg h2]
    exact ih (by omega) (by omega) hlo (fun k hk hk2 h => h2 (hm _ k hk hk2 h)) hm
  | case3 i j h1 =>
    intro hij hj hlo hhi hm
    rw [bsI, if_neg h1]
    exact ⟨hlo, fun k hk hk2 => hhi k (by omega) hk2⟩
theorem cmpK_mono {cs : List Ce} (h : Srt cs) (key : List UInt8) : ∀ a b, a ≤ b → b < cs.length → cmpK (gce cs) key b < 0 → cmpK (gce cs) key a < 0 := fun a b hab hb h1 => by
  rcases Nat.lt_or_ge a b with h2 | h2
  · exact cmpB_trans (h a b h2 hb) h1
  · obtain rfl : a = b := by omega
    exact h1
theorem bsR_lin {cs : List Ce} (h : Srt cs) {key : List UInt8} {k : Nat} (h1 : k ≤ cs.length) (h2 : ∀ j, j < k → cmpB (gce cs j).key key < 0) (h3 : k < cs.length → ¬ cmpB (gce cs k).key key < 0) : bsR ⟨true, cs.length, gce cs, key⟩ = (k, decide (k < cs.length) && decide ((gce cs k).key = key)) := by
  obtain ⟨g1, g2⟩ := bsI_spec (c := cmpK (gce cs) key) (n := cs.length) 0 cs.length (Nat.zero_le _) (Nat.le_refl _) (fun k hk => absurd hk (by omega)) (fun k hk hk2 => absurd hk2 (by omega)) (cmpK_mono h key)
  have hle := bsI_le (cmpK (gce cs) key) 0 cs.length (Nat.zero_le _)
  have hk : bsI (cmpK (gce cs) key) 0 cs.length = k := by
    rcases Nat.lt_trichotomy (bsI (cmpK (gce cs) key) 0 cs.length) k with hlt | he | hgt
    · exact absurd (h2 _ hlt) (g2 _ (Nat.le_refl _) (by omega))
    · exact he
    · exact absurd (g1 _ hgt) (h3 (by omega))
  rw [bsR]
  simp only [hk]
  refine Prod.ext rfl ?_
  show (decide (k < cs.length) && decide (cmpB (gce cs k).key key = 0)) = _
  simp only [cmpB_zero]
/-- Cells, and one more: by a walk from the first. -/
def linV (cs : List Ce) (k : Nat) (c : Ce) : List Ce := if k < cs.length ∧ (gce cs k).key = c.key then (if 0 < laterC c (gce cs k) then cs.set k c else cs) else cs.take k ++ [c] ++ cs.drop k
theorem stepV_lin {cs : List Ce} (h : Srt cs) {c : Ce} {k : Nat} (h1 : k ≤ cs.length) (h2 : ∀ j, j < k → cmpB (gce cs j).key c.key < 0) (h3 : k < cs.length → ¬ cmpB (gce cs k).key c.key < 0) : stepV cs c = linV cs k c := by
  rw [stepV, bsR_lin h h1 h2 h3, linV]
  by_cases g : k < cs.length ∧ (gce cs k).key = c.key
  · rw [if_pos g, if_neg (by simp [g])]
  · rw [if_neg g, if_pos]
    simpa using g
theorem gce_set (cs : List Ce) (k : Nat) (c : Ce) (hk : k < cs.length) (j : Nat) : gce (cs.set k c) j = if j = k then c else gce cs j := by
  simp only [gce, List.getD_eq_getElem?_getD, List.getElem?_set]
  by_cases h : k = j
  · subst h; simp [hk]
  · rw [if_neg h, if_neg fun e => h e.symm]
theorem stepV_srt {cs : List Ce} (h : Srt cs) (c : Ce) : Srt (stepV cs c) := by
  obtain ⟨g1, g2⟩ := bsI_spec (c := cmpK (gce cs) c.key) (n := cs.length) 0 cs.length (Nat.zero_le _) (Nat.le_refl _) (fun k hk => absurd hk (by omega)) (fun k hk hk2 => absurd hk2 (by omega)) (cmpK_mono h c.key)
  have hle := bsI_le (cmpK (gce cs) c.key) 0 cs.length (Nat.zero_le _)
  revert g1 g2 hle
  generalize bsI (cmpK (gce cs) c.key) 0 cs.length = k
  intro g1 g2 hle
  rw [stepV_lin h hle g1 (fun hk => g2 k (Nat.le_refl _) hk), linV]
  split
  · rename_i g
    split
    · intro i j hij hj
      rw [List.length_set] at hj
      rw [gce_set _ _ _ g.1, gce_set _ _ _ g.1]
      have := h i j hij hj
      split
      · rename_i e
        rw [if_neg (by omega), ← g.2, ← e]; exact this
      · split
        · rename_i e
          rw [← g.2, ← e]; exact this
        · exact this
    · exact h
  · rename_i g
    intro i j hij hj
    have hl : (cs.take k ++ [c] ++ cs.drop k).length = cs.length + 1 := by simp; omega
    rw [hl] at hj
    rw [gce_ins _ _ _ hle, gce_ins _ _ _ hle]
    simp only [insG]
    have hc : ∀ j, k ≤ j → j < cs.length → cmpB c.key (gce cs j).key < 0 := fun j h1 h2 => by
      have e1 := g2 j h1 h2
      have e2 : ¬ cmpB (gce cs j).key c.key = 0 := fun e => by
        have e3 := cmpB_zero.1 e
        rcases Nat.lt_or_ge k j with h4 | h4
        · have h5 := h k j h4 h2
          have h6 := g2 k (Nat.le_refl _) (by omega)
          rw [e3] at h5
          exact h6 h5
        · obtain rfl : j = k := by omega
          exact g ⟨h2, e3⟩
      have e4 := cmpB_swap (gce cs j).key c.key
      have e1 : ¬ cmpB (gce cs j).key c.key < 0 := e1
      omega
    by_cases a1 : i < k
    · rw [if_pos a1]
      by_cases a2 : j < k
      · rw [if_pos a2]; exact h i j hij (by omega)
      · rw [if_neg a2]
        by_cases a3 : j = k
        · rw [if_pos a3]; exact g1 i a1
        · rw [if_neg a3]; exact h i (j - 1) (by omega) (by omega)
    · rw [if_neg a1, if_neg (show ¬ j < k by omega), if_neg (show ¬ j = k by omega)]
      by_cases a3 : i = k
      · rw [if_pos a3]; exact hc (j - 1) (by omega) (by omega)
      · rw [if_neg a3]; exact h (i - 1) (j - 1) (by omega) (by omega)
theorem viewE_srt {es : Nat → Ent} {cs : List Ce} (h : Srt cs) : ∀ n, Srt (viewE es n cs)
  | 0 => h
  | n + 1 => stepV_srt (viewE_srt h n) _
theorem viewN_srt (l : Nat → Fd) : ∀ n, Srt (viewN l n)
  | 0 => fun i j _ hj => absurd hj (Nat.not_lt_zero _)
  | n + 1 => by
    unfold viewN
    split
    · exact viewN_srt l n
    · exact viewE_srt (viewN_srt l n) _
end Go.Proofs.YtimaobccedeafaaGreatDoor

/- The reference: the map. -/
namespace Go.Proofs.YtimaobccedeafaaGreatDoor
set_option linter.unusedVariables false
set_option linter.unusedSimpArgs false
set_option maxRecDepth 100000
open Go Go.DD Go.Op
def F49 : FSpec := mkG (fun (a : Fds) => [fdsV a.b a.n a.l]) (fun a => (∀ k, k < a.n → preF (a.l k)) ∧ feedsOk a.n a.l = true) (fun a => viewN a.l a.n) (fun r => cellsV false r.length (gce r))
structure VwY where
  i : Nat
  cs : List Ce
theorem f49_ok : FOk Tryz.prog G 49 F49 := mkG_ok fun ⟨b, n, l⟩ ⟨hl, h2⟩ => by
  replace hl : ∀ k, k < n → preF (l k) := hl
  replace h2 : feedsOk n l = true := h2
  show CP _ _ _ [fdsV b n l] fun v => Ld v (cellsV false (viewN l n).length (gce (viewN l n)))
  obtain ⟨n1, n8, hlook⟩ := feedsOk_look h2
  have hΓ := ctxX_ok Tryz.f49.ntmps [(75, F75), (79, F79), (81, F81)] [] [] [(18, .one 0 (.one 1 (.one 2 (.one 3 (.many (.cons 4 (.one 5 (.one 6 (.one 7 (.one 8 (.done))))) (.cons 5 (.many (.cons 4 (.one 6 (.one 7 (.one 8 (.done)))) (.cons 6 (.one 4 (.one 7 (.one 8 (.done)))) (.nil)))) (.nil))))))))] (.cons f75_ok (.cons f79_ok.g (.cons f81_ok.g .nil))) .nil .nil
  refine CP_of_OK hΓ Tryz.func49 (c := bodyOf Tryz.f49) rfl (by decide) rfl rfl (by simp) (vc_ok hΓ mixed 1000 _ [] _ (by kernel_rfl) rfl ?_)
  conv => whnf
  refine OK_loopC (ι := VwY) (fun x => [(0, fdsV b n l), (3, .sl 0 [] 68 0 x.cs.length x.cs.length), (4, .int .i64 (x.i : Nat))]) (fun x => [some (.row 68 x.cs.length fun j => cellV (gce x.cs j))]) (fun x => x.i ≤ n ∧ x.cs = viewN l x.i ∧ x.cs.length ≤ 200 * x.i ∧ ∀ c, c ∈ x.cs → wfC c) (fun x => n - x.i) ⟨0, []⟩ [none] ?_ (fun x hx => vc_ok hΓ mixed 1000 _ [] _ (by kernel_rfl) rfl ?_)
  · conv => whnf
    repeat' (first | (refine And.intro (fun _ => ?_) (fun _ => ?_) <;> conv => whnf) | (refine And.intro ?_ ?_ <;> conv => whnf))
    all_goals try first | exact ⟨rfl⟩ | exact ⟨⟨rfl, rfl⟩⟩ | exact ⟨⟨rfl, rfl, rfl⟩⟩ | exact ⟨by omega⟩ | exact ⟨⟨by omega, by omega⟩⟩ | exact ⟨⟨by omega, by omega, by omega⟩⟩ | exact ⟨fun _ _ => rfl⟩
    · refine ⟨⟨Nat.zero_le _, rfl, Nat.le_refl _, fun c hc => by cases hc⟩⟩
  obtain ⟨hin, hcs, o3, o4⟩ := hx
  conv => whnf
  refine And.intro (fun h3 => ?_) (fun h3 => ?_) <;> conv => whnf
  · have hi : x.i < n := by simpa using h3
    have hf := hl x.i hi
    have hk := hlook x.i hi
    obtain ⟨he1, he2⟩ := look_ents hk
    refine OK_loopC (ι := VwY) (fun y => [(0, fdsV b n l), (3, .sl 0 [] 68 0 y.cs.length y.cs.length), (4, .int .i64 (x.i : Nat)), (5, .int .i64 (y.i : Nat))]) (fun y => [some (.row 68 y.cs.length fun j => cellV (gce y.cs j))]) (fun y => y.i ≤ (l x.i).n ∧ y.cs = (if (l x.i).shut then x.cs else viewE (l x.i).es y.i x.cs) ∧ y.cs.length ≤ 200 * x.i + y.i ∧ ∀ c, c ∈ y.cs → wfC c) (fun y => (l x.i).n - y.i) ⟨0, x.cs⟩ [some 0] ?_ (fun y hy => vc_ok hΓ mixed 1000 _ [] _ (by kernel_rfl) rfl ?_)
    · conv => whnf
      repeat' (first | (refine And.intro (fun _ => ?_) (fun _ => ?_) <;> conv => whnf) | (refine And.intro ?_ ?_ <;> conv => whnf))
      all_goals try first | exact ⟨rfl⟩ | exact ⟨⟨rfl, rfl⟩⟩ | exact ⟨⟨rfl, rfl, rfl⟩⟩ | exact ⟨by omega⟩ | exact ⟨⟨by omega, by omega⟩⟩ | exact ⟨⟨by omega, by omega, by omega⟩⟩ | exact ⟨fun _ _ => rfl⟩ | exact ⟨fun k _ => leV_refl _ (pln_cellV _)⟩
      · exact ⟨⟨Nat.zero_le _, by split <;> rfl, by show x.cs.length ≤ 200 * x.i + 0; omega, o4⟩⟩
    obtain ⟨hyn, hycs, p3, p4⟩ := hy
    have hq : x.i < n := hi
    conv => whnf
    repeat' (first | (refine And.intro (fun _ => ?_) (fun _ => ?_) <;> conv => whnf) | (refine And.intro ?_ ?_ <;> conv => whnf))
    all_goals try first | exact ⟨rfl⟩ | exact ⟨⟨rfl, rfl⟩⟩ | exact ⟨⟨rfl, rfl, rfl⟩⟩ | exact ⟨by omega⟩ | exact ⟨⟨by omega, by omega⟩⟩ | exact ⟨⟨by omega, by omega, by omega⟩⟩ | exact ⟨fun _ _ => trivial⟩ | exact ⟨fun _ _ => rfl⟩
    all_goals simp only [decide_eq_true_eq, decide_eq_false_iff_not, Int.toNat_natCast, Bool.not_eq_true', Bool.not_eq_false'] at *
    · have hj : y.i < (l x.i).n := by omega
      exact ⟨by omega⟩
    · rename_i hj hsh
      replace hj : y.i < (l x.i).n := by omega
      replace hsh : (l x.i).shut = false := hsh
      rw [if_neg (by simp [hsh])] at hycs
      have hpre := hf.2.1 y.i hj
      have hok := he2 y.i hj
      have hlen := entOk_len hok
      have hle := stepV_len y.cs (mkCell ((l x.i).es y.i))
      have hmem : ∀ c, c ∈ stepV y.cs (mkCell ((l x.i).es y.i)) → wfC c := fun c hc => by
        rcases stepV_mem hc with h | h
        · exact p4 c h
        · rw [h]; exact ⟨(hpre.1).1, idE_length _⟩
      refine ⟨(l x.i).es y.i, ⟨AE.refl _, trivial⟩, ⟨hpre, hok⟩, ?_⟩
      intro id hid
      replace hid : id = (idE ((l x.i).es y.i)).1 := hid
      generalize hc : mkCell ((l x.i).es y.i) = c at hle hmem
      have hidl : id.length = 32 := by rw [hid]; exact idE_length _
      have hwc : wfC c := by rw [← hc]; exact ⟨hpre.1.1, idE_length _⟩
      have hcv : cellV c = .st (.cons (.str ((l x.i).es y.i).key) (.cons (byV false ((l x.i).es y.i).val) (.cons (.int .i64 ((l x.i).es y.i).stamp) (.cons (arrV 32 ((l x.i).es y.i).author) (.cons (arrV 32 id) (.cons (.bool (decide (((l x.i).es y.i).kind = 2))) .nil)))))) := by rw [← hc, hid]; rfl
      have hkey : ((l x.i).es y.i).key = c.key := by rw [← hc]; rfl
      have hlt : ∀ d, decide (0 < laterC c d) = lessC ((l x.i).es y.i) id d := fun d => by rw [← hc]; exact lessC_eq rfl rfl hid.symm
      have hsrt : Srt y.cs := by rw [hycs, hcs]; exact viewE_srt (viewN_srt l _) _
      conv => whnf
      repeat' (first | (refine And.intro (fun _ => ?_) (fun _ => ?_) <;> conv => whnf) | (refine And.intro ?_ ?_ <;> conv => whnf))
      all_goals try first | exact ⟨rfl⟩ | exact ⟨⟨rfl, rfl⟩⟩ | exact ⟨⟨rfl, rfl, rfl⟩⟩ | exact ⟨by omega⟩ | exact ⟨⟨by omega, by omega⟩⟩ | exact ⟨⟨by omega, by omega, by omega⟩⟩ | exact ⟨fun _ _ => trivial⟩ | exact ⟨fun _ _ => rfl⟩ | exact ⟨fun k _ => isU8_bf _ k⟩ | exact ⟨fun k _ => own_bf _ _⟩
      refine OK_loopC (ι := Nat) (fun k => [(0, fdsV b n l), (3, .sl 0 [] 68 0 y.cs.length y.cs.length), (4, .int .i64 (x.i : Nat)), (5, .int .i64 (y.i : Nat)), (6, .ref 1 []), (7, .ref 2 []), (8, .ref 3 []), (9, .int .i64 (k : Nat))]) (fun k => [some (.row 68 y.cs.length fun j => cellV (gce y.cs j)), some (entV ((l x.i).es y.i)), some (arrV 32 id), some (cellV c)]) (fun k => k ≤ y.cs.length ∧ ∀ j, j < k → cmpB (gce y.cs j).key c.key < 0) (fun k => y.cs.length - k) 0 [some 0, some 1, some 2, some 3] ?_ (fun k hk => vc_ok hΓ mixed 1000 _ [] _ (by kernel_rfl) rfl ?_)
      · conv => whnf
        repeat' (first | (refine And.intro (fun _ => ?_) (fun _ => ?_) <;> conv => whnf) | (refine And.intro ?_ ?_ <;> conv => whnf))
        all_goals try first | exact ⟨rfl⟩ | exact ⟨⟨rfl, rfl⟩⟩ | exact ⟨⟨rfl, rfl, rfl⟩⟩ | exact ⟨by omega⟩ | exact ⟨⟨by omega, by omega⟩⟩ | exact ⟨⟨by omega, by omega, by omega⟩⟩ | exact ⟨fun _ _ => rfl⟩ | exact ⟨fun k _ => leV_refl _ (pln_cellV _)⟩ | exact ⟨fun k _ => leV_refl _ trivial⟩
        all_goals refine ⟨?_⟩
        all_goals first | (rw [← hc]; rfl) | (intro k _; exact leV_eq (by rw [← hc]; rfl) trivial) | (intro k _; exact leV_eq (by rw [← hc, hid]; rfl) trivial) | (intro k _; rw [← hc]; rfl) | exact ⟨Nat.zero_le _, fun j hj => absurd hj (by omega)⟩
      obtain ⟨hk1, hk2⟩ := hk
      conv => whnf
      repeat' (first | (refine And.intro (fun _ => ?_) (fun _ => ?_) <;> conv => whnf) | (refine And.intro ?_ ?_ <;> conv => whnf))
      all_goals try first | exact ⟨rfl⟩ | exact ⟨⟨rfl, rfl⟩⟩ | exact ⟨⟨rfl, rfl, rfl⟩⟩ | exact ⟨by omega⟩ | exact ⟨⟨by omega, by omega⟩⟩ | exact ⟨⟨by omega, by omega, by omega⟩⟩ | exact ⟨fun _ _ => trivial⟩ | exact ⟨fun _ _ => rfl⟩
      all_goals simp only [decide_eq_true_eq, decide_eq_false_iff_not, Int.toNat_natCast, Bool.not_eq_true', Bool.not_eq_false', beq_iff_eq, beq_eq_false_iff_ne] at *
      · exact ⟨by omega⟩
      · exact ⟨by omega⟩
      · rename_i hless hkl
        refine ⟨k + 1, [some 0, some 1, some 2, some 3], ?_⟩
        conv => whnf
        repeat' (refine And.intro ?_ ?_ <;> conv => whnf)
        all_goals try first | exact ⟨rfl⟩ | exact ⟨⟨rfl, rfl⟩⟩ | exact ⟨⟨rfl, rfl, rfl⟩⟩ | exact ⟨by omega⟩ | exact ⟨⟨by omega, by omega⟩⟩ | exact ⟨⟨by omega, by omega, by omega⟩⟩ | exact ⟨fun _ _ => rfl⟩ | exact ⟨fun k _ => leV_refl _ (pln_cellV _)⟩ | exact ⟨fun k _ => leV_refl _ trivial⟩
        · exact ⟨by rw [wrap_id (by omega) (by omega)]; rfl⟩
        · have hl1 : bytesLess (gce y.cs k).key c.key = true := by rw [Nat.zero_add] at hless; exact hless
          rw [less_eq, decide_eq_true_eq] at hl1
          refine ⟨⟨⟨by show k + 1 ≤ _; omega, fun j hj => ?_⟩, by show _ - (k + 1) < _ - k; omega⟩⟩
          rcases Nat.lt_or_ge j k with h7 | h7
          · exact hk2 j h7
          · obtain rfl : j = k := by omega
            exact hl1
      · rename_i hless hkl
        replace hkl : k < y.cs.length := by omega
        have hge : ¬ cmpB (gce y.cs k).key c.key < 0 := by
          have e1 : bytesLess (gce y.cs k).key c.key = false := by rw [Nat.zero_add] at hless; exact hless
          rw [less_eq, decide_eq_false_iff_not] at e1
          exact e1
        have hst := stepV_lin hsrt hk1 hk2 fun _ => hge
        refine vc_ok hΓ mixed 1000 _ [] _ (by kernel_rfl) rfl ?_
        conv => whnf
        conv => whnf
        repeat' (first | (refine And.intro (fun hp => ?_) (fun hp => ?_) <;> first | (exfalso; revert hp; simp <;> omega; done) | conv => whnf) | (refine And.intro ?_ ?_ <;> conv => whnf))
        all_goals try first | exact ⟨rfl⟩ | exact ⟨⟨rfl, rfl⟩⟩ | exact ⟨⟨rfl, rfl, rfl⟩⟩ | exact ⟨by omega⟩ | exact ⟨⟨by omega, by omega⟩⟩ | exact ⟨⟨by omega, by omega, by omega⟩⟩ | exact ⟨fun _ _ => trivial⟩ | exact ⟨fun _ _ => rfl⟩
        · have hpq := hp
          have hkk : (gce y.cs k).key = c.key := by
            rw [beq_iff_eq, Nat.zero_add] at hpq
            exact hpq
          have hst2 : stepV y.cs c = if 0 < laterC c (gce y.cs k) then y.cs.set k c else y.cs := hst.trans (if_pos ⟨hkl, hkk⟩)
          refine ⟨⟨(l x.i).es y.i, id, gce y.cs k⟩, ⟨AE.refl _, AE.refl _, AE.of ?_, trivial⟩, ⟨hpre.1, hidl, p4 _ (gce_mem hkl)⟩, ?_⟩
          · rw [Int.toNat_natCast, Nat.zero_add]; rfl
          intro r hr
          replace hr : r = lessC ((l x.i).es y.i) id (gce y.cs k) := hr
          rw [← hlt] at hr
          conv => whnf
          repeat' (first | (refine And.intro (fun _ => ?_) (fun _ => ?_) <;> conv => whnf) | (refine And.intro ?_ ?_ <;> conv => whnf))
          all_goals try first | exact ⟨rfl⟩ | exact ⟨⟨rfl, rfl⟩⟩ | exact ⟨⟨rfl, rfl, rfl⟩⟩ | exact ⟨by omega⟩ | exact ⟨⟨by omega, by omega⟩⟩ | exact ⟨⟨by omega, by omega, by omega⟩⟩ | exact ⟨fun _ _ => trivial⟩ | exact ⟨fun _ _ => rfl⟩
          · rename_i hr2
            replace hr2 : r = true := hr2
            rw [hr2] at hr
            rw [if_pos (of_decide_eq_true hr.symm)] at hst2
            refine vc_ok hΓ mixed 1000 _ [] _ (by kernel_rfl) rfl ?_
            conv => whnf
            refine ⟨⟨y.i + 1, stepV y.cs c⟩, [some 0], ?_⟩
            conv => whnf
            repeat' (refine And.intro ?_ ?_ <;> conv => whnf)
            all_goals try first | exact ⟨rfl⟩ | exact ⟨⟨rfl, rfl⟩⟩ | exact ⟨⟨rfl, rfl, rfl⟩⟩ | exact ⟨by omega⟩ | exact ⟨⟨by omega, by omega⟩⟩ | exact ⟨⟨by omega, by omega, by omega⟩⟩ | exact ⟨fun _ _ => rfl⟩ | exact ⟨fun k _ => leV_refl _ (pln_cellV _)⟩ | exact ⟨by rw [wrap_id (by omega) (by omega)]; rfl⟩
            · exact ⟨⟨rfl, by rw [hst2]; simp, by rw [hst2]; simp⟩⟩
            · exact ⟨by rw [hst2]; simp⟩
            · refine ⟨fun j hjj => leV_eq ?_ (pln_cellV _)⟩
              show _ = cellV (gce (stepV y.cs c) j)
              rw [hst2, gce_set _ _ _ hkl]
              by_cases a1 : j = k
              · rw [if_pos a1]
                refine (if_pos (by omega)).trans ?_
                rfl
              · rw [if_neg a1]
                exact if_neg (by omega)
            · refine ⟨⟨⟨hj, ?_, by show (stepV y.cs c).length ≤ 200 * x.i + (y.i + 1); rw [hst2]; simp; omega, hmem⟩, by show (l x.i).n - (y.i + 1) < (l x.i).n - y.i; omega⟩⟩
              show stepV y.cs c = if (l x.i).shut then x.cs else stepV (viewE (l x.i).es y.i x.cs) (mkCell ((l x.i).es y.i))
              rw [if_neg (by simp [hsh]), ← hycs, hc]
          · rename_i hr2
            replace hr2 : r = false := hr2
            rw [hr2] at hr
            rw [if_neg (of_decide_eq_false hr.symm)] at hst2
            refine vc_ok hΓ mixed 1000 _ [] _ (by kernel_rfl) rfl ?_
            conv => whnf
            refine ⟨⟨y.i + 1, y.cs⟩, [some 0], ?_⟩
            conv => whnf
            repeat' (refine And.intro ?_ ?_ <;> conv => whnf)
            all_goals try first | exact ⟨rfl⟩ | exact ⟨⟨rfl, rfl⟩⟩ | exact ⟨⟨rfl, rfl, rfl⟩⟩ | exact ⟨by omega⟩ | exact ⟨⟨by omega, by omega⟩⟩ | exact ⟨⟨by omega, by omega, by omega⟩⟩ | exact ⟨fun _ _ => rfl⟩ | exact ⟨fun k _ => leV_refl _ (pln_cellV _)⟩ | exact ⟨by rw [wrap_id (by omega) (by omega)]; rfl⟩
            refine ⟨⟨⟨hj, ?_, by show y.cs.length ≤ 200 * x.i + (y.i + 1); omega, p4⟩, by show (l x.i).n - (y.i + 1) < (l x.i).n - y.i; omega⟩⟩
            show y.cs = if (l x.i).shut then x.cs else stepV (viewE (l x.i).es y.i x.cs) (mkCell ((l x.i).es y.i))
            rw [if_neg (by simp [hsh]), ← hycs, hc, hst2]
        all_goals try exact trivial
        all_goals
          have hne := hp
          replace hne : ¬ (gce y.cs k).key = c.key := fun e => by simp [e] at hne
          have hst2 : stepV y.cs c = y.cs.take k ++ [c] ++ y.cs.drop k := hst.trans (if_neg fun h => hne h.2)
          have hlen2 : (stepV y.cs c).length = y.cs.length + 1 := by rw [hst2]; simp; omega
          have hgi : ∀ j, gce (stepV y.cs c) j = insG (gce y.cs) k c j := fun j => by rw [hst2]; exact gce_ins _ _ _ hk1 j
          refine Or.inl ?_
          conv => whnf
          repeat' (first | (refine And.intro (fun _ => ?_) (fun _ => ?_) <;> conv => whnf) | (refine And.intro ?_ ?_ <;> conv => whnf))
          all_goals try first | exact ⟨rfl⟩ | exact ⟨⟨rfl, rfl⟩⟩ | exact ⟨⟨rfl, rfl, rfl⟩⟩ | exact ⟨by omega⟩ | exact ⟨⟨by omega, by omega⟩⟩ | exact ⟨⟨by omega, by omega, by omega⟩⟩
          · exact ⟨by simp only [Int.toNat_natCast]; show (k - 0) * 120 ≤ _ ∧ _; omega⟩
          refine Or.inl ?_
          conv => whnf
          repeat' (first | (refine And.intro (fun _ => ?_) (fun _ => ?_) <;> conv => whnf) | (refine And.intro ?_ ?_ <;> conv => whnf))
          all_goals try first | exact ⟨rfl⟩ | exact ⟨⟨rfl, rfl⟩⟩ | exact ⟨⟨rfl, rfl, rfl⟩⟩ | exact ⟨by omega⟩ | exact ⟨⟨by omega, by omega⟩⟩ | exact ⟨⟨by omega, by omega, by omega⟩⟩
          · exact ⟨by simp only [Int.toNat_natCast]; show (k - 0 + 1) * 120 ≤ _ ∧ k - 0 + 1 ≤ _; omega⟩
          refine Or.inl ?_
          conv => whnf
          repeat' (first | (refine And.intro (fun _ => ?_) (fun _ => ?_) <;> conv => whnf) | (refine And.intro ?_ ?_ <;> conv => whnf))
          all_goals try first | exact ⟨rfl⟩ | exact ⟨⟨rfl, rfl⟩⟩ | exact ⟨⟨rfl, rfl, rfl⟩⟩ | exact ⟨by omega⟩ | exact ⟨⟨by omega, by omega⟩⟩ | exact ⟨⟨by omega, by omega, by omega⟩⟩
          · exact ⟨by simp only [Int.toNat_natCast]; show (k - 0 + 1 + (y.cs.length - k)) * 120 ≤ _ ∧ k - 0 + 1 + (y.cs.length - k) ≤ _; omega⟩
          refine vc_ok hΓ mixed 1000 _ [] _ (by kernel_rfl) rfl ?_
          conv => whnf
          refine ⟨⟨y.i + 1, stepV y.cs c⟩, [some 7], ?_⟩
          conv => whnf
          repeat' (refine And.intro ?_ ?_ <;> conv => whnf)
          all_goals try first | exact ⟨rfl⟩ | exact ⟨⟨rfl, rfl⟩⟩ | exact ⟨⟨rfl, rfl, rfl⟩⟩ | exact ⟨by omega⟩ | exact ⟨⟨by omega, by omega⟩⟩ | exact ⟨⟨by omega, by omega, by omega⟩⟩ | exact ⟨fun _ _ => rfl⟩ | exact ⟨fun k _ => leV_refl _ (pln_cellV _)⟩ | exact ⟨by rw [wrap_id (by omega) (by omega)]; rfl⟩
          · exact ⟨⟨rfl, by show _ = (stepV y.cs c).length; omega, by show _ = (stepV y.cs c).length; omega⟩⟩
          · exact ⟨by show _ = (stepV y.cs c).length; omega⟩
          · refine ⟨fun j hjj => leV_eq ?_ (pln_cellV _)⟩
            replace hjj : j < (stepV y.cs c).length := hjj
            have he := hgi j
            show _ = cellV (gce (stepV y.cs c) j)
            rw [he]
            simp only [insG]
            by_cases a1 : j < k
            · rw [if_pos a1]
              refine (if_pos (by omega)).trans ((if_pos (by omega)).trans ?_)
              show cellV (gce y.cs (0 + 0 + j)) = _
              rw [Nat.add_zero, Nat.zero_add]
            · rw [if_neg a1]
              by_cases a2 : j = k
              · rw [if_pos a2]
                refine (if_pos (by omega)).trans ((if_neg (by omega)).trans ?_)
                rw [show j - ((k : Int).toNat - Int.toNat 0) = 0 by omega]
                rfl
              · rw [if_neg a2]
                refine (if_neg (by omega)).trans ?_
                refine congrArg (fun q => cellV (gce y.cs q)) ?_
                omega
          · refine ⟨⟨⟨hj, ?_, by show (stepV y.cs c).length ≤ 200 * x.i + (y.i + 1); omega, hmem⟩, by show (l x.i).n - (y.i + 1) < (l x.i).n - y.i; omega⟩⟩
            show stepV y.cs c = if (l x.i).shut then x.cs else stepV (viewE (l x.i).es y.i x.cs) (mkCell ((l x.i).es y.i))
            rw [if_neg (by simp [hsh]), ← hycs, hc]
      · rename_i hkl
        have hkl : k = y.cs.length := by omega
        refine vc_ok hΓ mixed 1000 _ [] _ (by kernel_rfl) rfl ?_
        conv => whnf
        have hst := stepV_lin hsrt hk1 hk2 fun h => by omega
        have hst2 : stepV y.cs c = y.cs.take k ++ [c] ++ y.cs.drop k := hst.trans (if_neg fun h => by omega)
        have hlen2 : (stepV y.cs c).length = y.cs.length + 1 := by rw [hst2]; simp; omega
        have hgi : ∀ j, gce (stepV y.cs c) j = insG (gce y.cs) k c j := fun j => by rw [hst2]; exact gce_ins _ _ _ hk1 j
        conv => whnf
        repeat' (first | (refine And.intro (fun hp => ?_) (fun hp => ?_) <;> first | (exfalso; revert hp; simp <;> omega; done) | conv => whnf) | (refine And.intro ?_ ?_ <;> conv => whnf))
        all_goals try exact trivial
        all_goals try first | exact ⟨rfl⟩ | exact ⟨⟨rfl, rfl⟩⟩ | exact ⟨⟨rfl, rfl, rfl⟩⟩ | exact ⟨by omega⟩ | exact ⟨⟨by omega, by omega⟩⟩ | exact ⟨⟨by omega, by omega, by omega⟩⟩ | exact ⟨fun _ _ => trivial⟩ | exact ⟨fun _ _ => rfl⟩
        all_goals
          refine Or.inl ?_
          conv => whnf
          repeat' (first | (refine And.intro (fun _ => ?_) (fun _ => ?_) <;> conv => whnf) | (refine And.intro ?_ ?_ <;> conv => whnf))
          all_goals try first | exact ⟨rfl⟩ | exact ⟨⟨rfl, rfl⟩⟩ | exact ⟨⟨rfl, rfl, rfl⟩⟩ | exact ⟨by omega⟩ | exact ⟨⟨by omega, by omega⟩⟩ | exact ⟨⟨by omega, by omega, by omega⟩⟩
          · exact ⟨by simp only [Int.toNat_natCast]; show (k - 0) * 120 ≤ _ ∧ _; omega⟩
          refine Or.inl ?_
          conv => whnf
          repeat' (first | (refine And.intro (fun _ => ?_) (fun _ => ?_) <;> conv => whnf) | (refine And.intro ?_ ?_ <;> conv => whnf))
          all_goals try first | exact ⟨rfl⟩ | exact ⟨⟨rfl, rfl⟩⟩ | exact ⟨⟨rfl, rfl, rfl⟩⟩ | exact ⟨by omega⟩ | exact ⟨⟨by omega, by omega⟩⟩ | exact ⟨⟨by omega, by omega, by omega⟩⟩
          · exact ⟨by simp only [Int.toNat_natCast]; show (k - 0 + 1) * 120 ≤ _ ∧ k - 0 + 1 ≤ _; omega⟩
          refine Or.inl ?_
          conv => whnf
          repeat' (first | (refine And.intro (fun _ => ?_) (fun _ => ?_) <;> conv => whnf) | (refine And.intro ?_ ?_ <;> conv => whnf))
          all_goals try first | exact ⟨rfl⟩ | exact ⟨⟨rfl, rfl⟩⟩ | exact ⟨⟨rfl, rfl, rfl⟩⟩ | exact ⟨by omega⟩ | exact ⟨⟨by omega, by omega⟩⟩ | exact ⟨⟨by omega, by omega, by omega⟩⟩
          · exact ⟨by simp only [Int.toNat_natCast]; show (k - 0 + 1 + (y.cs.length - k)) * 120 ≤ _ ∧ k - 0 + 1 + (y.cs.length - k) ≤ _; omega⟩
          refine vc_ok hΓ mixed 1000 _ [] _ (by kernel_rfl) rfl ?_
          conv => whnf
          refine ⟨⟨y.i + 1, stepV y.cs c⟩, [some 7], ?_⟩
          conv => whnf
          repeat' (refine And.intro ?_ ?_ <;> conv => whnf)
          all_goals try first | exact ⟨rfl⟩ | exact ⟨⟨rfl, rfl⟩⟩ | exact ⟨⟨rfl, rfl, rfl⟩⟩ | exact ⟨by omega⟩ | exact ⟨⟨by omega, by omega⟩⟩ | exact ⟨⟨by omega, by omega, by omega⟩⟩ | exact ⟨fun _ _ => rfl⟩ | exact ⟨fun k _ => leV_refl _ (pln_cellV _)⟩ | exact ⟨by rw [wrap_id (by omega) (by omega)]; rfl⟩
          · exact ⟨⟨rfl, by show _ = (stepV y.cs c).length; omega, by show _ = (stepV y.cs c).length; omega⟩⟩
          · exact ⟨by show _ = (stepV y.cs c).length; omega⟩
          · refine ⟨fun j hjj => leV_eq ?_ (pln_cellV _)⟩
            replace hjj : j < (stepV y.cs c).length := hjj
            have he := hgi j
            show _ = cellV (gce (stepV y.cs c) j)
            rw [he]
            simp only [insG]
            by_cases a1 : j < k
            · rw [if_pos a1]
              refine (if_pos (by omega)).trans ((if_pos (by omega)).trans ?_)
              show cellV (gce y.cs (0 + 0 + j)) = _
              rw [Nat.add_zero, Nat.zero_add]
            · rw [if_neg a1]
              by_cases a2 : j = k
              · rw [if_pos a2]
                refine (if_pos (by omega)).trans ((if_neg (by omega)).trans ?_)
                rw [show j - ((k : Int).toNat - Int.toNat 0) = 0 by omega]
                rfl
              · rw [if_neg a2]
                refine (if_neg (by omega)).trans ?_
                refine congrArg (fun q => cellV (gce y.cs q)) ?_
                omega
          · refine ⟨⟨⟨hj, ?_, by show (stepV y.cs c).length ≤ 200 * x.i + (y.i + 1); omega, hmem⟩, by show (l x.i).n - (y.i + 1) < (l x.i).n - y.i; omega⟩⟩
            show stepV y.cs c = if (l x.i).shut then x.cs else stepV (viewE (l x.i).es y.i x.cs) (mkCell ((l x.i).es y.i))
            rw [if_neg (by simp [hsh]), ← hycs, hc]
    · rename_i hjj hsh
      replace hsh : (l x.i).shut = true := hsh
      rw [if_pos hsh] at hycs
      refine vc_ok hΓ mixed 1000 _ [] _ (by kernel_rfl) rfl ?_
      conv => whnf
      refine ⟨⟨x.i + 1, y.cs⟩, [some 0], ?_⟩
      conv => whnf
      repeat' (refine And.intro ?_ ?_ <;> conv => whnf)
      all_goals try first | exact ⟨rfl⟩ | exact ⟨⟨rfl, rfl⟩⟩ | exact ⟨⟨rfl, rfl, rfl⟩⟩ | exact ⟨by omega⟩ | exact ⟨⟨by omega, by omega⟩⟩ | exact ⟨⟨by omega, by omega, by omega⟩⟩ | exact ⟨fun _ _ => rfl⟩ | exact ⟨fun k _ => leV_refl _ (pln_cellV _)⟩
      · exact ⟨by rw [wrap_id (by omega) (by omega)]; rfl⟩
      · refine ⟨⟨⟨hi, ?_, by show y.cs.length ≤ 200 * (x.i + 1); omega, p4⟩, by show n - (x.i + 1) < n - x.i; omega⟩⟩
        show y.cs = if (l x.i).shut then viewN l x.i else viewE (l x.i).es (l x.i).n (viewN l x.i)
        rw [if_pos hsh, hycs, hcs]
    · rename_i hjj
      have hj : y.i = (l x.i).n := by omega
      refine vc_ok hΓ mixed 1000 _ [] _ (by kernel_rfl) rfl ?_
      conv => whnf
      refine ⟨⟨x.i + 1, y.cs⟩, [some 0], ?_⟩
      conv => whnf
      repeat' (refine And.intro ?_ ?_ <;> conv => whnf)
      all_goals try first | exact ⟨rfl⟩ | exact ⟨⟨rfl, rfl⟩⟩ | exact ⟨⟨rfl, rfl, rfl⟩⟩ | exact ⟨by omega⟩ | exact ⟨⟨by omega, by omega⟩⟩ | exact ⟨⟨by omega, by omega, by omega⟩⟩ | exact ⟨fun _ _ => rfl⟩ | exact ⟨fun k _ => leV_refl _ (pln_cellV _)⟩
      · exact ⟨by rw [wrap_id (by omega) (by omega)]; rfl⟩
      · refine ⟨⟨⟨hi, ?_, by show y.cs.length ≤ 200 * (x.i + 1); omega, p4⟩, by show n - (x.i + 1) < n - x.i; omega⟩⟩
        show y.cs = if (l x.i).shut then viewN l x.i else viewE (l x.i).es (l x.i).n (viewN l x.i)
        rw [hycs, hj, hcs]
  · refine vc_ok hΓ mixed 1000 _ [] _ (by kernel_rfl) rfl ?_
    conv => whnf
    have hi : x.i = n := by
      have : ¬ ((x.i : Nat) : Int) < (n : Nat) := by simpa using h3
      omega
    rw [← hi, ← hcs]
    conv => whnf
    repeat' (refine And.intro ?_ ?_ <;> conv => whnf)
    all_goals try first | exact ⟨rfl⟩ | exact ⟨⟨rfl, rfl⟩⟩ | exact ⟨⟨rfl, rfl, rfl⟩⟩ | exact ⟨by omega⟩ | exact ⟨⟨by omega, by omega⟩⟩ | exact ⟨⟨by omega, by omega, by omega⟩⟩ | exact ⟨fun k _ => own_cellV _⟩
    refine Ld.imm fun k hk => ?_
    show cellV (gce x.cs (0 + k)) = _
    rw [Nat.zero_add]
end Go.Proofs.YtimaobccedeafaaGreatDoor

/- The reference: the state's bytes. -/
namespace Go.Proofs.YtimaobccedeafaaGreatDoor
set_option linter.unusedVariables false
set_option linter.unusedSimpArgs false
set_option maxRecDepth 100000
open Go Go.DD Go.Op
def leafs : List Tk → Trs | [] => .nil | t :: l => .cons (.leaf t) (leafs l)
theorem leafs_len : ∀ l, (leafs l).len = l.length | [] => rfl | t :: l => by simp [leafs, Trs.len, leafs_len l]
theorem leafs_tk : ∀ l, (leafs l).tk = l | [] => rfl | t :: l => by simp [leafs, Trs.tk, Tr.tk, leafs_tk l]
theorem leafs_by : ∀ l, (leafs l).by = l.flatMap itemB | [] => rfl | t :: l => by simp [leafs, Trs.by, Tr.by, leafs_by l]
theorem leafs_ok (k : Nat) : ∀ l, (∀ t, t ∈ l → FlatT t) → (leafs l).ok k
  | [], _ => trivial
  | t :: l, h => ⟨h t (.head _), leafs_ok k l fun t ht => h t (.tail _ ht)⟩
/-- An array of items that hold nothing. -/
def flatTr (l : List Tk) : Tr := .arr (leafs l)
def flatTk (l : List Tk) : List Tk := ⟨5, (l.length : Nat), false, []⟩ :: l
def flatX (l : List Tk) : EnX := ⟨lToks (flatTk l), flatTr l⟩
theorem flatX_by (l : List Tk) : (flatX l).t.by = headL 4 l.length ++ l.flatMap itemB := by
  show headL 4 (leafs l).len ++ (leafs l).by = _
  rw [leafs_len, leafs_by]
theorem flatX_ok {l : List Tk} (h : ∀ t, t ∈ l → FlatT t) (hn : l.length ≤ 10) : (flatX l).t.ok 6 ∧ At (flatX l).a 0 (flatX l).t.tk ∧ (flatX l).t.by.length ≤ 32768 ∧ (flatX l).a.n ≤ 600 ∧ (flatX l).a.n = (flatX l).t.tk.length := by
  have htk : (flatX l).t.tk = flatTk l := by
    show (⟨5, ((leafs l).len : Nat), false, []⟩ : Tk) :: (leafs l).tk = _
    rw [leafs_len, leafs_tk]
    rfl
  rw [htk]
  refine ⟨⟨5, rfl, ?_, leafs_ok 5 l h⟩, ⟨?_, fun j hj => ?_⟩, ?_, ?_, rfl⟩
  · rw [leafs_len]; omega
  · show 0 + (flatTk l).length ≤ (flatTk l).length; omega
  · rw [Nat.zero_add]; rfl
  · rw [flatX_by, ← arrL_eq l h hn]
    exact arrL_len _
  · show l.length + 1 ≤ 600; omega
def feedU (f : Fd) : List Tk := if f.shut then [numT 5, bytT false f.author] else [numT 6, bytT false f.author, numT (lastR f).1, bytT false (lastR f).2]
def cellU (c : Ce) : List Tk := [numT 7, ⟨4, 0, false, c.key⟩, bytT false c.val, numT c.stamp, bytT false c.author, bytT false c.id, numT (if c.gone then 1 else 0)]
theorem feedU_flat {f : Fd} (h : f.author.length = 32) (hl : (lookF f).2 = true) : ∀ t, t ∈ feedU f → FlatT t := fun t ht => by
  have h0 := lastR_eq hl
  have h1 := lastF_ok hl
  have h2 := lookF_length f
  have e1 : (lastR f).1 = ((f.n : Nat) : Int) := (congrArg Prod.fst h0).symm.trans (congrArg Prod.fst h1)
  have e2 : (lastR f).2 = (lookF f).1 := (congrArg (fun x => x.2.1) h0).symm.trans (congrArg (fun x => x.2.1) h1)
  unfold feedU at ht
  split at ht
  · simp only [List.mem_cons, List.not_mem_nil, or_false] at ht
    rcases ht with rfl | rfl
    · exact flatNum (by decide)
    · exact flatByt (by omega)
  · simp only [List.mem_cons, List.not_mem_nil, or_false] at ht
    rcases ht with rfl | rfl | rfl | rfl
    · exact flatNum (by decide)
    · exact flatByt (by omega)
    · exact flatNum (by rw [e1]; omega)
    · exact flatByt (by rw [e2]; omega)
theorem cellU_flat {c : Ce} (h : OkCe c) : ∀ t, t ∈ cellU c → FlatT t := fun t ht => by
  have h1 := h.wf.1
  have h2 := h.wf.2
  have h3 := h.val
  have h4 := h.key2
  simp only [cellU, List.mem_cons, List.not_mem_nil, or_false] at ht
  rcases ht with rfl | rfl | rfl | rfl | rfl | rfl | rfl
  · exact flatNum (by decide)
  · exact ⟨by show c.key.length ≤ 2000; omega, .inr (.inr ⟨rfl, rfl, h.utf⟩)⟩
  · exact flatByt (by omega)
  · exact flatNum h.st0
  · exact flatByt (by omega)
  · exact flatByt (by omega)
  · exact flatNum (by split <;> decide)
theorem feedU_by {f : Fd} (h : f.author.length = 32) (hl : (lookF f).2 = true) : (flatX (feedU f)).t.by = feedB f := by
  have h0 := lastR_eq hl
  have e1 : (lastF f).1 = (lastR f).1 := congrArg Prod.fst h0
  have e2 : (lastF f).2.1 = (lastR f).2 := congrArg (fun x => x.2.1) h0
  rw [flatX_by, feedB_eq h hl]
  unfold feedU feedT
  split
  · rfl
  · rw [e1, e2]
    rfl
theorem cellU_by {c : Ce} (h : OkCe c) : (flatX (cellU c)).t.by = cellB c := by
  rw [flatX_by, cellB_eq h]
  rfl
def F19 : FSpec := mkG (fun (a : Fds) => [fdsV a.b a.n a.l]) (fun a => (∀ k, k < a.n → preF (a.l k)) ∧ feedsOk a.n a.l = true) (fun a => (stateR a).1) (byV false)
def F47c : FSpec := F47
theorem f19_ok : FOk Tryz.prog G 19 F19 := mkG_ok fun a ⟨hl, hok⟩ => by
  obtain ⟨n1, n8, hlook⟩ := feedsOk_look hok
  have hs : (stateR a).1 = feedsB a.l a.n ++ cellsB (viewL a.n a.l) (viewL a.n a.l).length := by rw [stateR, if_pos hok]
  have hvl : viewL a.n a.l = viewN a.l a.n := if_pos hok
  rw [hs]
  have hΓ := ctxG_ok Tryz.f19.ntmps [(45, F31), (46, F46), (47, F47), (48, F48), (49, F49)] [] [] (.cons (f45_ok.g) (.cons (f46_ok.g) (.cons (f47_ok) (.cons (f48_ok) (.cons (f49_ok) .nil))))) .nil
  refine CP_of_OK hΓ Tryz.func19 (c := bodyOf Tryz.f19) rfl (by decide) rfl rfl (by simp) (vc_ok hΓ mixed 1000 _ [] _ (by kernel_rfl) rfl ?_)
  conv => whnf
  refine OK_loopC (ι := Nat) (fun i => [(0, fdsV a.b a.n a.l), (3, .sl 0 [] 1 0 (feedsB a.l i).length (feedsB a.l i).length), (4, .int .i64 (i : Nat))]) (fun i => [some (rowV (feedsB a.l i))]) (fun i => i ≤ a.n) (fun i => a.n - i) 0 [none] ?_ (fun i hi => vc_ok hΓ mixed 1000 _ [] _ (by kernel_rfl) rfl ?_)
  · conv => whnf
    repeat' (first | (refine And.intro (fun _ => ?_) (fun _ => ?_) <;> conv => whnf) | (refine And.intro ?_ ?_ <;> conv => whnf))
    all_goals try first | exact ⟨rfl⟩ | exact ⟨⟨rfl, rfl⟩⟩ | exact ⟨⟨rfl, rfl, rfl⟩⟩ | exact ⟨by omega⟩ | exact ⟨⟨by omega, by omega⟩⟩ | exact ⟨⟨by omega, by omega, by omega⟩⟩ | exact ⟨fun _ _ => rfl⟩ | exact ⟨⟨rfl, rfl⟩⟩
  · conv => whnf
    refine And.intro (fun h3 => ?_) (fun h3 => ?_) <;> conv => whnf
    · have hin : i < a.n := by simpa using h3
      have hb := feedsB_len a.l i
      have hf := hl i hin
      conv => whnf
      repeat' (first | (refine And.intro (fun _ => ?_) (fun _ => ?_) <;> conv => whnf) | (refine And.intro ?_ ?_ <;> conv => whnf))
      all_goals try first | exact ⟨rfl⟩ | exact ⟨⟨rfl, rfl⟩⟩ | exact ⟨⟨rfl, rfl, rfl⟩⟩ | exact ⟨by omega⟩ | exact ⟨⟨by omega, by omega⟩⟩ | exact ⟨⟨by omega, by omega, by omega⟩⟩ | exact ⟨fun _ _ => trivial⟩ | exact ⟨fun _ _ => rfl⟩
      refine ⟨5, rfl, ⟨trivial⟩, ?_⟩
      conv => whnf
      repeat' (first | (refine And.intro (fun _ => ?_) (fun _ => ?_) <;> conv => whnf) | (refine And.intro ?_ ?_ <;> conv => whnf))
      all_goals try first | exact ⟨rfl⟩ | exact ⟨⟨rfl, rfl⟩⟩ | exact ⟨⟨rfl, rfl, rfl⟩⟩ | exact ⟨by omega⟩ | exact ⟨⟨by omega, by omega⟩⟩ | exact ⟨⟨by omega, by omega, by omega⟩⟩ | exact ⟨fun _ _ => trivial⟩ | exact ⟨fun _ _ => rfl⟩
      refine ⟨(a.l i).author, ⟨AE.refl _, trivial⟩, ⟨hf.1⟩, ?_⟩
      intro r hr
      obtain rfl : r = bytT false (a.l i).author := hr
      conv => whnf
      repeat' (first | (refine And.intro (fun _ => ?_) (fun _ => ?_) <;> conv => whnf) | (refine And.intro ?_ ?_ <;> conv => whnf))
      all_goals try first | exact ⟨rfl⟩ | exact ⟨⟨rfl, rfl⟩⟩ | exact ⟨⟨rfl, rfl, rfl⟩⟩ | exact ⟨by omega⟩ | exact ⟨⟨by omega, by omega⟩⟩ | exact ⟨⟨by omega, by omega, by omega⟩⟩ | exact ⟨fun _ _ => trivial⟩ | exact ⟨fun _ _ => rfl⟩
      · rename_i hsh
        replace hsh : (a.l i).shut = false := by rw [Int.toNat_natCast] at hsh; simpa using hsh
        have hlk := hlook i hin
        obtain ⟨hfn, hfe⟩ := look_ents hlk
        have hu : feedU (a.l i) = [numT 6, bytT false (a.l i).author, numT (lastR (a.l i)).1, bytT false (lastR (a.l i)).2] := if_neg (by simp [hsh])
        have hl32 : (lastR (a.l i)).2.length = 32 := by
          have e := congrArg (fun x => x.2.1) (lastR_eq hlk)
          rw [lastF_ok hlk] at e
          exact (congrArg List.length e).symm.trans (lookF_length _)
        have hby := feedU_by hf.1 hlk
        have hfx := flatX_ok (feedU_flat hf.1 hlk) (by rw [hu]; show 4 ≤ 10; omega)
        rw [hu] at hby hfx
        refine ⟨a.l i, ⟨AE.refl _, trivial⟩, ⟨hf, by omega, hfe⟩, ?_⟩
        intro w hw
        replace hw : w = lastR (a.l i) := hw
        rw [← hw] at hl32 hby hfx
        conv => whnf
        repeat' (first | (refine And.intro (fun _ => ?_) (fun _ => ?_) <;> conv => whnf) | (refine And.intro ?_ ?_ <;> conv => whnf))
        all_goals try first | exact ⟨rfl⟩ | exact ⟨⟨rfl, rfl⟩⟩ | exact ⟨⟨rfl, rfl, rfl⟩⟩ | exact ⟨by omega⟩ | exact ⟨⟨by omega, by omega⟩⟩ | exact ⟨⟨by omega, by omega, by omega⟩⟩ | exact ⟨fun _ _ => trivial⟩ | exact ⟨fun _ _ => rfl⟩
        refine ⟨6, rfl, ⟨trivial⟩, ?_⟩
        conv => whnf
        repeat' (first | (refine And.intro (fun _ => ?_) (fun _ => ?_) <;> conv => whnf) | (refine And.intro ?_ ?_ <;> conv => whnf))
        all_goals try first | exact ⟨rfl⟩ | exact ⟨⟨rfl, rfl⟩⟩ | exact ⟨⟨rfl, rfl, rfl⟩⟩ | exact ⟨by omega⟩ | exact ⟨⟨by omega, by omega⟩⟩ | exact ⟨⟨by omega, by omega, by omega⟩⟩ | exact ⟨fun _ _ => trivial⟩ | exact ⟨fun _ _ => rfl⟩
        refine ⟨(a.l i).author, ⟨AE.refl _, trivial⟩, ⟨hf.1⟩, ?_⟩
        intro r hr
        obtain rfl : r = bytT false (a.l i).author := hr
        conv => whnf
        repeat' (first | (refine And.intro (fun _ => ?_) (fun _ => ?_) <;> conv => whnf) | (refine And.intro ?_ ?_ <;> conv => whnf))
        all_goals try first | exact ⟨rfl⟩ | exact ⟨⟨rfl, rfl⟩⟩ | exact ⟨⟨rfl, rfl, rfl⟩⟩ | exact ⟨by omega⟩ | exact ⟨⟨by omega, by omega⟩⟩ | exact ⟨⟨by omega, by omega, by omega⟩⟩ | exact ⟨fun _ _ => trivial⟩ | exact ⟨fun _ _ => rfl⟩
        refine ⟨w.1, rfl, ⟨trivial⟩, ?_⟩
        conv => whnf
        repeat' (first | (refine And.intro (fun _ => ?_) (fun _ => ?_) <;> conv => whnf) | (refine And.intro ?_ ?_ <;> conv => whnf))
        all_goals try first | exact ⟨rfl⟩ | exact ⟨⟨rfl, rfl⟩⟩ | exact ⟨⟨rfl, rfl, rfl⟩⟩ | exact ⟨by omega⟩ | exact ⟨⟨by omega, by omega⟩⟩ | exact ⟨⟨by omega, by omega, by omega⟩⟩ | exact ⟨fun _ _ => trivial⟩ | exact ⟨fun _ _ => rfl⟩
        refine ⟨w.2, ⟨AE.refl _, trivial⟩, ⟨hl32⟩, ?_⟩
        intro r hr
        obtain rfl : r = bytT false w.2 := hr
        conv => whnf
        repeat' (first | (refine And.intro (fun _ => ?_) (fun _ => ?_) <;> conv => whnf) | (refine And.intro ?_ ?_ <;> conv => whnf))
        all_goals try first | exact ⟨rfl⟩ | exact ⟨⟨rfl, rfl⟩⟩ | exact ⟨⟨rfl, rfl, rfl⟩⟩ | exact ⟨by omega⟩ | exact ⟨⟨by omega, by omega⟩⟩ | exact ⟨⟨by omega, by omega, by omega⟩⟩ | exact ⟨fun _ _ => trivial⟩ | exact ⟨fun _ _ => rfl⟩
        · refine ⟨?_⟩
          refine (lt_step ?_ (lt_step ?_ (lt_step ?_ (lt_step ?_ (lt_step ?_ lt_zero)))))
          all_goals (conv => whnf)
          all_goals (repeat' (refine And.intro ?_ ?_ <;> conv => whnf))
          all_goals first
            | trivial
            | exact ⟨⟨rfl, by decide⟩⟩
            | exact ⟨fun _ _ => trivial⟩
            | exact fun _ _ => trivial
        refine ⟨flatX [numT 6, bytT false (a.l i).author, numT w.1, bytT false w.2], ⟨AE.tok (n := 5) ?_, trivial⟩, ⟨hfx⟩, ?_⟩
        · refine (lt_step ?_ (lt_step ?_ (lt_step ?_ (lt_step ?_ (lt_step ?_ lt_zero)))))
          · exact .inl rfl
          · exact .inr ⟨rfl, rfl⟩
          · exact .inl rfl
          · exact .inr ⟨rfl, rfl⟩
          · exact .inr ⟨rfl, rfl⟩
        intro r hr
        replace hr : r = (flatX [numT 6, bytT false (a.l i).author, numT w.1, bytT false w.2]).t.by := hr
        rw [hby] at hr
        conv => whnf
        repeat' (first | (refine And.intro (fun _ => ?_) (fun _ => ?_) <;> conv => whnf) | (refine And.intro ?_ ?_ <;> conv => whnf))
        refine Or.inl ?_
        conv => whnf
        repeat' (first | (refine And.intro (fun _ => ?_) (fun _ => ?_) <;> conv => whnf) | (refine And.intro ?_ ?_ <;> conv => whnf))
        · exact ⟨rfl⟩
        · refine ⟨?_⟩
          have hq : r.length ≤ 32768 := by rw [hr]; exact arrL_len _
          show (_ + r.length) * 1 ≤ _ ∧ _ + r.length ≤ _
          simp only [Nat.mul_one]
          omega
        refine ⟨i + 1, [some 4], ?_⟩
        conv => whnf
        repeat' (refine And.intro ?_ ?_ <;> conv => whnf)
        all_goals try first | exact ⟨rfl⟩ | exact ⟨⟨rfl, rfl⟩⟩ | exact ⟨⟨rfl, rfl, rfl⟩⟩ | exact ⟨by omega⟩ | exact ⟨⟨by omega, by omega⟩⟩ | exact ⟨⟨by omega, by omega, by omega⟩⟩ | exact ⟨fun _ _ => rfl⟩ | exact ⟨by rw [wrap_id (by omega) (by omega)]; rfl⟩
        · refine ⟨⟨rfl, ?_, ?_⟩⟩ <;> simp only [feedsB, List.length_append, hr]
        · exact ⟨by simp only [feedsB, List.length_append, hr]⟩
        · refine ⟨fun k _ => leV_eq ?_ trivial⟩
          refine (bsn _ _ k).trans ?_
          rw [hr]
          rfl
      all_goals
        rename_i hsh
        replace hsh : (a.l i).shut = true := by rw [Int.toNat_natCast] at hsh; simpa using hsh
        have hlk := hlook i hin
        have hu : feedU (a.l i) = [numT 5, bytT false (a.l i).author] := if_pos hsh
        have hby := feedU_by hf.1 hlk
        have hfx := flatX_ok (feedU_flat hf.1 hlk) (by rw [hu]; show 2 ≤ 10; omega)
        rw [hu] at hby hfx
      · refine ⟨?_⟩
        refine (lt_step ?_ (lt_step ?_ (lt_step ?_ lt_zero)))
        all_goals (conv => whnf)
        all_goals (repeat' (refine And.intro ?_ ?_ <;> conv => whnf))
        all_goals first
          | trivial
          | exact ⟨⟨rfl, by decide⟩⟩
          | exact ⟨fun _ _ => trivial⟩
          | exact fun _ _ => trivial
      refine ⟨flatX [numT 5, bytT false (a.l i).author], ⟨AE.tok (n := 3) ?_, trivial⟩, ⟨hfx⟩, ?_⟩
      · refine (lt_step ?_ (lt_step ?_ (lt_step ?_ lt_zero)))
        · exact .inl rfl
        · exact .inr ⟨rfl, rfl⟩
        · exact .inr ⟨rfl, rfl⟩
      intro r hr
      replace hr : r = (flatX [numT 5, bytT false (a.l i).author]).t.by := hr
      rw [hby] at hr
      conv => whnf
      repeat' (first | (refine And.intro (fun _ => ?_) (fun _ => ?_) <;> conv => whnf) | (refine And.intro ?_ ?_ <;> conv => whnf))
      refine Or.inl ?_
      conv => whnf
      repeat' (first | (refine And.intro (fun _ => ?_) (fun _ => ?_) <;> conv => whnf) | (refine And.intro ?_ ?_ <;> conv => whnf))
      · exact ⟨rfl⟩
      · refine ⟨?_⟩
        have hq : r.length ≤ 32768 := by rw [hr]; exact arrL_len _
        show (_ + r.length) * 1 ≤ _ ∧ _ + r.length ≤ _
        simp only [Nat.mul_one]
        omega
      refine ⟨i + 1, [some 2], ?_⟩
      conv => whnf
      repeat' (refine And.intro ?_ ?_ <;> conv => whnf)
      all_goals try first | exact ⟨rfl⟩ | exact ⟨⟨rfl, rfl⟩⟩ | exact ⟨⟨rfl, rfl, rfl⟩⟩ | exact ⟨by omega⟩ | exact ⟨⟨by omega, by omega⟩⟩ | exact ⟨⟨by omega, by omega, by omega⟩⟩ | exact ⟨fun _ _ => rfl⟩ | exact ⟨by rw [wrap_id (by omega) (by omega)]; rfl⟩
      · refine ⟨⟨rfl, ?_, ?_⟩⟩ <;> simp only [feedsB, List.length_append, hr]
      · exact ⟨by simp only [feedsB, List.length_append, hr]⟩
      · refine ⟨fun k _ => leV_eq ?_ trivial⟩
        refine (bsn _ _ k).trans ?_
        rw [hr]
        rfl
    · have hin : i = a.n := by
        have : ¬ ((i : Nat) : Int) < (a.n : Nat) := by simpa using h3
        omega
      subst hin
      refine vc_ok hΓ mixed 1000 _ [] _ (by kernel_rfl) rfl ?_
      conv => whnf
      refine ⟨a, ⟨AE.refl _, trivial⟩, ⟨hl, hok⟩, ?_⟩
      intro v hv
      replace hv : v = viewN a.l a.n := hv
      rw [← hvl] at hv
      rw [← hv]
      have hvl2 := viewL_len a.n a.l
      rw [← hv] at hvl2
      conv => whnf
      refine OK_loopC (ι := Nat) (fun i => [(3, .sl 0 [] 1 0 (feedsB a.l a.n ++ cellsB v i).length (feedsB a.l a.n ++ cellsB v i).length), (10, cellsV false v.length (gce v)), (11, .int .i64 (i : Nat))]) (fun i => [some (rowV (feedsB a.l a.n ++ cellsB v i))]) (fun i => i ≤ v.length) (fun i => v.length - i) 0 [some 0] ?_ (fun i hi => vc_ok hΓ mixed 1000 _ [] _ (by kernel_rfl) rfl ?_)
      · conv => whnf
        repeat' (first | (refine And.intro (fun _ => ?_) (fun _ => ?_) <;> conv => whnf) | (refine And.intro ?_ ?_ <;> conv => whnf))
        all_goals try first | exact ⟨rfl⟩ | exact ⟨⟨rfl, rfl⟩⟩ | exact ⟨⟨rfl, rfl, rfl⟩⟩ | exact ⟨by omega⟩ | exact ⟨⟨by omega, by omega⟩⟩ | exact ⟨⟨by omega, by omega, by omega⟩⟩ | exact ⟨fun _ _ => rfl⟩
        · exact ⟨⟨rfl, by simp [cellsB], by simp [cellsB]⟩⟩
        · exact ⟨by simp [cellsB]⟩
        · exact ⟨fun k _ => leV_eq (by simp [cellsB]) trivial⟩
      · conv => whnf
        refine And.intro (fun h4 => ?_) (fun h4 => ?_) <;> conv => whnf
        · have hin : i < v.length := by simpa using h4
          have hcb := cellsB_len v i
          have hfb := feedsB_len a.l a.n
          have hce : OkCe (gce v i) := viewL_mem hl (hv ▸ gce_mem hin)
          have hlen : (feedsB a.l a.n ++ cellsB v i).length ≤ 100000000 := by rw [List.length_append]; omega
          have hby := cellU_by hce
          have hfx := flatX_ok (cellU_flat hce) (by show 7 ≤ 10; omega)
          conv => whnf
          repeat' (first | (refine And.intro (fun _ => ?_) (fun _ => ?_) <;> conv => whnf) | (refine And.intro ?_ ?_ <;> conv => whnf))
          all_goals try first | exact ⟨rfl⟩ | exact ⟨⟨rfl, rfl⟩⟩ | exact ⟨⟨rfl, rfl, rfl⟩⟩ | exact ⟨by omega⟩ | exact ⟨⟨by omega, by omega⟩⟩ | exact ⟨⟨by omega, by omega, by omega⟩⟩ | exact ⟨fun _ _ => trivial⟩ | exact ⟨fun _ _ => rfl⟩
          · rename_i hg
            rw [Int.toNat_natCast] at hg
            replace hg : (gce v i).gone = true := hg
            have hu : cellU (gce v i) = [numT 7, ⟨4, 0, false, (gce v i).key⟩, bytT false (gce v i).val, numT (gce v i).stamp, bytT false (gce v i).author, bytT false (gce v i).id, numT 1] := by rw [cellU, hg]; rfl
            rw [hu] at hby hfx
            refine ⟨7, rfl, ⟨trivial⟩, ?_⟩
            conv => whnf
            repeat' (first | (refine And.intro (fun _ => ?_) (fun _ => ?_) <;> conv => whnf) | (refine And.intro ?_ ?_ <;> conv => whnf))
            all_goals try first | exact ⟨rfl⟩ | exact ⟨⟨rfl, rfl⟩⟩ | exact ⟨⟨rfl, rfl, rfl⟩⟩ | exact ⟨by omega⟩ | exact ⟨⟨by omega, by omega⟩⟩ | exact ⟨⟨by omega, by omega, by omega⟩⟩ | exact ⟨fun _ _ => trivial⟩ | exact ⟨fun _ _ => rfl⟩
            refine ⟨(gce v i).stamp, rfl, ⟨trivial⟩, ?_⟩
            conv => whnf
            repeat' (first | (refine And.intro (fun _ => ?_) (fun _ => ?_) <;> conv => whnf) | (refine And.intro ?_ ?_ <;> conv => whnf))
            all_goals try first | exact ⟨rfl⟩ | exact ⟨⟨rfl, rfl⟩⟩ | exact ⟨⟨rfl, rfl, rfl⟩⟩ | exact ⟨by omega⟩ | exact ⟨⟨by omega, by omega⟩⟩ | exact ⟨⟨by omega, by omega, by omega⟩⟩ | exact ⟨fun _ _ => trivial⟩ | exact ⟨fun _ _ => rfl⟩
            refine ⟨(gce v i).author, ⟨AE.refl _, trivial⟩, ⟨hce.wf.1⟩, ?_⟩
            intro r hr
            obtain rfl : r = bytT false (gce v i).author := hr
            conv => whnf
            repeat' (first | (refine And.intro (fun _ => ?_) (fun _ => ?_) <;> conv => whnf) | (refine And.intro ?_ ?_ <;> conv => whnf))
            all_goals try first | exact ⟨rfl⟩ | exact ⟨⟨rfl, rfl⟩⟩ | exact ⟨⟨rfl, rfl, rfl⟩⟩ | exact ⟨by omega⟩ | exact ⟨⟨by omega, by omega⟩⟩ | exact ⟨⟨by omega, by omega, by omega⟩⟩ | exact ⟨fun _ _ => trivial⟩ | exact ⟨fun _ _ => rfl⟩
            refine ⟨(gce v i).id, ⟨AE.refl _, trivial⟩, ⟨hce.wf.2⟩, ?_⟩
            intro r hr
            obtain rfl : r = bytT false (gce v i).id := hr
            conv => whnf
            repeat' (first | (refine And.intro (fun _ => ?_) (fun _ => ?_) <;> conv => whnf) | (refine And.intro ?_ ?_ <;> conv => whnf))
            all_goals try first | exact ⟨rfl⟩ | exact ⟨⟨rfl, rfl⟩⟩ | exact ⟨⟨rfl, rfl, rfl⟩⟩ | exact ⟨by omega⟩ | exact ⟨⟨by omega, by omega⟩⟩ | exact ⟨⟨by omega, by omega, by omega⟩⟩ | exact ⟨fun _ _ => trivial⟩ | exact ⟨fun _ _ => rfl⟩
            refine ⟨1, rfl, ⟨trivial⟩, ?_⟩
            conv => whnf
            repeat' (first | (refine And.intro (fun _ => ?_) (fun _ => ?_) <;> conv => whnf) | (refine And.intro ?_ ?_ <;> conv => whnf))
            all_goals try first | exact ⟨rfl⟩ | exact ⟨⟨rfl, rfl⟩⟩ | exact ⟨⟨rfl, rfl, rfl⟩⟩ | exact ⟨by omega⟩ | exact ⟨⟨by omega, by omega⟩⟩ | exact ⟨⟨by omega, by omega, by omega⟩⟩ | exact ⟨fun _ _ => trivial⟩ | exact ⟨fun _ _ => rfl⟩
            · refine ⟨?_⟩
              refine (lt_step ?_ (lt_step ?_ (lt_step ?_ (lt_step ?_ (lt_step ?_ (lt_step ?_ (lt_step ?_ (lt_step ?_ lt_zero))))))))
              all_goals (conv => whnf)
              all_goals (repeat' (refine And.intro ?_ ?_ <;> conv => whnf))
              all_goals first
                | trivial
                | exact ⟨⟨rfl, by decide⟩⟩
                | exact ⟨fun _ _ => trivial⟩
                | exact fun _ _ => trivial
            refine ⟨flatX [numT 7, ⟨4, 0, false, (gce v i).key⟩, bytT false (gce v i).val, numT (gce v i).stamp, bytT false (gce v i).author, bytT false (gce v i).id, numT 1], ⟨AE.tok (n := 8) ?_, trivial⟩, ⟨hfx⟩, ?_⟩
            · refine (lt_step ?_ (lt_step ?_ (lt_step ?_ (lt_step ?_ (lt_step ?_ (lt_step ?_ (lt_step ?_ (lt_step ?_ lt_zero))))))))
              · exact .inr ⟨rfl, rfl⟩
              · exact .inl rfl
              · exact .inl rfl
              · exact .inr ⟨rfl, rfl⟩
              · exact .inl rfl
              · exact .inl rfl
              · exact .inr ⟨rfl, rfl⟩
              · exact .inr ⟨rfl, rfl⟩
            intro r hr
            replace hr : r = (flatX [numT 7, ⟨4, 0, false, (gce v i).key⟩, bytT false (gce v i).val, numT (gce v i).stamp, bytT false (gce v i).author, bytT false (gce v i).id, numT 1]).t.by := hr
            rw [hby] at hr
            conv => whnf
            repeat' (first | (refine And.intro (fun _ => ?_) (fun _ => ?_) <;> conv => whnf) | (refine And.intro ?_ ?_ <;> conv => whnf))
            refine Or.inl ?_
            conv => whnf
            repeat' (first | (refine And.intro (fun _ => ?_) (fun _ => ?_) <;> conv => whnf) | (refine And.intro ?_ ?_ <;> conv => whnf))
            · exact ⟨rfl⟩
            · refine ⟨?_⟩
              have hq : r.length ≤ 32768 := by rw [hr]; exact arrL_len _
              show (_ + r.length) * 1 ≤ _ ∧ _ + r.length ≤ _
              simp only [Nat.mul_one]
              omega
            refine ⟨i + 1, [some 2], ?_⟩
            conv => whnf
            repeat' (refine And.intro ?_ ?_ <;> conv => whnf)
            all_goals try first | exact ⟨rfl⟩ | exact ⟨⟨rfl, rfl⟩⟩ | exact ⟨⟨rfl, rfl, rfl⟩⟩ | exact ⟨by omega⟩ | exact ⟨⟨by omega, by omega⟩⟩ | exact ⟨⟨by omega, by omega, by omega⟩⟩ | exact ⟨fun _ _ => rfl⟩ | exact ⟨by rw [wrap_id (by omega) (by omega)]; rfl⟩
            · refine ⟨⟨rfl, ?_, ?_⟩⟩ <;> simp only [cellsB, List.length_append, hr, Nat.add_assoc]
            · exact ⟨by simp only [cellsB, List.length_append, hr, Nat.add_assoc]⟩
            · refine ⟨fun k _ => leV_eq ?_ trivial⟩
              refine (bsn _ _ k).trans ?_
              rw [hr, List.append_assoc]
              rfl
          · rename_i hg
            rw [Int.toNat_natCast] at hg
            replace hg : (gce v i).gone = false := hg
            have hu : cellU (gce v i) = [numT 7, ⟨4, 0, false, (gce v i).key⟩, bytT false (gce v i).val, numT (gce v i).stamp, bytT false (gce v i).author, bytT false (gce v i).id, numT 0] := by rw [cellU, hg]; rfl
            rw [hu] at hby hfx
            refine ⟨7, rfl, ⟨trivial⟩, ?_⟩
            conv => whnf
            repeat' (first | (refine And.intro (fun _ => ?_) (fun _ => ?_) <;> conv => whnf) | (refine And.intro ?_ ?_ <;> conv => whnf))
            all_goals try first | exact ⟨rfl⟩ | exact ⟨⟨rfl, rfl⟩⟩ | exact ⟨⟨rfl, rfl, rfl⟩⟩ | exact ⟨by omega⟩ | exact ⟨⟨by omega, by omega⟩⟩ | exact ⟨⟨by omega, by omega, by omega⟩⟩ | exact ⟨fun _ _ => trivial⟩ | exact ⟨fun _ _ => rfl⟩
            refine ⟨(gce v i).stamp, rfl, ⟨trivial⟩, ?_⟩
            conv => whnf
            repeat' (first | (refine And.intro (fun _ => ?_) (fun _ => ?_) <;> conv => whnf) | (refine And.intro ?_ ?_ <;> conv => whnf))
            all_goals try first | exact ⟨rfl⟩ | exact ⟨⟨rfl, rfl⟩⟩ | exact ⟨⟨rfl, rfl, rfl⟩⟩ | exact ⟨by omega⟩ | exact ⟨⟨by omega, by omega⟩⟩ | exact ⟨⟨by omega, by omega, by omega⟩⟩ | exact ⟨fun _ _ => trivial⟩ | exact ⟨fun _ _ => rfl⟩
            refine ⟨(gce v i).author, ⟨AE.refl _, trivial⟩, ⟨hce.wf.1⟩, ?_⟩
            intro r hr
            obtain rfl : r = bytT false (gce v i).author := hr
            conv => whnf
            repeat' (first | (refine And.intro (fun _ => ?_) (fun _ => ?_) <;> conv => whnf) | (refine And.intro ?_ ?_ <;> conv => whnf))
            all_goals try first | exact ⟨rfl⟩ | exact ⟨⟨rfl, rfl⟩⟩ | exact ⟨⟨rfl, rfl, rfl⟩⟩ | exact ⟨by omega⟩ | exact ⟨⟨by omega, by omega⟩⟩ | exact ⟨⟨by omega, by omega, by omega⟩⟩ | exact ⟨fun _ _ => trivial⟩ | exact ⟨fun _ _ => rfl⟩
            refine ⟨(gce v i).id, ⟨AE.refl _, trivial⟩, ⟨hce.wf.2⟩, ?_⟩
            intro r hr
            obtain rfl : r = bytT false (gce v i).id := hr
            conv => whnf
            repeat' (first | (refine And.intro (fun _ => ?_) (fun _ => ?_) <;> conv => whnf) | (refine And.intro ?_ ?_ <;> conv => whnf))
            all_goals try first | exact ⟨rfl⟩ | exact ⟨⟨rfl, rfl⟩⟩ | exact ⟨⟨rfl, rfl, rfl⟩⟩ | exact ⟨by omega⟩ | exact ⟨⟨by omega, by omega⟩⟩ | exact ⟨⟨by omega, by omega, by omega⟩⟩ | exact ⟨fun _ _ => trivial⟩ | exact ⟨fun _ _ => rfl⟩
            refine ⟨0, rfl, ⟨trivial⟩, ?_⟩
            conv => whnf
            repeat' (first | (refine And.intro (fun _ => ?_) (fun _ => ?_) <;> conv => whnf) | (refine And.intro ?_ ?_ <;> conv => whnf))
            all_goals try first | exact ⟨rfl⟩ | exact ⟨⟨rfl, rfl⟩⟩ | exact ⟨⟨rfl, rfl, rfl⟩⟩ | exact ⟨by omega⟩ | exact ⟨⟨by omega, by omega⟩⟩ | exact ⟨⟨by omega, by omega, by omega⟩⟩ | exact ⟨fun _ _ => trivial⟩ | exact ⟨fun _ _ => rfl⟩
            · refine ⟨?_⟩
              refine (lt_step ?_ (lt_step ?_ (lt_step ?_ (lt_step ?_ (lt_step ?_ (lt_step ?_ (lt_step ?_ (lt_step ?_ lt_zero))))))))
              all_goals (conv => whnf)
              all_goals (repeat' (refine And.intro ?_ ?_ <;> conv => whnf))
              all_goals first
                | trivial
                | exact ⟨⟨rfl, by decide⟩⟩
                | exact ⟨fun _ _ => trivial⟩
                | exact fun _ _ => trivial
            refine ⟨flatX [numT 7, ⟨4, 0, false, (gce v i).key⟩, bytT false (gce v i).val, numT (gce v i).stamp, bytT false (gce v i).author, bytT false (gce v i).id, numT 0], ⟨AE.tok (n := 8) ?_, trivial⟩, ⟨hfx⟩, ?_⟩
            · refine (lt_step ?_ (lt_step ?_ (lt_step ?_ (lt_step ?_ (lt_step ?_ (lt_step ?_ (lt_step ?_ (lt_step ?_ lt_zero))))))))
              · exact .inr ⟨rfl, rfl⟩
              · exact .inl rfl
              · exact .inl rfl
              · exact .inr ⟨rfl, rfl⟩
              · exact .inl rfl
              · exact .inl rfl
              · exact .inr ⟨rfl, rfl⟩
              · exact .inr ⟨rfl, rfl⟩
            intro r hr
            replace hr : r = (flatX [numT 7, ⟨4, 0, false, (gce v i).key⟩, bytT false (gce v i).val, numT (gce v i).stamp, bytT false (gce v i).author, bytT false (gce v i).id, numT 0]).t.by := hr
            rw [hby] at hr
            conv => whnf
            repeat' (first | (refine And.intro (fun _ => ?_) (fun _ => ?_) <;> conv => whnf) | (refine And.intro ?_ ?_ <;> conv => whnf))
            refine Or.inl ?_
            conv => whnf
            repeat' (first | (refine And.intro (fun _ => ?_) (fun _ => ?_) <;> conv => whnf) | (refine And.intro ?_ ?_ <;> conv => whnf))
            · exact ⟨rfl⟩
            · refine ⟨?_⟩
              have hq : r.length ≤ 32768 := by rw [hr]; exact arrL_len _
              show (_ + r.length) * 1 ≤ _ ∧ _ + r.length ≤ _
              simp only [Nat.mul_one]
              omega
            refine ⟨i + 1, [some 2], ?_⟩
            conv => whnf
            repeat' (refine And.intro ?_ ?_ <;> conv => whnf)
            all_goals try first | exact ⟨rfl⟩ | exact ⟨⟨rfl, rfl⟩⟩ | exact ⟨⟨rfl, rfl, rfl⟩⟩ | exact ⟨by omega⟩ | exact ⟨⟨by omega, by omega⟩⟩ | exact ⟨⟨by omega, by omega, by omega⟩⟩ | exact ⟨fun _ _ => rfl⟩ | exact ⟨by rw [wrap_id (by omega) (by omega)]; rfl⟩
            · refine ⟨⟨rfl, ?_, ?_⟩⟩ <;> simp only [cellsB, List.length_append, hr, Nat.add_assoc]
            · exact ⟨by simp only [cellsB, List.length_append, hr, Nat.add_assoc]⟩
            · refine ⟨fun k _ => leV_eq ?_ trivial⟩
              refine (bsn _ _ k).trans ?_
              rw [hr, List.append_assoc]
              rfl
        · refine vc_ok hΓ mixed 1000 _ [] _ (by kernel_rfl) rfl ?_
          conv => whnf
          conv => whnf
          repeat' (first | (refine And.intro (fun _ => ?_) (fun _ => ?_) <;> conv => whnf) | (refine And.intro ?_ ?_ <;> conv => whnf))
          · exact ⟨by omega⟩
          · exact ⟨fun _ _ => own_bf _ _⟩
          have hi : i = v.length := by
            have : ¬ ((i : Nat) : Int) < (v.length : Nat) := by simpa using h4
            omega
          subst hi
          refine Ld.imm fun k _ => ?_
          rw [Nat.zero_add]
end Go.Proofs.YtimaobccedeafaaGreatDoor
