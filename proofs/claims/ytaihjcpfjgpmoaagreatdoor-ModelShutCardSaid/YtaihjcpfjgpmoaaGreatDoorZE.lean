/- Part of the claim: Z43, Z44. -/
import Derived.Test.YtaihjcpfjgpmoaaGreatDoorZD
import Derived.Lib.Bytealg
/- The reference: ids, proofs, feeds, sets. -/
namespace Go.Proofs.YtaihjcpfjgpmoaaGreatDoor
set_option linter.unusedVariables false
set_option linter.unusedSimpArgs false
set_option maxRecDepth 100000
open Go Go.DD
theorem cmpB_eq (a b : List UInt8) : cmpB a b = Lib.compareBytes a b := Lib.cmp_eq _ _
theorem cmpB_nil : cmpB [] [] = 0 := by rw [cmpB_eq]; rfl
theorem cmpB_cons (a b : UInt8) (l m : List UInt8) : cmpB (a :: l) (b :: m) = if a < b then -1 else if b < a then 1 else cmpB l m := by rw [cmpB_eq, cmpB_eq]; rfl
theorem cmpB_nc (b : UInt8) (m : List UInt8) : cmpB [] (b :: m) = -1 := by rw [cmpB_eq]; rfl
theorem cmpB_cn (b : UInt8) (m : List UInt8) : cmpB (b :: m) [] = 1 := by rw [cmpB_eq]; rfl
theorem less_eq : ∀ a b : List UInt8, Op.bytesLess a b = decide (cmpB a b < 0)
  | [], [] => by rw [cmpB_nil]; rfl
  | [], b :: m => by rw [cmpB_nc]; rfl
  | a :: l, [] => by rw [cmpB_cn]; rfl
  | a :: l, b :: m => by
    rw [cmpB_cons]
    have ih := less_eq l m
    show (decide (a < b) || a == b && Op.bytesLess l m) = _
    by_cases h1 : a < b
    · simp [h1]
    · by_cases h2 : b < a
      · have h3 : ¬ a = b := fun e => by subst e; exact h1 h2
        simp [h1, h2, h3]
      · have h3 : a = b := by
          simp only [UInt8.lt_iff_toNat_lt] at h1 h2
          exact UInt8.toNat_inj.1 (by omega)
        subst h3
        simp [h1, ih]
theorem cmpB_zero : ∀ {a b : List UInt8}, cmpB a b = 0 ↔ a = b
  | [], [] => by simp [cmpB_nil]
  | [], b :: m => by simp [cmpB_nc]
  | a :: l, [] => by simp [cmpB_cn]
  | a :: l, b :: m => by
    rw [cmpB_cons]
    have ih := cmpB_zero (a := l) (b := m)
    simp only [UInt8.lt_iff_toNat_lt]
    constructor
    · intro h
      split at h
      · cases h
      · split at h
        · cases h
        · rw [ih.1 h, UInt8.toNat_inj.1 (show a.toNat = b.toNat by omega)]
    · intro h
      cases h
      rw [if_neg (Nat.lt_irrefl _), if_neg (Nat.lt_irrefl _)]
      exact ih.2 rfl
theorem cmpB_swap : ∀ a b : List UInt8, cmpB b a = - cmpB a b
  | [], [] => by simp [cmpB_nil]
  | [], b :: m => by simp [cmpB_nc, cmpB_cn]
  | a :: l, [] => by simp [cmpB_cn, cmpB_nc]
  | a :: l, b :: m => by
    rw [cmpB_cons, cmpB_cons]
    have ih := cmpB_swap l m
    simp only [UInt8.lt_iff_toNat_lt]
    split
    · first | (rw [if_neg (by omega)]; done) | (rw [if_neg (by omega)]; rfl)
    · split
      · rfl
      · exact ih
theorem cmpB_trans : ∀ {a b c : List UInt8}, cmpB a b < 0 → cmpB b c < 0 → cmpB a c < 0
  | [], [], _, h, _ => by rw [cmpB_nil] at h; omega
  | _ :: _, [], _, h, _ => by rw [cmpB_cn] at h; omega
  | [], _ :: _, [], _, h => by rw [cmpB_cn] at h; omega
  | _ :: _, _ :: _, [], _, h => by rw [cmpB_cn] at h; omega
  | [], _ :: _, _ :: _, _, _ => by rw [cmpB_nc]; omega
  | a :: l, b :: m, c :: n, h1, h2 => by
    rw [cmpB_cons] at h1 h2 ⊢
    simp only [UInt8.lt_iff_toNat_lt] at h1 h2 ⊢
    split at h1
    · split at h2
      · rw [if_pos (by omega)]; omega
      · split at h2
        · omega
        · rw [if_pos (by omega)]; omega
    · split at h1
      · omega
      · split at h2
        · rw [if_pos (by omega)]; omega
        · split at h2
          · omega
          · rw [if_neg (by omega), if_neg (by omega)]
            exact cmpB_trans h1 h2
theorem encE_ok {e : Ent} (hw : wfE e) : (encE e).2 = 0 ↔ entOk e = true := by
  constructor
  · intro h
    unfold encE at h
    split at h
    · assumption
    · cases h
  · intro h
    rw [encE_eq hw h]
theorem idE_ok {e : Ent} (hw : wfE e) : (idE e).2 = 0 ↔ entOk e = true := by
  rw [← encE_ok hw, idE]
  split
  · rename_i h; simp [h]
  · rfl
def F75 : FSpec := mkG (fun (e : Ent) => [entV e]) (fun e => preE e ∧ entOk e = true) (fun e => (idE e).1) (arrV 32)
theorem f75_ok : FOk Tryz.prog G 55 F75 := mkG_ok fun e ⟨he, hok⟩ => by
  have h1 := encE_eq he.1 hok
  have h2 := entTr_len he.1 hok
  have hΓ := ctxG_ok Tryz.f55.ntmps [(97, F107), (34, F50)] [] [] (.cons (f107_ok) (.cons (f50_ok.g) .nil)) .nil
  refine CP_of_OK hΓ Tryz.func55 (c := bodyOf Tryz.f55) rfl (by decide) rfl rfl (by simp) (vc_ok hΓ mixed 1000 _ [] _ (by kernel_rfl) rfl ?_)
  conv => whnf
  repeat' (first | (refine And.intro (fun _ => ?_) (fun _ => ?_) <;> conv => whnf) | (refine And.intro ?_ ?_ <;> conv => whnf))
  all_goals try first | exact ⟨rfl⟩ | exact ⟨⟨rfl, rfl⟩⟩ | exact ⟨⟨rfl, rfl, rfl⟩⟩ | exact ⟨fun _ _ => rfl⟩ | exact ⟨fun _ _ => trivial⟩ | exact ⟨fun k _ => isU8_bf _ k⟩ | exact ⟨by omega⟩ | exact ⟨⟨by omega, by omega⟩⟩ | exact ⟨⟨by omega, by omega, by omega⟩⟩
  refine ⟨e, ⟨AE.refl _, trivial⟩, ⟨he, hok⟩, ?_⟩
  intro r hr
  replace hr : r = (entTr e).by := hr
  conv => whnf
  repeat' (first | (refine And.intro (fun _ => ?_) (fun _ => ?_) <;> conv => whnf) | (refine And.intro ?_ ?_ <;> conv => whnf))
  refine ⟨.of _ _, ⟨AE.refl _, trivial⟩, ⟨trivial, by show r.length ≤ 1000000; rw [hr]; omega⟩, ?_⟩
  intro w hw
  replace hw : w = sha r := hw
  conv => whnf
  repeat' (first | (refine And.intro (fun _ => ?_) (fun _ => ?_) <;> conv => whnf) | (refine And.intro ?_ ?_ <;> conv => whnf))
  all_goals try first | exact ⟨rfl⟩ | exact ⟨⟨rfl, rfl⟩⟩ | exact ⟨⟨rfl, rfl, rfl⟩⟩ | exact ⟨fun _ _ => rfl⟩ | exact ⟨fun _ _ => trivial⟩ | exact ⟨fun k _ => isU8_bf _ k⟩ | exact ⟨by omega⟩ | exact ⟨⟨by omega, by omega⟩⟩ | exact ⟨⟨by omega, by omega, by omega⟩⟩
  rw [show (idE e).1 = w by rw [idE, h1, hw, hr]; rfl]
  exact Ld.refl _
def prfOk (p : Pf) : Bool := decide (ordP p.a p.b < 0)
def F76 : FSpec := mkG (fun (p : Pf) => [pfV p]) (fun p => preE p.a ∧ preE p.b) prfOk .bool
theorem prfOk_eq {p : Pf} (ha : preE p.a) (hb : preE p.b) : prfOk p = (entOk p.a && entOk p.b && decide (p.a.author = p.b.author) && decide (p.a.seq = p.b.seq) && Op.bytesLess (encE p.a).1 (encE p.b).1) := by
  have h1 := encE_ok ha.1
  have h2 := encE_ok hb.1
  rw [less_eq, prfOk, ordP]
  refine boolEq ?_
  simp only [decide_eq_true_eq, Bool.and_eq_true, ← h1, ← h2]
  split
  · rename_i h
    refine ⟨fun h0 => absurd h0 (by decide), fun ⟨⟨⟨⟨a1, a2⟩, a3⟩, a4⟩, _⟩ => ?_⟩
    rcases h with h | h | h | h
    · exact absurd a1 h
    · exact absurd a2 h
    · exact absurd a3 h
    · exact absurd a4 h
  · rename_i h
    simp only [not_or, ne_eq, Decidable.not_not] at h
    simp [h]
theorem f76_ok : FOk Tryz.prog G 56 F76 := mkG_ok fun p ⟨ha, hb⟩ => by
  have hau := rowEq_bf ha.1.1 hb.1.1
  rw [prfOk_eq ha hb]
  have hΓ := ctxG_ok Tryz.f56.ntmps [(54, F74), (97, F107)] [] [] (.cons (f74_ok.g) (.cons (f107_ok) .nil)) .nil
  refine CP_of_OK hΓ Tryz.func56 (c := bodyOf Tryz.f56) rfl (by decide) rfl rfl (by simp) (vc_ok hΓ mixed 1000 _ [] _ (by kernel_rfl) rfl ?_)
  conv => whnf
  repeat' (first | (refine And.intro (fun _ => ?_) (fun _ => ?_) <;> conv => whnf) | (refine And.intro ?_ ?_ <;> conv => whnf))
  all_goals try first | exact ⟨rfl⟩ | exact ⟨⟨rfl, rfl⟩⟩ | exact ⟨⟨rfl, rfl, rfl⟩⟩ | exact ⟨fun _ _ => rfl⟩ | exact ⟨fun _ _ => trivial⟩ | exact ⟨fun k _ => isU8_bf _ k⟩ | exact ⟨by omega⟩ | exact ⟨⟨by omega, by omega⟩⟩ | exact ⟨⟨by omega, by omega, by omega⟩⟩
  refine ⟨p.a, ⟨AE.refl _, trivial⟩, ⟨ha.1⟩, ?_⟩
  intro r hr
  replace hr : r = entOk p.a := hr
  rw [← hr]
  conv => whnf
  repeat' (first | (refine And.intro (fun _ => ?_) (fun _ => ?_) <;> conv => whnf) | (refine And.intro ?_ ?_ <;> conv => whnf))
  all_goals try first | exact ⟨rfl⟩ | exact ⟨⟨rfl, rfl⟩⟩ | exact ⟨⟨rfl, rfl, rfl⟩⟩ | exact ⟨fun _ _ => rfl⟩ | exact ⟨fun _ _ => trivial⟩ | exact ⟨fun k _ => isU8_bf _ k⟩ | exact ⟨by omega⟩ | exact ⟨⟨by omega, by omega⟩⟩ | exact ⟨⟨by omega, by omega, by omega⟩⟩
  · rename_i g1
    replace g1 : r = true := g1
    refine ⟨p.b, ⟨AE.refl _, trivial⟩, ⟨hb.1⟩, ?_⟩
    intro q hq
    replace hq : q = entOk p.b := hq
    rw [← hq]
    conv => whnf
    repeat' (first | (refine And.intro (fun _ => ?_) (fun _ => ?_) <;> conv => whnf) | (refine And.intro ?_ ?_ <;> conv => whnf))
    all_goals try first | exact ⟨rfl⟩ | exact ⟨⟨rfl, rfl⟩⟩ | exact ⟨⟨rfl, rfl, rfl⟩⟩ | exact ⟨fun _ _ => rfl⟩ | exact ⟨fun _ _ => trivial⟩ | exact ⟨fun k _ => isU8_bf _ k⟩ | exact ⟨by omega⟩ | exact ⟨⟨by omega, by omega⟩⟩ | exact ⟨⟨by omega, by omega, by omega⟩⟩ | exact ⟨fun _ _ => rfl⟩
    · rename_i g2 g3 g4
      replace g2 : q = true := g2
      replace g3 : rowEq 32 (bf p.a.author) (bf p.b.author) = true := g3
      rw [hau] at g3
      simp only [decide_eq_true_eq, beq_iff_eq] at g3 g4
      have k1 := encE_eq ha.1 (hr.symm.trans g1)
      have k2 := encE_eq hb.1 (hq.symm.trans g2)
      refine ⟨p.a, ⟨AE.refl _, trivial⟩, ⟨ha, hr.symm.trans g1⟩, ?_⟩
      intro x hx
      replace hx : x = (entTr p.a).by := hx
      conv => whnf
      repeat' (first | (refine And.intro (fun _ => ?_) (fun _ => ?_) <;> conv => whnf) | (refine And.intro ?_ ?_ <;> conv => whnf))
      all_goals try first | exact ⟨rfl⟩ | exact ⟨⟨rfl, rfl⟩⟩ | exact ⟨⟨rfl, rfl, rfl⟩⟩ | exact ⟨fun _ _ => rfl⟩ | exact ⟨fun _ _ => trivial⟩ | exact ⟨fun k _ => isU8_bf _ k⟩ | exact ⟨by omega⟩ | exact ⟨⟨by omega, by omega⟩⟩ | exact ⟨⟨by omega, by omega, by omega⟩⟩
      refine ⟨p.b, ⟨AE.refl _, trivial⟩, ⟨hb, hq.symm.trans g2⟩, ?_⟩
      intro y hy
      replace hy : y = (entTr p.b).by := hy
      conv => whnf
      repeat' (first | (refine And.intro (fun _ => ?_) (fun _ => ?_) <;> conv => whnf) | (refine And.intro ?_ ?_ <;> conv => whnf))
      all_goals try first | exact ⟨rfl⟩ | exact ⟨⟨rfl, rfl⟩⟩ | exact ⟨⟨rfl, rfl, rfl⟩⟩ | exact ⟨fun _ _ => rfl⟩ | exact ⟨fun _ _ => trivial⟩ | exact ⟨fun k _ => isU8_bf _ k⟩ | exact ⟨by omega⟩ | exact ⟨⟨by omega, by omega⟩⟩ | exact ⟨⟨by omega, by omega, by omega⟩⟩
      rw [bytesOf_bf, bytesOf_bf, k1, k2, g1, g2, ← hx, ← hy]
      refine Ld.of (congrArg V.bool (boolEq ?_))
      simp [g3, g4]
    · rename_i g2 g3 g4
      refine Ld.of (congrArg V.bool (boolEq ?_))
      simp only [beq_eq_false_iff_ne, ne_eq] at g4
      simp [g4]
    · rename_i g2 g3
      replace g3 : rowEq 32 (bf p.a.author) (bf p.b.author) = false := g3
      rw [hau] at g3
      refine Ld.of (congrArg V.bool (boolEq ?_))
      simp [g3]
    · rename_i g2
      replace g2 : q = false := g2
      refine Ld.of (congrArg V.bool (boolEq ?_))
      simp [g2]
  · rename_i g1
    replace g1 : r = false := g1
    refine Ld.of (congrArg V.bool ?_)
    rw [g1]; rfl
end Go.Proofs.YtaihjcpfjgpmoaaGreatDoor

/- The reference: feeds, sets. -/
namespace Go.Proofs.YtaihjcpfjgpmoaaGreatDoor
set_option linter.unusedVariables false
set_option linter.unusedSimpArgs false
set_option maxRecDepth 100000
open Go Go.DD
def lastR (f : Fd) : Int × List UInt8 := if f.n = 0 then (0, z32) else ((f.n : Nat), (idE (f.es (f.n - 1))).1)
theorem folF_last {author : List UInt8} {es : Nat → Ent} {n : Nat} (h : (folF author es (n + 1)).2 = true) : (folF author es (n + 1)).1 = (idE (es n)).1 := by
  simp only [folF] at h ⊢
  split at h
  · rename_i h1; rw [h] at h1; cases h1
  · split at h
    · cases h
    · rename_i h1 h2
      rw [if_neg h1, if_neg h2]
theorem lastR_eq {f : Fd} (h : (lookF f).2 = true) : lastF f = ((lastR f).1, (lastR f).2, 0) := by
  have h1 := lastF_ok h
  have h2 : (folR f.author f.es f.n).2 = true := by
    simp only [lookF, Bool.and_eq_true] at h
    exact h.1
  obtain ⟨hn, _⟩ := look_ents h
  have e2 : folR f.author f.es f.n = folF f.author f.es f.n := if_neg (by omega)
  rw [e2] at h2
  have h3 : (lookF f).1 = (folF f.author f.es f.n).1 := by show (folR f.author f.es f.n).1 = _; rw [e2]
  rw [h1, h3, lastR]
  split
  · rename_i h0
    rw [h0]
    rfl
  · rename_i h0
    obtain ⟨m, hm⟩ : ∃ m, f.n = m + 1 := ⟨f.n - 1, by omega⟩
    rw [hm] at h2 ⊢
    rw [folF_last h2]
    rfl
def F47 : FSpec := mkG (fun (f : Fd) => [fdV f]) (fun f => preF f ∧ f.n ≤ 1000000 ∧ (∀ k, k < f.n → entOk (f.es k) = true)) lastR (fun r => .tup (.cons (.int .i64 r.1) (.cons (arrV 32 r.2) .nil)))
theorem f47_ok : FOk Tryz.prog G 119 F47 := mkG_ok fun f ⟨hf, hn, he⟩ => by
  have hΓ := ctxG_ok Tryz.f119.ntmps [(55, F75)] [] [] (.cons (f75_ok) .nil) .nil
  refine CP_of_OK hΓ Tryz.func119 (c := bodyOf Tryz.f119) rfl (by decide) rfl rfl (by simp) (vc_ok hΓ mixed 1000 _ [] _ (by kernel_rfl) rfl ?_)
  conv => whnf
  refine And.intro (fun h1 => ?_) (fun h1 => ?_) <;> conv => whnf
  · have h2 : f.n = 0 := by
      simp only [beq_iff_eq] at h1
      omega
    rw [lastR, if_pos h2]
    conv => whnf
    repeat' (first | (refine And.intro (fun _ => ?_) (fun _ => ?_) <;> conv => whnf) | (refine And.intro ?_ ?_ <;> conv => whnf))
    · exact ⟨fun _ _ => trivial⟩
    refine Ld.of ?_
    refine congrArg (fun g => V.tup (.cons (.int .i64 0) (.cons (.row 1 32 g) .nil))) ?_
    exact funext fun k => (bf_rep 32 k).symm
  · have h2 : ¬ f.n = 0 := by
      simp only [beq_eq_false_iff_ne, ne_eq] at h1
      omega
    have e0 : IntKind.i64.wrap ((f.n : Int) - 1) = ((f.n - 1 : Nat) : Int) := by rw [wrap_id (by omega) (by omega)]; omega
    rw [lastR, if_neg h2]
    conv => whnf
    repeat' (first | (refine And.intro (fun _ => ?_) (fun _ => ?_) <;> conv => whnf) | (refine And.intro ?_ ?_ <;> conv => whnf))
    · exact ⟨by rw [e0]; omega⟩
    · exact ⟨fun _ _ => trivial⟩
    · exact ⟨fun _ _ => trivial⟩
    · exact ⟨fun _ _ => trivial⟩
    rw [e0, Int.toNat_natCast]
    refine ⟨f.es (f.n - 1), ⟨AE.refl _, trivial⟩, ⟨hf.2.1 _ (by omega), he _ (by omega)⟩, ?_⟩
    intro r hr
    conv => whnf
    repeat' (first | (refine And.intro (fun _ => ?_) (fun _ => ?_) <;> conv => whnf) | (refine And.intro ?_ ?_ <;> conv => whnf))
    all_goals try first | exact ⟨rfl⟩ | exact ⟨⟨rfl, rfl⟩⟩ | exact ⟨⟨rfl, rfl, rfl⟩⟩ | exact ⟨fun _ _ => rfl⟩ | exact ⟨fun _ _ => trivial⟩ | exact ⟨fun k _ => isU8_bf _ k⟩ | exact ⟨by omega⟩ | exact ⟨⟨by omega, by omega⟩⟩ | exact ⟨⟨by omega, by omega, by omega⟩⟩
    rw [hr]
    exact Ld.refl _
/-- Nothing. -/
def ent0 : Ent := ⟨z32, 0, z32, 0, 0, [], [], List.replicate 64 0⟩
theorem eqE_none {e : Ent} : eqE e ent0 = noneE e := by
  refine boolEq ?_
  simp only [eqE, eqO, noneE, Bool.and_eq_true]
  constructor
  · rintro ⟨⟨⟨⟨⟨h1, h2⟩, h3⟩, h4⟩, ⟨h5, h6⟩, h7⟩, h8⟩
    exact ⟨⟨⟨⟨⟨⟨⟨decide_eq_true (of_decide_eq_true h1), decide_eq_true (of_decide_eq_true h2)⟩, decide_eq_true (of_decide_eq_true h3)⟩, decide_eq_true (of_decide_eq_true h4)⟩, decide_eq_true (of_decide_eq_true h8)⟩, decide_eq_true (of_decide_eq_true h5)⟩, decide_eq_true (of_decide_eq_true h6)⟩, decide_eq_true (congrArg List.length (of_decide_eq_true h7))⟩
  · rintro ⟨⟨⟨⟨⟨⟨⟨h1, h2⟩, h3⟩, h4⟩, h8⟩, h5⟩, h6⟩, h7⟩
    exact ⟨⟨⟨⟨⟨decide_eq_true (of_decide_eq_true h1), decide_eq_true (of_decide_eq_true h2)⟩, decide_eq_true (of_decide_eq_true h3)⟩, decide_eq_true (of_decide_eq_true h4)⟩, ⟨decide_eq_true (of_decide_eq_true h5), decide_eq_true (of_decide_eq_true h6)⟩, decide_eq_true (List.length_eq_zero_iff.1 (of_decide_eq_true h7))⟩, decide_eq_true (of_decide_eq_true h8)⟩
theorem wfE_ent0 : wfE ent0 := ⟨by simp [ent0, z32], by simp [ent0, z32], by simp [ent0]⟩
def zV : V := .st (.cons (.row 1 32 fun _ => .int .u8 0) (.cons (.int .i64 0) (.cons (.row 1 32 fun _ => .int .u8 0) (.cons (.int .i64 0) (.cons (.st (.cons (.int .i64 0) (.cons (.str []) (.cons .emp .nil)))) (.cons (.row 1 64 fun _ => .int .u8 0) .nil))))))
theorem LdR_ent0 : LdR zV (entV ent0) := by
  refine LdRs.st (.cons (LdR.row fun k _ => (bf_rep 32 k).symm) (.cons (LdR.refl _) (.cons (LdR.row fun k _ => (bf_rep 32 k).symm) (.cons (LdR.refl _) (.cons ?_ (.cons (LdR.row fun k _ => (bf_rep 64 k).symm) .nil))))))
  exact LdRs.st (.cons (LdR.refl _) (.cons (LdR.refl _) (.cons LdR.emp .nil)))
theorem AE_pf0 : AE (.st (.cons zV (.cons zV .nil))) (pfV ⟨ent0, ent0⟩) := (Ld.st (.cons LdR_ent0 (.cons LdR_ent0 .nil))).1
def okVE (e : Ent) : Prop := preE e ∧ e.val.length ≤ 1000000
def F43 : FSpec := mkG (fun (f : Fd) => [fdV f]) (fun f => preF f ∧ f.pf.a.val.length ≤ 9223372036854775807 ∧ f.pf.b.val.length ≤ 9223372036854775807) (fun f => (lookF f).2) .bool
theorem f43_ok : FOk Tryz.prog G 23 F43 := mkG_ok fun f ⟨⟨hf1, hf2, hf3, hf4⟩, v1, v2⟩ => by
  have hΓ := ctxG_ok Tryz.f23.ntmps [(32, F73), (54, F74), (55, F75), (56, F76)] [] [] (.cons (f73_ok.g) (.cons (f74_ok.g) (.cons (f75_ok) (.cons (f76_ok) .nil)))) .nil
  refine CP_of_OK hΓ Tryz.func23 (c := bodyOf Tryz.f23) rfl (by decide) rfl rfl (by simp) (vc_ok hΓ mixed 1000 _ [] _ (by kernel_rfl) rfl ?_)
  conv => whnf
  refine And.intro (fun h1 => ?_) (fun h1 => ?_) <;> conv => whnf
  · have h2 : 200 < f.n := by
      have : (200 : Int) < (f.n : Nat) := of_decide_eq_true h1
      omega
    refine Ld.of (congrArg V.bool ?_)
    simp [lookF, folR, h2]
  have h2 : ¬ 200 < f.n := by
    have : ¬ (200 : Int) < (f.n : Nat) := of_decide_eq_false h1
    omega
  have e1 : folR f.author f.es f.n = folF f.author f.es f.n := if_neg h2
  have hl : (lookF f).2 = ((folF f.author f.es f.n).2 && (if f.shut then decide (ordP f.pf.a f.pf.b < 0) && decide (f.pf.a.author = f.author) else noneE f.pf.a && noneE f.pf.b)) := by rw [lookF, e1]
  rw [hl]
  refine OK_loopC (ι := Nat) (fun i => [(1, .ref 0 []), (3, .ref 1 []), (4, .int .i64 (i : Nat))]) (fun i => [some (fdV f), some (arrV 32 (folF f.author f.es i).1)]) (fun i => i ≤ f.n ∧ (folF f.author f.es i).2 = true) (fun i => f.n - i) 0 [some 0, some 1] ?_ (fun i hi => vc_ok hΓ mixed 1000 _ [] _ (by kernel_rfl) rfl ?_)
  · conv => whnf
    repeat' (first | (refine And.intro (fun _ => ?_) (fun _ => ?_) <;> conv => whnf) | (refine And.intro ?_ ?_ <;> conv => whnf))
    all_goals try first | exact ⟨rfl⟩ | exact ⟨⟨rfl, rfl⟩⟩ | exact ⟨⟨rfl, rfl, rfl⟩⟩ | exact ⟨by omega⟩ | exact ⟨⟨by omega, by omega⟩⟩ | exact ⟨⟨by omega, by omega, by omega⟩⟩ | exact ⟨fun k _ => leV_refl _ trivial⟩ | exact ⟨fun _ _ => rfl⟩ | exact ⟨⟨Nat.zero_le _, rfl⟩⟩
    · exact ⟨fun k _ => leV_eq (bf_rep 32 k).symm trivial⟩
  obtain ⟨hi1, hi2⟩ := hi
  conv => whnf
  refine And.intro (fun h3 => ?_) (fun h3 => ?_) <;> conv => whnf
  · have hin : i < f.n := by
      have : ((i : Nat) : Int) < (f.n : Nat) := of_decide_eq_true h3
      omega
    have w0 := hf2 i hin
    have wl := folF_length f.author f.es i
    have ea := rowEq_bf w0.1.1 hf1
    have ep := rowEq_bf w0.1.2.1 wl
    have ew : IntKind.i64.wrap ((i : Int) + 1) = (i : Int) + 1 := wrap_id (by omega) (by omega)
    have hid := idE_ok w0.1
    have hstop : folF f.author f.es (i + 1) = ((folF f.author f.es i).1, false) → Ld (V.bool false) (V.bool ((folF f.author f.es f.n).2 && (if f.shut then decide (ordP f.pf.a f.pf.b < 0) && decide (f.pf.a.author = f.author) else noneE f.pf.a && noneE f.pf.b))) := fun h => by
      rw [folF_stop (i := i + 1) (by rw [h]) f.n (by omega), h]
      exact Ld.refl _
    have hgo : ((idE (f.es i)).2 ≠ 0 ∨ (f.es i).author ≠ f.author ∨ (f.es i).seq ≠ (i : Nat) + 1 ∨ (f.es i).prev ≠ (folF f.author f.es i).1) → folF f.author f.es (i + 1) = ((folF f.author f.es i).1, false) := fun h => by
      simp only [folF]
      rw [if_neg (by simp [hi2]), if_pos h]
    conv => whnf
    repeat' (first | (refine And.intro (fun _ => ?_) (fun _ => ?_) <;> conv => whnf) | (refine And.intro ?_ ?_ <;> conv => whnf))
    all_goals try first | exact ⟨rfl⟩ | exact ⟨⟨rfl, rfl⟩⟩ | exact ⟨⟨rfl, rfl, rfl⟩⟩ | exact ⟨by omega⟩ | exact ⟨⟨by omega, by omega⟩⟩ | exact ⟨⟨by omega, by omega, by omega⟩⟩ | exact ⟨fun _ _ => trivial⟩ | exact ⟨fun _ _ => rfl⟩
    refine ⟨f.es i, ⟨AE.refl _, trivial⟩, ⟨w0.1⟩, ?_⟩
    intro r hr
    replace hr : r = entOk (f.es i) := hr
    rw [← hr] at hid
    conv => whnf
    repeat' (first | (refine And.intro (fun _ => ?_) (fun _ => ?_) <;> conv => whnf) | (refine And.intro ?_ ?_ <;> conv => whnf))
    all_goals try first | exact ⟨rfl⟩ | exact ⟨⟨rfl, rfl⟩⟩ | exact ⟨⟨rfl, rfl, rfl⟩⟩ | exact ⟨by omega⟩ | exact ⟨⟨by omega, by omega⟩⟩ | exact ⟨⟨by omega, by omega, by omega⟩⟩ | exact ⟨fun _ _ => trivial⟩ | exact ⟨fun _ _ => rfl⟩
    all_goals (try simp only [Int.toNat_natCast, ea, ep, ew, Bool.not_eq_true', Bool.not_eq_false', bne_iff_ne, ne_eq, bne_eq_false_iff_eq, decide_eq_true_eq, decide_eq_false_iff_not] at *)
    · rename_i g1
      refine hstop (hgo (.inl fun h => ?_))
      rw [hid.1 h] at g1; cases g1
    · rename_i g1
      exact hstop (hgo (.inr (.inl g1)))
    · rename_i g1
      exact hstop (hgo (.inr (.inr (.inl g1))))
    · rename_i g1
      exact hstop (hgo (.inr (.inr (.inr g1))))
    rename_i g1 g2 g3 g4
    have hs : folF f.author f.es (i + 1) = ((idE (f.es i)).1, true) := by
      simp only [folF]
      rw [if_neg (by simp [hi2]), if_neg ?_]
      rintro (h | h | h | h)
      · exact h (hid.2 g1)
      · exact h g2
      · exact h g3
      · exact h g4
    refine ⟨f.es i, ⟨AE.refl _, trivial⟩, ⟨w0, hr.symm.trans g1⟩, ?_⟩
    intro q hq
    replace hq : q = (idE (f.es i)).1 := hq
    rw [← hq] at hs
    clear hq hid hgo hstop
    conv => whnf
    repeat' (first | (refine And.intro (fun _ => ?_) (fun _ => ?_) <;> conv => whnf) | (refine And.intro ?_ ?_ <;> conv => whnf))
    all_goals try first | exact ⟨rfl⟩ | exact ⟨⟨rfl, rfl⟩⟩ | exact ⟨⟨rfl, rfl, rfl⟩⟩ | exact ⟨by omega⟩ | exact ⟨⟨by omega, by omega⟩⟩ | exact ⟨⟨by omega, by omega, by omega⟩⟩
    refine ⟨i + 1, [some 0, some 1], ?_⟩
    conv => whnf
    repeat' (refine And.intro ?_ ?_ <;> conv => whnf)
    all_goals try first | exact ⟨rfl⟩ | exact ⟨⟨rfl, rfl⟩⟩ | exact ⟨⟨rfl, rfl, rfl⟩⟩ | exact ⟨by omega⟩ | exact ⟨⟨by omega, by omega⟩⟩ | exact ⟨⟨by omega, by omega, by omega⟩⟩ | exact ⟨fun k _ => leV_refl _ trivial⟩ | exact ⟨fun _ _ => rfl⟩
    · exact ⟨by rw [wrap_id (by omega) (by omega)]; rfl⟩
    · exact ⟨fun k _ => leV_eq (by rw [hs]) trivial⟩
    · exact ⟨⟨⟨hin, by rw [hs]⟩, by omega⟩⟩
  · have hin : i = f.n := by
      have : ¬ ((i : Nat) : Int) < (f.n : Nat) := of_decide_eq_false h3
      omega
    subst hin
    refine vc_ok hΓ mixed 1000 _ [] _ (by kernel_rfl) rfl ?_
    conv => whnf
    rw [hi2, Bool.true_and]
    conv => whnf
    repeat' (first | (refine And.intro (fun _ => ?_) (fun _ => ?_) <;> conv => whnf) | (refine And.intro ?_ ?_ <;> conv => whnf))
    all_goals try first | exact ⟨rfl⟩ | exact ⟨⟨rfl, rfl⟩⟩ | exact ⟨⟨rfl, rfl, rfl⟩⟩ | exact ⟨fun _ _ => rfl⟩ | exact ⟨fun _ _ => trivial⟩ | exact ⟨fun k _ => isU8_bf _ k⟩ | exact ⟨by omega⟩ | exact ⟨⟨by omega, by omega⟩⟩ | exact ⟨⟨by omega, by omega, by omega⟩⟩
    · rename_i g1
      replace g1 : f.shut = true := g1
      rw [if_pos g1]
      refine ⟨f.pf, ⟨AE.refl _, trivial⟩, ⟨hf3, hf4⟩, ?_⟩
      intro q hq
      replace hq : q = decide (ordP f.pf.a f.pf.b < 0) := hq
      rw [← hq]
      conv => whnf
      repeat' (first | (refine And.intro (fun _ => ?_) (fun _ => ?_) <;> conv => whnf) | (refine And.intro ?_ ?_ <;> conv => whnf))
      all_goals try first | exact ⟨rfl⟩ | exact ⟨⟨rfl, rfl⟩⟩ | exact ⟨⟨rfl, rfl, rfl⟩⟩ | exact ⟨fun _ _ => rfl⟩ | exact ⟨fun _ _ => trivial⟩ | exact ⟨fun k _ => isU8_bf _ k⟩ | exact ⟨by omega⟩ | exact ⟨⟨by omega, by omega⟩⟩ | exact ⟨⟨by omega, by omega, by omega⟩⟩ | exact ⟨fun _ _ => rfl⟩
      · rename_i g2
        replace g2 : q = true := g2
        rw [g2]
        refine Ld.of (congrArg V.bool ?_)
        exact (rowEq_bf hf3.1.1 hf1).trans (Bool.true_and _).symm
      · rename_i g2
        replace g2 : q = false := g2
        rw [g2]
        exact Ld.refl _
    · rename_i g1
      replace g1 : f.shut = false := g1
      rw [if_neg (by simp [g1])]
      refine ⟨(f.pf, ⟨ent0, ent0⟩), ⟨AE.refl _, AE_pf0, trivial⟩, ⟨⟨hf3.1, v1⟩, ⟨hf4.1, v2⟩, wfE_ent0, wfE_ent0⟩, ?_⟩
      intro q hq
      replace hq : q = (eqE f.pf.a ent0 && eqE f.pf.b ent0) := hq
      rw [eqE_none, eqE_none] at hq
      rw [← hq]
      conv => whnf
      repeat' (first | (refine And.intro (fun _ => ?_) (fun _ => ?_) <;> conv => whnf) | (refine And.intro ?_ ?_ <;> conv => whnf))
      exact Ld.refl _
/-- Sets: the same as the program's. -/
def F16 : FSpec := mkG (fun (a : Fds) => [fdsV a.b a.n a.l]) (fun a => ∀ k, k < a.n → preF (a.l k) ∧ (a.l k).pf.a.val.length ≤ 9223372036854775807 ∧ (a.l k).pf.b.val.length ≤ 9223372036854775807) (fun a => feedsOk a.n a.l) .bool
theorem f16_ok : FOk Tryz.prog G 8 F16 := mkG_ok fun a hl => by
  have hΓ := ctxG_ok Tryz.f8.ntmps [(22, F42), (23, F43)] [] [] (.cons (f42_ok.g) (.cons (f43_ok) .nil)) .nil
  refine CP_of_OK hΓ Tryz.func8 (c := bodyOf Tryz.f8) rfl (by decide) rfl rfl (by simp) (vc_ok hΓ mixed 1000 _ [] _ (by kernel_rfl) rfl ?_)
  conv => whnf
  refine ⟨((a.n : Nat), 1, 8), ⟨AE.refl _, AE.refl _, AE.refl _, trivial⟩, ⟨trivial⟩, ?_⟩
  intro r hr
  replace hr : r = (decide ((1 : Int) ≤ (a.n : Nat)) && decide (((a.n : Nat) : Int) ≤ 8)) := hr
  conv => whnf
  refine And.intro (fun h1 => ?_) (fun h1 => ?_) <;> conv => whnf
  · have h2 : r = false := by simpa using h1
    rw [h2] at hr
    have hr := hr.symm
    simp only [Bool.and_eq_false_iff, decide_eq_false_iff_not] at hr
    refine Ld.of (congrArg V.bool ?_)
    rw [feedsOk]
    rcases hr with h | h
    · rw [show decide (1 ≤ a.n) = false from decide_eq_false (by omega)]; rfl
    · rw [show decide (a.n ≤ 8) = false from decide_eq_false (by omega), Bool.and_false]; rfl
  have h2 : r = true := by simpa using h1
  rw [h2] at hr
  have hr := hr.symm
  simp only [Bool.and_eq_true, decide_eq_true_eq] at hr
  have e1 : feedsOk a.n a.l = (List.range a.n).all (oneOk a.l) := by
    rw [feedsOk, decide_eq_true (show 1 ≤ a.n by omega), decide_eq_true (show a.n ≤ 8 by omega)]
    simp
  rw [e1]
  refine OK_loopC (ι := Nat) (fun i => [(0, fdsV a.b a.n a.l), (3, .int .i64 (i : Nat))]) (fun i => []) (fun i => i ≤ a.n ∧ (List.range i).all (oneOk a.l) = true) (fun i => a.n - i) 0 [] ?_ (fun i hi => vc_ok hΓ mixed 1000 _ [] _ (by kernel_rfl) rfl ?_)
  · conv => whnf
    repeat' (first | (refine And.intro (fun _ => ?_) (fun _ => ?_) <;> conv => whnf) | (refine And.intro ?_ ?_ <;> conv => whnf))
    all_goals try first | exact ⟨rfl⟩ | exact ⟨⟨rfl, rfl⟩⟩ | exact ⟨⟨rfl, rfl, rfl⟩⟩ | exact ⟨fun _ _ => rfl⟩ | exact ⟨fun _ _ => trivial⟩ | exact ⟨fun k _ => isU8_bf _ k⟩ | exact ⟨by omega⟩ | exact ⟨⟨by omega, by omega⟩⟩ | exact ⟨⟨by omega, by omega, by omega⟩⟩ | exact ⟨⟨Nat.zero_le _, rfl⟩⟩
  obtain ⟨hi1, hi2⟩ := hi
  conv => whnf
  refine And.intro (fun h3 => ?_) (fun h3 => ?_) <;> conv => whnf
  · have hin : i < a.n := by
      have : ((i : Nat) : Int) < (a.n : Nat) := of_decide_eq_true h3
      omega
    conv => whnf
    repeat' (first | (refine And.intro (fun _ => ?_) (fun _ => ?_) <;> conv => whnf) | (refine And.intro ?_ ?_ <;> conv => whnf))
    all_goals try first | exact ⟨rfl⟩ | exact ⟨⟨rfl, rfl⟩⟩ | exact ⟨⟨rfl, rfl, rfl⟩⟩ | exact ⟨by omega⟩ | exact ⟨⟨by omega, by omega⟩⟩ | exact ⟨⟨by omega, by omega, by omega⟩⟩ | exact ⟨fun _ _ => trivial⟩ | exact ⟨fun _ _ => rfl⟩
    refine ⟨a.l i, ⟨AE.refl _, trivial⟩, ⟨hl i hin⟩, ?_⟩
    intro q hq
    replace hq : q = (lookF (a.l i)).2 := hq
    have hone : oneOk a.l i = (q && (decide (i = 0) || decide (cmpB (a.l (i - 1)).author (a.l i).author < 0))) := by rw [hq, oneOk]
    conv => whnf
    repeat' (first | (refine And.intro (fun _ => ?_) (fun _ => ?_) <;> conv => whnf) | (refine And.intro ?_ ?_ <;> conv => whnf))
    all_goals try first | exact ⟨rfl⟩ | exact ⟨⟨rfl, rfl⟩⟩ | exact ⟨⟨rfl, rfl, rfl⟩⟩ | exact ⟨by omega⟩ | exact ⟨⟨by omega, by omega⟩⟩ | exact ⟨⟨by omega, by omega, by omega⟩⟩ | exact ⟨fun _ _ => trivial⟩ | exact ⟨fun _ _ => rfl⟩
    · rename_i g1
      have g2 : q = false := by simpa using g1
      refine Ld.of (congrArg V.bool ?_)
      rw [all_bad hin (show oneOk a.l i = false by rw [hone, g2]; rfl)]
    · exact ⟨fun _ _ => isU8_bf _ _⟩
    · rename_i g1 g2
      have g3 : 0 < ((i : Nat) : Int) := of_decide_eq_true g2
      exact ⟨by rw [wrap_id (by omega) (by omega)]; omega⟩
    · exact ⟨fun _ _ => isU8_bf _ _⟩
    · rename_i g1 g2 g3
      have g4 : 0 < ((i : Nat) : Int) := of_decide_eq_true g2
      have e0 : (IntKind.i64.wrap ((i : Int) - 1)).toNat = i - 1 := by rw [wrap_id (by omega) (by omega)]; omega
      rw [e0, Int.toNat_natCast i, sub32 (hl i hin).1.1, sub32 (hl (i - 1) (by omega)).1.1, less_eq] at g3
      refine Ld.of (congrArg V.bool ?_)
      rw [all_bad hin (show oneOk a.l i = false from ?_)]
      have g5 : ¬ cmpB (a.l (i - 1)).author (a.l i).author < 0 := fun h => by
        have h6 := cmpB_swap (a.l (i - 1)).author (a.l i).author
        simp only [Bool.or_eq_true, decide_eq_true_eq, beq_iff_eq] at g3
        rcases g3 with g3 | g3
        · omega
        · rw [← cmpB_zero] at g3
          have g3 : cmpB (a.l i).author (a.l (i - 1)).author = 0 := g3
          omega
      rw [hone, decide_eq_false g5, decide_eq_false (show ¬ i = 0 by omega)]
      simp
    · rename_i g1 g2 g3
      have g4 : 0 < ((i : Nat) : Int) := of_decide_eq_true g2
      have e0 : (IntKind.i64.wrap ((i : Int) - 1)).toNat = i - 1 := by rw [wrap_id (by omega) (by omega)]; omega
      rw [e0, Int.toNat_natCast i, sub32 (hl i hin).1.1, sub32 (hl (i - 1) (by omega)).1.1, less_eq] at g3
      have g5 : cmpB (a.l (i - 1)).author (a.l i).author < 0 := by
        have h6 := cmpB_swap (a.l (i - 1)).author (a.l i).author
        simp only [Bool.or_eq_false_iff, decide_eq_false_iff_not, beq_eq_false_iff_ne, ne_eq] at g3
        have h7 : ¬ cmpB (a.l i).author (a.l (i - 1)).author = 0 := fun h => g3.2 (cmpB_zero.1 h)
        omega
      have g6 : q = true := by simpa using g1
      refine ⟨i + 1, [], ?_⟩
      conv => whnf
      repeat' (refine And.intro ?_ ?_ <;> conv => whnf)
      all_goals try first | exact ⟨rfl⟩ | exact ⟨⟨rfl, rfl⟩⟩ | exact ⟨⟨rfl, rfl, rfl⟩⟩ | exact ⟨fun _ _ => rfl⟩ | exact ⟨fun _ _ => trivial⟩ | exact ⟨fun k _ => isU8_bf _ k⟩ | exact ⟨by omega⟩ | exact ⟨⟨by omega, by omega⟩⟩ | exact ⟨⟨by omega, by omega, by omega⟩⟩
      · exact ⟨by rw [wrap_id (by omega) (by omega)]; rfl⟩
      · refine ⟨⟨⟨hin, ?_⟩, by omega⟩⟩
        rw [List.range_succ, List.all_append, hi2]
        simp [hone, g6, g5]
    · rename_i g1 g2
      have g4 : ¬ 0 < ((i : Nat) : Int) := of_decide_eq_false g2
      have g5 : i = 0 := by omega
      have g6 : q = true := by simpa using g1
      refine ⟨i + 1, [], ?_⟩
      conv => whnf
      repeat' (refine And.intro ?_ ?_ <;> conv => whnf)
      all_goals try first | exact ⟨rfl⟩ | exact ⟨⟨rfl, rfl⟩⟩ | exact ⟨⟨rfl, rfl, rfl⟩⟩ | exact ⟨fun _ _ => rfl⟩ | exact ⟨fun _ _ => trivial⟩ | exact ⟨fun k _ => isU8_bf _ k⟩ | exact ⟨by omega⟩ | exact ⟨⟨by omega, by omega⟩⟩ | exact ⟨⟨by omega, by omega, by omega⟩⟩
      · exact ⟨by rw [wrap_id (by omega) (by omega)]; rfl⟩
      · refine ⟨⟨⟨hin, ?_⟩, by omega⟩⟩
        rw [List.range_succ, List.all_append, hi2]
        rw [g6, g5] at hone
        simp only [List.all_cons, List.all_nil, g5, hone]
        rfl
  · have hin : i = a.n := by
      have : ¬ ((i : Nat) : Int) < (a.n : Nat) := of_decide_eq_false h3
      omega
    subst hin
    refine vc_ok hΓ mixed 1000 _ [] _ (by kernel_rfl) rfl ?_
    conv => whnf
    rw [hi2]
    exact Ld.refl _
end Go.Proofs.YtaihjcpfjgpmoaaGreatDoor
