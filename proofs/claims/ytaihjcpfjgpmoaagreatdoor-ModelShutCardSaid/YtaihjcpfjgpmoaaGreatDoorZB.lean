/- Part of the claim: Z16, Z17, Z18, Z19, Z20, Z21, Z22, Z23, Z24, Z25, Z26, Z29. -/
import Derived.Test.YtaihjcpfjgpmoaaGreatDoorZA
import Derived.Test.YtaihjcpfjgpmoaaGreatDoorDC
/- The writer of CBOR: items. -/
namespace Go.Proofs.YtaihjcpfjgpmoaaGreatDoor
set_option linter.unusedVariables false
set_option linter.unusedSimpArgs false
set_option maxRecDepth 100000
open Go Go.DD
def wBad (s : WS) : WS := ⟨s.at', s.out, true⟩
def bytesBad (s : WS) (t : Tk) : Bool := s.bad || (decide (t.kind = 4) && !utf8 t.l) || !decide (t.n = 0) || decide (32768 < t.l.length)
def wBytes (s : WS) (t : Tk) : WS :=
  if bytesBad s t then wBad s
  else ⟨s.at', s.out ++ headL (if t.kind = 4 then 3 else 2) t.l.length ++ t.l, false⟩
structure ByA where
  a : Toks
  s : WS
  t : Tk
def H124 : SpecH := mkHS (fun (x : ByA) => [.ref 0 [], tokV x.t]) (fun x => wsH x.a x.s) (fun x => x.s.out.length ≤ 800000 ∧ (x.t.kind = 3 ∨ x.t.kind = 4) ∧ x.t.l.length ≤ 1000000)
  (fun x => .tup .nil) (fun x => wsH' x.a (wBytes x.s x.t))
theorem c124_ok : CtxOk Tryz.prog (ctxG Tryz.f254.ntmps [(150, F139)] [(262, H138)] []) := ctxG_ok Tryz.f254.ntmps [(150, F139)] [(262, H138)] [] (.cons (f139_ok) .nil) (.cons (hg h138_ok) .nil)
def S124 : SpecH := fun xs h κ => xs.length = 2 ∧ inlineS Tryz.prog (ctxG Tryz.f254.ntmps [(150, F139)] [(262, H138)] []) (bodyOf Tryz.f254) Tryz.f254.results.toList xs h κ
theorem s124_ok : SpecHOk Tryz.prog G 254 S124 := inline_ok (c := bodyOf Tryz.f254) (np := 2) c124_ok Tryz.func254 rfl (by decide) rfl (by decide)
theorem wHead_nat (s : WS) (m n : Nat) : wHead s m (n : Nat) = ⟨s.at', s.out ++ headL m n, s.bad⟩ := by
  have h1 : putL ⟨s.out, m, (n : Nat)⟩ = s.out ++ headL m n := if_neg (show ¬ ((n : Nat) : Int) < 0 by omega)
  have h2 : putE ⟨s.out, m, (n : Nat)⟩ = 0 := if_neg (show ¬ ((n : Nat) : Int) < 0 by omega)
  simp [wHead, h1, h2]
theorem headL_length (m n : Nat) : (headL m n).length ≤ 9 := by
  have := sizeB_le n
  simp [headL, beU_length]
  omega
theorem h124_ok : SpecHOk Tryz.prog G 254 H124 := mkHS_ok s124_ok (fun ⟨a, s, ⟨kind, n, lent, l⟩⟩ κ ⟨hb, hk, ht⟩ h => by
  replace hb : s.out.length ≤ 800000 := hb
  replace hk : kind = 3 ∨ kind = 4 := hk
  replace ht : l.length ≤ 1000000 := ht
  replace h : κ (.tup .nil) (wsH' a (wBytes s ⟨kind, n, lent, l⟩)) := h
  refine ⟨rfl, ?_⟩
  refine vc_ok (CtxOk.inner c124_ok _) mixed 1000 _ [] _ (by kernel_rfl) rfl ?_
  conv => whnf
  rcases hk with rfl | rfl
  · conv => whnf
    repeat' (first | (refine And.intro (fun _ => ?_) (fun _ => ?_) <;> conv => whnf) | (refine And.intro ?_ ?_ <;> conv => whnf))
    all_goals try (exfalso; simp_all; done)
    · have e : wBytes s ⟨3, n, lent, l⟩ = wBad s := if_pos (by simp_all [bytesBad, By.l] <;> omega)
      rw [e] at h
      refine ⟨[some 0, some 1, some 1], .tup .nil, wsH' a (wBad s), ?_⟩
      conv => whnf
      repeat' (refine And.intro ?_ ?_ <;> conv => whnf)
      all_goals try first | exact ⟨rfl⟩ | exact ⟨⟨rfl, rfl⟩⟩ | exact ⟨⟨rfl, rfl, rfl⟩⟩ | exact ⟨by omega⟩ | exact ⟨⟨by omega, by omega⟩⟩ | exact ⟨⟨by omega, by omega, by omega⟩⟩ | exact ⟨fun k _ => leV_refl _ trivial⟩ | exact ⟨fun _ _ => rfl⟩ | exact h
      all_goals exact ⟨by simp_all [wBad] <;> omega⟩
    · have e : wBytes s ⟨3, n, lent, l⟩ = wBad s := if_pos (by simp_all [bytesBad, By.l] <;> omega)
      rw [e] at h
      refine ⟨[some 0, some 1, some 1], .tup .nil, wsH' a (wBad s), ?_⟩
      conv => whnf
      repeat' (refine And.intro ?_ ?_ <;> conv => whnf)
      all_goals try first | exact ⟨rfl⟩ | exact ⟨⟨rfl, rfl⟩⟩ | exact ⟨⟨rfl, rfl, rfl⟩⟩ | exact ⟨by omega⟩ | exact ⟨⟨by omega, by omega⟩⟩ | exact ⟨⟨by omega, by omega, by omega⟩⟩ | exact ⟨fun k _ => leV_refl _ trivial⟩ | exact ⟨fun _ _ => rfl⟩ | exact h
      all_goals exact ⟨by simp_all [wBad] <;> omega⟩
    · have e : wBytes s ⟨3, n, lent, l⟩ = wBad s := if_pos (by simp_all [bytesBad, By.l] <;> omega)
      rw [e] at h
      refine ⟨[some 0, some 1, some 1], .tup .nil, wsH' a (wBad s), ?_⟩
      conv => whnf
      repeat' (refine And.intro ?_ ?_ <;> conv => whnf)
      all_goals try first | exact ⟨rfl⟩ | exact ⟨⟨rfl, rfl⟩⟩ | exact ⟨⟨rfl, rfl, rfl⟩⟩ | exact ⟨by omega⟩ | exact ⟨⟨by omega, by omega⟩⟩ | exact ⟨⟨by omega, by omega, by omega⟩⟩ | exact ⟨fun k _ => leV_refl _ trivial⟩ | exact ⟨fun _ _ => rfl⟩ | exact h
      all_goals exact ⟨by simp_all [wBad] <;> omega⟩
    · have e : wBytes s ⟨3, n, lent, l⟩ = ⟨s.at', s.out ++ headL 2 l.length ++ l, false⟩ := if_neg (by simp_all [bytesBad, By.l] <;> omega)
      rw [e] at h
      refine ⟨⟨a, s, 2, (l.length : Nat)⟩, [some 0, some 1], ?_⟩
      conv => whnf
      repeat' (first | (refine And.intro (fun _ => ?_) (fun _ => ?_) <;> conv => whnf) | (refine And.intro ?_ ?_ <;> conv => whnf))
      all_goals try first | exact ⟨rfl⟩ | exact ⟨⟨rfl, rfl⟩⟩ | exact ⟨⟨rfl, rfl, rfl⟩⟩ | exact ⟨by omega⟩ | exact ⟨⟨by omega, by omega⟩⟩ | exact ⟨⟨by omega, by omega, by omega⟩⟩ | exact ⟨fun k _ => leV_refl _ trivial⟩ | exact ⟨fun _ _ => rfl⟩
      · exact ⟨by simp_all <;> omega⟩
      · refine ⟨?_⟩
        show s.out.length ≤ 900000 ∧ 2 < 8 ∧ ((l.length : Nat) : Int) ≤ 9223372036854775807
        exact ⟨by omega, by decide, by omega⟩
      have hb0 : s.bad = false := by simp_all
      have e0 := wHead_nat s 2 l.length
      have e1 : (wHead s 2 (l.length : Nat)).out = s.out ++ headL 2 l.length := by rw [e0]
      have e2 : (wHead s 2 (l.length : Nat)).bad = false := by rw [e0]; exact hb0
      have e3 : (wHead s 2 (l.length : Nat)).at' = s.at' := rfl
      have hh := headL_length 2 l.length
      refine Or.inl ?_
      conv => whnf
      repeat' (first | (refine And.intro (fun _ => ?_) (fun _ => ?_) <;> conv => whnf) | (refine And.intro ?_ ?_ <;> conv => whnf))
      · exact ⟨rfl⟩
      · refine ⟨?_⟩
        show ((wHead s 2 (l.length : Nat)).out.length + l.length) * 1 ≤ _ ∧ (wHead s 2 (l.length : Nat)).out.length + l.length ≤ _
        rw [e1, List.length_append]
        omega
      refine ⟨[some 0, some 1, some 6], .tup .nil, wsH' a ⟨s.at', s.out ++ headL 2 l.length ++ l, false⟩, ?_⟩
      conv => whnf
      repeat' (refine And.intro ?_ ?_ <;> conv => whnf)
      all_goals try first | exact ⟨rfl⟩ | exact ⟨⟨rfl, rfl⟩⟩ | exact ⟨⟨rfl, rfl, rfl⟩⟩ | exact ⟨by omega⟩ | exact ⟨⟨by omega, by omega⟩⟩ | exact ⟨⟨by omega, by omega, by omega⟩⟩ | exact ⟨fun k _ => leV_refl _ trivial⟩ | exact ⟨fun _ _ => rfl⟩ | exact h
      · refine ⟨?_⟩
        show 0 = 0 ∧ (wHead s 2 (l.length : Nat)).out.length + l.length = (s.out ++ headL 2 l.length ++ l).length ∧ (wHead s 2 (l.length : Nat)).out.length + l.length = (s.out ++ headL 2 l.length ++ l).length
        rw [e1]
        simp [Nat.add_assoc]
      · refine ⟨?_⟩
        show (wHead s 2 (l.length : Nat)).out.length + l.length = (s.out ++ headL 2 l.length ++ l).length
        rw [e1]
        simp [Nat.add_assoc]
      · refine ⟨fun k hk => leV_eq ?_ trivial⟩
        replace hk : k < (s.out ++ headL 2 l.length ++ l).length := hk
        show (if k < (wHead s 2 (l.length : Nat)).out.length then bf (wHead s 2 (l.length : Nat)).out k else bf l (k - (wHead s 2 (l.length : Nat)).out.length)) = bf (s.out ++ headL 2 l.length ++ l) k
        rw [e1, bf_append _ l]
        rw [List.length_append] at hk
        by_cases h1 : k < (s.out ++ headL 2 l.length).length
        · rw [if_pos h1, if_neg (by omega)]
        · rw [if_neg h1, if_pos (by omega)]
  · conv => whnf
    repeat' (first | (refine And.intro (fun _ => ?_) (fun _ => ?_) <;> conv => whnf) | (refine And.intro ?_ ?_ <;> conv => whnf))
    all_goals try (exfalso; simp_all; done)
    · have e : wBytes s ⟨4, n, lent, l⟩ = wBad s := if_pos (by simp_all [bytesBad, By.l] <;> omega)
      rw [e] at h
      refine ⟨[some 0, some 1, some 1], .tup .nil, wsH' a (wBad s), ?_⟩
      conv => whnf
      repeat' (refine And.intro ?_ ?_ <;> conv => whnf)
      all_goals try first | exact ⟨rfl⟩ | exact ⟨⟨rfl, rfl⟩⟩ | exact ⟨⟨rfl, rfl, rfl⟩⟩ | exact ⟨by omega⟩ | exact ⟨⟨by omega, by omega⟩⟩ | exact ⟨⟨by omega, by omega, by omega⟩⟩ | exact ⟨fun k _ => leV_refl _ trivial⟩ | exact ⟨fun _ _ => rfl⟩ | exact h
      all_goals exact ⟨by simp_all [wBad] <;> omega⟩
    · refine ⟨.of _ _, rfl, ⟨trivial, ht⟩, ?_⟩
      conv => whnf
      repeat' (first | (refine And.intro (fun _ => ?_) (fun _ => ?_) <;> conv => whnf) | (refine And.intro ?_ ?_ <;> conv => whnf))
      all_goals try (exfalso; simp_all; done)
      · have e : wBytes s ⟨4, n, lent, l⟩ = wBad s := if_pos (by simp_all [bytesBad, By.l] <;> omega)
        rw [e] at h
        refine ⟨[some 0, some 1, some 1], .tup .nil, wsH' a (wBad s), ?_⟩
        conv => whnf
        repeat' (refine And.intro ?_ ?_ <;> conv => whnf)
        all_goals try first | exact ⟨rfl⟩ | exact ⟨⟨rfl, rfl⟩⟩ | exact ⟨⟨rfl, rfl, rfl⟩⟩ | exact ⟨by omega⟩ | exact ⟨⟨by omega, by omega⟩⟩ | exact ⟨⟨by omega, by omega, by omega⟩⟩ | exact ⟨fun k _ => leV_refl _ trivial⟩ | exact ⟨fun _ _ => rfl⟩ | exact h
        all_goals exact ⟨by simp_all [wBad] <;> omega⟩
      · have e : wBytes s ⟨4, n, lent, l⟩ = wBad s := if_pos (by simp_all [bytesBad, By.l] <;> omega)
        rw [e] at h
        refine ⟨[some 0, some 1, some 1], .tup .nil, wsH' a (wBad s), ?_⟩
        conv => whnf
        repeat' (refine And.intro ?_ ?_ <;> conv => whnf)
        all_goals try first | exact ⟨rfl⟩ | exact ⟨⟨rfl, rfl⟩⟩ | exact ⟨⟨rfl, rfl, rfl⟩⟩ | exact ⟨by omega⟩ | exact ⟨⟨by omega, by omega⟩⟩ | exact ⟨⟨by omega, by omega, by omega⟩⟩ | exact ⟨fun k _ => leV_refl _ trivial⟩ | exact ⟨fun _ _ => rfl⟩ | exact h
        all_goals exact ⟨by simp_all [wBad] <;> omega⟩
      · have e : wBytes s ⟨4, n, lent, l⟩ = wBad s := if_pos (by simp_all [bytesBad, By.l] <;> omega)
        rw [e] at h
        refine ⟨[some 0, some 1, some 1], .tup .nil, wsH' a (wBad s), ?_⟩
        conv => whnf
        repeat' (refine And.intro ?_ ?_ <;> conv => whnf)
        all_goals try first | exact ⟨rfl⟩ | exact ⟨⟨rfl, rfl⟩⟩ | exact ⟨⟨rfl, rfl, rfl⟩⟩ | exact ⟨by omega⟩ | exact ⟨⟨by omega, by omega⟩⟩ | exact ⟨⟨by omega, by omega, by omega⟩⟩ | exact ⟨fun k _ => leV_refl _ trivial⟩ | exact ⟨fun _ _ => rfl⟩ | exact h
        all_goals exact ⟨by simp_all [wBad] <;> omega⟩
      · have e : wBytes s ⟨4, n, lent, l⟩ = ⟨s.at', s.out ++ headL 3 l.length ++ l, false⟩ := if_neg (by simp_all [bytesBad, By.l] <;> omega)
        rw [e] at h
        refine ⟨⟨a, s, 3, (l.length : Nat)⟩, [some 0, some 1], ?_⟩
        conv => whnf
        repeat' (first | (refine And.intro (fun _ => ?_) (fun _ => ?_) <;> conv => whnf) | (refine And.intro ?_ ?_ <;> conv => whnf))
        all_goals try first | exact ⟨rfl⟩ | exact ⟨⟨rfl, rfl⟩⟩ | exact ⟨⟨rfl, rfl, rfl⟩⟩ | exact ⟨by omega⟩ | exact ⟨⟨by omega, by omega⟩⟩ | exact ⟨⟨by omega, by omega, by omega⟩⟩ | exact ⟨fun k _ => leV_refl _ trivial⟩ | exact ⟨fun _ _ => rfl⟩
        · exact ⟨by simp_all <;> omega⟩
        · refine ⟨?_⟩
          show s.out.length ≤ 900000 ∧ 3 < 8 ∧ ((l.length : Nat) : Int) ≤ 9223372036854775807
          exact ⟨by omega, by decide, by omega⟩
        have hb0 : s.bad = false := by simp_all
        have e0 := wHead_nat s 3 l.length
        have e1 : (wHead s 3 (l.length : Nat)).out = s.out ++ headL 3 l.length := by rw [e0]
        have e2 : (wHead s 3 (l.length : Nat)).bad = false := by rw [e0]; exact hb0
        have e3 : (wHead s 3 (l.length : Nat)).at' = s.at' := rfl
        have hh := headL_length 3 l.length
        refine Or.inl ?_
        conv => whnf
        repeat' (first | (refine And.intro (fun _ => ?_) (fun _ => ?_) <;> conv => whnf) | (refine And.intro ?_ ?_ <;> conv => whnf))
        · exact ⟨rfl⟩
        · refine ⟨?_⟩
          show ((wHead s 3 (l.length : Nat)).out.length + l.length) * 1 ≤ _ ∧ (wHead s 3 (l.length : Nat)).out.length + l.length ≤ _
          rw [e1, List.length_append]
          omega
        refine ⟨[some 0, some 1, some 6], .tup .nil, wsH' a ⟨s.at', s.out ++ headL 3 l.length ++ l, false⟩, ?_⟩
        conv => whnf
        repeat' (refine And.intro ?_ ?_ <;> conv => whnf)
        all_goals try first | exact ⟨rfl⟩ | exact ⟨⟨rfl, rfl⟩⟩ | exact ⟨⟨rfl, rfl, rfl⟩⟩ | exact ⟨by omega⟩ | exact ⟨⟨by omega, by omega⟩⟩ | exact ⟨⟨by omega, by omega, by omega⟩⟩ | exact ⟨fun k _ => leV_refl _ trivial⟩ | exact ⟨fun _ _ => rfl⟩ | exact h
        · refine ⟨?_⟩
          show 0 = 0 ∧ (wHead s 3 (l.length : Nat)).out.length + l.length = (s.out ++ headL 3 l.length ++ l).length ∧ (wHead s 3 (l.length : Nat)).out.length + l.length = (s.out ++ headL 3 l.length ++ l).length
          rw [e1]
          simp [Nat.add_assoc]
        · refine ⟨?_⟩
          show (wHead s 3 (l.length : Nat)).out.length + l.length = (s.out ++ headL 3 l.length ++ l).length
          rw [e1]
          simp [Nat.add_assoc]
        · refine ⟨fun k hk => leV_eq ?_ trivial⟩
          replace hk : k < (s.out ++ headL 3 l.length ++ l).length := hk
          show (if k < (wHead s 3 (l.length : Nat)).out.length then bf (wHead s 3 (l.length : Nat)).out k else bf l (k - (wHead s 3 (l.length : Nat)).out.length)) = bf (s.out ++ headL 3 l.length ++ l) k
          rw [e1, bf_append _ l]
          rw [List.length_append] at hk
          by_cases h1 : k < (s.out ++ headL 3 l.length).length
          · rw [if_pos h1, if_neg (by omega)]
          · rw [if_neg h1, if_pos (by omega)]
  ) (fun _ => by simp [wsH, wsH']) (fun _ => by simp [rok, roks]) (fun x u hu => wsH'_rok _ _ u hu)
end Go.Proofs.YtaihjcpfjgpmoaaGreatDoor

/- The writer of CBOR: arrays, items, whole rows. -/
namespace Go.Proofs.YtaihjcpfjgpmoaaGreatDoor
set_option linter.unusedVariables false
set_option linter.unusedSimpArgs false
set_option maxRecDepth 100000
open Go Go.DD
def wRep (f : WS → WS) : Nat → WS → WS | 0, s => s | n + 1, s => if s.bad then s else wRep f n (f s)
/-- Are these no tokens of an array, so deep? -/
def manyBad (k : Nat) (t : Tk) : Bool := decide (0 < t.l.length) || decide (t.n < 0) || decide (64 < t.n) || decide (k = 0)
def wItem (a : Toks) : Nat → WS → WS
  | 0 => fun s =>
    if a.n ≤ s.at' ∨ 32768 < s.out.length then wBad s
    else if (a.ts s.at').kind = 1 then wNum ⟨s.at' + 1, s.out, s.bad⟩ 0 (a.ts s.at')
    else if (a.ts s.at').kind = 2 then wNum ⟨s.at' + 1, s.out, s.bad⟩ 1 (a.ts s.at')
    else if (a.ts s.at').kind = 3 ∨ (a.ts s.at').kind = 4 then wBytes ⟨s.at' + 1, s.out, s.bad⟩ (a.ts s.at')
    else wBad ⟨s.at' + 1, s.out, s.bad⟩
  | k + 1 => fun s =>
    if a.n ≤ s.at' ∨ 32768 < s.out.length then wBad s
    else if (a.ts s.at').kind = 1 then wNum ⟨s.at' + 1, s.out, s.bad⟩ 0 (a.ts s.at')
    else if (a.ts s.at').kind = 2 then wNum ⟨s.at' + 1, s.out, s.bad⟩ 1 (a.ts s.at')
    else if (a.ts s.at').kind = 3 ∨ (a.ts s.at').kind = 4 then wBytes ⟨s.at' + 1, s.out, s.bad⟩ (a.ts s.at')
    else if (a.ts s.at').kind = 5 ∧ manyBad (k + 1) (a.ts s.at') = false then wRep (wItem a k) (a.ts s.at').n.toNat (wHead ⟨s.at' + 1, s.out, s.bad⟩ 4 (a.ts s.at').n)
    else wBad ⟨s.at' + 1, s.out, s.bad⟩
def wMany (a : Toks) : Nat → WS → Tk → WS
  | 0 => fun s _ => wBad s
  | k + 1 => fun s t => if manyBad (k + 1) t then wBad s else wRep (wItem a k) t.n.toNat (wHead s 4 t.n)
/-- Tokens that are looked at here: none of a map. -/
def tokOk (t : Tk) : Prop := t.kind ≠ 6 ∧ t.l.length ≤ 100000 ∧ t.n ≤ 9223372036854775807
def toksOk (a : Toks) : Prop := a.n ≤ 600 ∧ ∀ k, k < a.n → tokOk (a.ts k)
structure ItA where
  a : Toks
  s : WS
structure MaA where
  a : Toks
  s : WS
  t : Tk
def H98 (k : Nat) : SpecH := mkHS (fun (x : ItA) => [.ref 0 [], .int .i64 (7 - (k : Nat))]) (fun x => wsH x.a x.s) (fun x => x.s.out.length ≤ 70000 ∧ toksOk x.a ∧ k ≤ 7)
  (fun x => .tup .nil) (fun x => wsH' x.a (wItem x.a k x.s))
def H125 (k : Nat) : SpecH := mkHS (fun (x : MaA) => [.ref 0 [], tokV x.t, .int .i64 (7 - (k : Nat))]) (fun x => wsH x.a x.s) (fun x => x.s.out.length ≤ 40000 ∧ x.t.kind = 5 ∧ toksOk x.a ∧ k ≤ 7)
  (fun x => .tup .nil) (fun x => wsH' x.a (wMany x.a k x.s x.t))
theorem wHead_len (s : WS) (m : Nat) (n : Int) : (wHead s m n).out.length ≤ s.out.length + 9 := by
  simp only [wHead, putL]
  split
  · simp
  · have := headL_length m n.toNat
    simp
    omega
theorem wBytes_len (s : WS) (t : Tk) : (wBytes s t).out.length ≤ s.out.length + 32777 := by
  simp only [wBytes]
  split
  · simp [wBad]
  · rename_i h
    have := headL_length (if t.kind = 4 then 3 else 2) t.l.length
    simp [bytesBad] at h
    simp
    omega
theorem wRep_len {f : WS → WS} (hf : ∀ s, s.out.length ≤ 70000 → (f s).out.length ≤ 70000) : ∀ (n : Nat) (s : WS), s.out.length ≤ 70000 → (wRep f n s).out.length ≤ 70000
  | 0, s, h => h
  | n + 1, s, h => by
    simp only [wRep]
    split
    · exact h
    · exact wRep_len hf n _ (hf s h)
theorem wItem_len (a : Toks) : ∀ (k : Nat) (s : WS), s.out.length ≤ 70000 → (wItem a k s).out.length ≤ 70000
  | 0, s, h => by
    simp only [wItem]
    split
    · exact h
    · rename_i h1
      have h2 : s.out.length ≤ 32768 := by omega
      repeat' split
      · exact Nat.le_trans (wHead_len _ _ _) (by simp only []; omega)
      · exact Nat.le_trans (wHead_len _ _ _) (by simp only []; omega)
      · exact Nat.le_trans (wBytes_len _ _) (by simp only []; omega)
      · exact h
  | k + 1, s, h => by
    simp only [wItem]
    split
    · exact h
    · rename_i h1
      have h2 : s.out.length ≤ 32768 := by omega
      repeat' split
      · exact Nat.le_trans (wHead_len _ _ _) (by simp only []; omega)
      · exact Nat.le_trans (wHead_len _ _ _) (by simp only []; omega)
      · exact Nat.le_trans (wBytes_len _ _) (by simp only []; omega)
      · exact wRep_len (wItem_len a k) _ _ (Nat.le_trans (wHead_len _ _ _) (by simp only []; omega))
      · exact h
def S125 (S : SpecH) : SpecH := fun xs h κ => xs.length = 3 ∧ inlineS Tryz.prog (ctxG Tryz.f255.ntmps [] [(262, H138), (215, S)] []) (bodyOf Tryz.f255) Tryz.f255.results.toList xs h κ
theorem c125_ok {S : SpecH} (hS : SpecHOk Tryz.prog G 215 S) : CtxOk Tryz.prog (ctxG Tryz.f255.ntmps [] [(262, H138), (215, S)] []) := ctxG_ok _ _ _ _ .nil (.cons (hg h138_ok) (.cons hS .nil))
theorem s125_ok {S : SpecH} (hS : SpecHOk Tryz.prog G 215 S) : SpecHOk Tryz.prog G 255 (S125 S) := inline_ok (c := bodyOf Tryz.f255) (np := 3) (c125_ok hS) Tryz.func255 rfl (by decide) rfl (by decide)
theorem noS_ok (n : Nat) : SpecHOk Tryz.prog G n (fun _ _ _ => False) := ⟨fun _ _ _ _ _ h => h.elim, fun _ _ _ _ _ _ _ _ _ h => h.elim⟩
theorem h125_zero : SpecHOk Tryz.prog G 255 (H125 0) := mkHS_ok (s125_ok (noS_ok 215)) (fun ⟨a, s, ⟨kind, n, lent, l⟩⟩ κ ⟨hb, hk, ha, _⟩ h => by
  replace hb : s.out.length ≤ 40000 := hb
  obtain rfl : kind = 5 := hk
  replace h : κ (.tup .nil) (wsH' a (wBad s)) := h
  refine ⟨rfl, ?_⟩
  refine vc_ok (CtxOk.inner (c125_ok (noS_ok 215)) _) mixed 1000 _ [] _ (by kernel_rfl) rfl ?_
  conv => whnf
  repeat' (first | (refine And.intro (fun _ => ?_) (fun _ => ?_) <;> conv => whnf) | (refine And.intro ?_ ?_ <;> conv => whnf))
  all_goals try (exfalso; simp_all; done)
  all_goals
    refine ⟨[some 0, some 1, some 1], .tup .nil, wsH' a (wBad s), ?_⟩
    conv => whnf
    repeat' (refine And.intro ?_ ?_ <;> conv => whnf)
    all_goals try first | exact ⟨rfl⟩ | exact ⟨⟨rfl, rfl⟩⟩ | exact ⟨⟨rfl, rfl, rfl⟩⟩ | exact ⟨by omega⟩ | exact ⟨⟨by omega, by omega⟩⟩ | exact ⟨⟨by omega, by omega, by omega⟩⟩ | exact ⟨fun k _ => leV_refl _ trivial⟩ | exact ⟨fun _ _ => rfl⟩ | exact h
    all_goals exact ⟨by simp_all [wBad]⟩
  ) (fun _ => by simp [wsH, wsH']) (fun _ => by simp [rok, roks]) (fun x u hu => wsH'_rok _ _ u hu)
theorem h125_succ (k : Nat) (h98 : SpecHOk Tryz.prog G 215 (H98 k)) : SpecHOk Tryz.prog G 255 (H125 (k + 1)) := mkHS_ok (s125_ok h98) (fun ⟨a, s, ⟨kind, n, lent, l⟩⟩ κ ⟨hb, hk, ha, hk7⟩ h => by
  replace hb : s.out.length ≤ 40000 := hb
  obtain rfl : kind = 5 := hk
  replace ha : toksOk a := ha
  refine ⟨rfl, ?_⟩
  refine vc_ok (CtxOk.inner (c125_ok h98) _) mixed 1000 _ [] _ (by kernel_rfl) rfl ?_
  conv => whnf
  repeat' (first | (refine And.intro (fun _ => ?_) (fun _ => ?_) <;> conv => whnf) | (refine And.intro ?_ ?_ <;> conv => whnf))
  all_goals try (exfalso; simp_all; done)
  all_goals try (exfalso; simp_all; omega)
  · have e : wMany a (k + 1) s ⟨5, n, lent, l⟩ = wBad s := if_pos (by simp_all [manyBad] <;> omega)
    replace h : κ (.tup .nil) (wsH' a (wMany a (k + 1) s ⟨5, n, lent, l⟩)) := h
    rw [e] at h
    refine ⟨[some 0, some 1, some 1], .tup .nil, wsH' a (wBad s), ?_⟩
    conv => whnf
    repeat' (refine And.intro ?_ ?_ <;> conv => whnf)
    all_goals try first | exact ⟨rfl⟩ | exact ⟨⟨rfl, rfl⟩⟩ | exact ⟨⟨rfl, rfl, rfl⟩⟩ | exact ⟨by omega⟩ | exact ⟨⟨by omega, by omega⟩⟩ | exact ⟨⟨by omega, by omega, by omega⟩⟩ | exact ⟨fun k _ => leV_refl _ trivial⟩ | exact ⟨fun _ _ => rfl⟩ | exact h
    all_goals exact ⟨by simp_all [wBad]⟩
  · have e : wMany a (k + 1) s ⟨5, n, lent, l⟩ = wBad s := if_pos (by simp_all [manyBad] <;> omega)
    replace h : κ (.tup .nil) (wsH' a (wMany a (k + 1) s ⟨5, n, lent, l⟩)) := h
    rw [e] at h
    refine ⟨[some 0, some 1, some 1], .tup .nil, wsH' a (wBad s), ?_⟩
    conv => whnf
    repeat' (refine And.intro ?_ ?_ <;> conv => whnf)
    all_goals try first | exact ⟨rfl⟩ | exact ⟨⟨rfl, rfl⟩⟩ | exact ⟨⟨rfl, rfl, rfl⟩⟩ | exact ⟨by omega⟩ | exact ⟨⟨by omega, by omega⟩⟩ | exact ⟨⟨by omega, by omega, by omega⟩⟩ | exact ⟨fun k _ => leV_refl _ trivial⟩ | exact ⟨fun _ _ => rfl⟩ | exact h
    all_goals exact ⟨by simp_all [wBad]⟩
  · have e : wMany a (k + 1) s ⟨5, n, lent, l⟩ = wBad s := if_pos (by simp_all [manyBad] <;> omega)
    replace h : κ (.tup .nil) (wsH' a (wMany a (k + 1) s ⟨5, n, lent, l⟩)) := h
    rw [e] at h
    refine ⟨[some 0, some 1, some 1], .tup .nil, wsH' a (wBad s), ?_⟩
    conv => whnf
    repeat' (refine And.intro ?_ ?_ <;> conv => whnf)
    all_goals try first | exact ⟨rfl⟩ | exact ⟨⟨rfl, rfl⟩⟩ | exact ⟨⟨rfl, rfl, rfl⟩⟩ | exact ⟨by omega⟩ | exact ⟨⟨by omega, by omega⟩⟩ | exact ⟨⟨by omega, by omega, by omega⟩⟩ | exact ⟨fun k _ => leV_refl _ trivial⟩ | exact ⟨fun _ _ => rfl⟩ | exact h
    all_goals exact ⟨by simp_all [wBad]⟩
  · have hc : manyBad (k + 1) ⟨5, n, lent, l⟩ = false := by simp_all [manyBad] <;> omega
    have e : wMany a (k + 1) s ⟨5, n, lent, l⟩ = wRep (wItem a k) n.toNat (wHead s 4 n) := if_neg (by simp [hc])
    replace h : κ (.tup .nil) (wsH' a (wMany a (k + 1) s ⟨5, n, lent, l⟩)) := h
    rw [e] at h
    simp only [manyBad, Bool.or_eq_false_iff, decide_eq_false_iff_not] at hc
    obtain ⟨m, rfl⟩ : ∃ m : Nat, n = m := ⟨n.toNat, by omega⟩
    rw [Int.toNat_natCast] at h
    have hm : m ≤ 64 := by omega
    refine ⟨⟨a, s, 4, (m : Nat)⟩, [some 0, some 1], ?_⟩
    conv => whnf
    repeat' (first | (refine And.intro (fun _ => ?_) (fun _ => ?_) <;> conv => whnf) | (refine And.intro ?_ ?_ <;> conv => whnf))
    all_goals try first | exact ⟨rfl⟩ | exact ⟨⟨rfl, rfl⟩⟩ | exact ⟨⟨rfl, rfl, rfl⟩⟩ | exact ⟨by omega⟩ | exact ⟨⟨by omega, by omega⟩⟩ | exact ⟨⟨by omega, by omega, by omega⟩⟩ | exact ⟨fun k _ => leV_refl _ trivial⟩ | exact ⟨fun _ _ => rfl⟩
    · refine ⟨?_⟩
      show s.out.length ≤ 900000 ∧ 4 < 8 ∧ ((m : Nat) : Int) ≤ 9223372036854775807
      exact ⟨by omega, by decide, by omega⟩
    generalize hs0 : wHead s 4 (m : Nat) = s0 at h
    have hl0 : s0.out.length ≤ 70000 := by rw [← hs0]; exact Nat.le_trans (wHead_len _ _ _) (by omega)
    refine OK_loopC (ι := Nat × WS) (fun x => [(0, .ref 0 []), (2, .int .i64 (7 - ((k + 1 : Nat) : Int))), (4, .ref 3 []), (6, .int .i64 (x.1 : Nat))]) (fun x => [some (wsV a x.2 2), none, some (rowV x.2.out), some (tokV ⟨5, (m : Nat), lent, l⟩)]) (fun x => x.1 ≤ m ∧ wRep (wItem a k) (m - x.1) x.2 = wRep (wItem a k) m s0 ∧ x.2.out.length ≤ 70000) (fun x => m - x.1) (0, s0) [some 0, some 1, some 5, some 2] ?_ (fun ⟨i, x⟩ hi => vc_ok (CtxOk.inner (c125_ok h98) _) mixed 1000 _ [] _ (by kernel_rfl) rfl ?_)
    · conv => whnf
      repeat' (first | (refine And.intro (fun _ => ?_) (fun _ => ?_) <;> conv => whnf) | (refine And.intro ?_ ?_ <;> conv => whnf))
      all_goals try first | exact ⟨rfl⟩ | exact ⟨⟨rfl, rfl⟩⟩ | exact ⟨⟨rfl, rfl, rfl⟩⟩ | exact ⟨by omega⟩ | exact ⟨⟨by omega, by omega⟩⟩ | exact ⟨⟨by omega, by omega, by omega⟩⟩ | exact ⟨fun k _ => leV_refl _ trivial⟩ | exact ⟨fun _ _ => rfl⟩ | exact ⟨⟨Nat.zero_le _, rfl, hl0⟩⟩
    · obtain ⟨hi1, hi2, hi3⟩ : i ≤ m ∧ wRep (wItem a k) (m - i) x = wRep (wItem a k) m s0 ∧ x.out.length ≤ 70000 := hi
      conv => whnf
      repeat' (first | (refine And.intro (fun _ => ?_) (fun _ => ?_) <;> conv => whnf) | (refine And.intro ?_ ?_ <;> conv => whnf))
      · rename_i h1 h2
        have hx : x.bad = false := by simpa using h2
        have him : i < m := by simpa using h1
        refine ⟨⟨a, x⟩, [some 0, some 2], ?_⟩
        conv => whnf
        repeat' (first | (refine And.intro (fun _ => ?_) (fun _ => ?_) <;> conv => whnf) | (refine And.intro ?_ ?_ <;> conv => whnf))
        all_goals try first | exact ⟨rfl⟩ | exact ⟨⟨rfl, rfl⟩⟩ | exact ⟨⟨rfl, rfl, rfl⟩⟩ | exact ⟨by omega⟩ | exact ⟨⟨by omega, by omega⟩⟩ | exact ⟨⟨by omega, by omega, by omega⟩⟩ | exact ⟨fun k _ => leV_refl _ trivial⟩ | exact ⟨fun _ _ => rfl⟩ | exact ⟨⟨hi3, ha, by omega⟩⟩
        · exact ⟨by rw [wrap_id (by omega) (by omega)]; omega⟩
        refine ⟨(i + 1, wItem a k x), [some 0, some 1, some 6, some 3], ?_⟩
        conv => whnf
        repeat' (refine And.intro ?_ ?_ <;> conv => whnf)
        all_goals try first | exact ⟨rfl⟩ | exact ⟨⟨rfl, rfl⟩⟩ | exact ⟨⟨rfl, rfl, rfl⟩⟩ | exact ⟨by omega⟩ | exact ⟨⟨by omega, by omega⟩⟩ | exact ⟨⟨by omega, by omega, by omega⟩⟩ | exact ⟨fun k _ => leV_refl _ trivial⟩ | exact ⟨fun _ _ => rfl⟩
        · exact ⟨by rw [wrap_id (by show _ ≤ ((i : Nat) : Int) + 1; omega) (by show ((i : Nat) : Int) + 1 ≤ _; omega)]; rfl⟩
        · refine ⟨⟨⟨him, ?_, wItem_len a k x hi3⟩, by show m - (i + 1) < m - i; omega⟩⟩
          show wRep (wItem a k) (m - (i + 1)) (wItem a k x) = _
          rw [← hi2, show m - i = m - (i + 1) + 1 by omega, wRep, hx]
          rfl
      · rename_i h1 h2
        have hx : x.bad = true := by simpa using h2
        have him : i < m := by simpa using h1
        have he : wRep (wItem a k) m s0 = x := by
          rw [← hi2, show m - i = m - (i + 1) + 1 by omega, wRep, hx]
          rfl
        rw [he] at h
        refine vc_ok (CtxOk.inner (c125_ok h98) _) mixed 1000 _ [] _ (by kernel_rfl) rfl ?_
        conv => whnf
        refine ⟨[some 0, some 1, some 2], .tup .nil, wsH' a x, ?_⟩
        conv => whnf
        repeat' (refine And.intro ?_ ?_ <;> conv => whnf)
        all_goals try first | exact ⟨rfl⟩ | exact ⟨⟨rfl, rfl⟩⟩ | exact ⟨⟨rfl, rfl, rfl⟩⟩ | exact ⟨by omega⟩ | exact ⟨⟨by omega, by omega⟩⟩ | exact ⟨⟨by omega, by omega, by omega⟩⟩ | exact ⟨fun k _ => leV_refl _ trivial⟩ | exact ⟨fun _ _ => rfl⟩ | exact h
        all_goals exact ⟨by simp_all⟩
      · rename_i h1
        have him : i = m := by
          have : ¬ ((i : Nat) : Int) < (m : Nat) := by simpa using h1
          omega
        have he : wRep (wItem a k) m s0 = x := by
          rw [← hi2, him, Nat.sub_self, wRep]
        rw [he] at h
        refine vc_ok (CtxOk.inner (c125_ok h98) _) mixed 1000 _ [] _ (by kernel_rfl) rfl ?_
        conv => whnf
        refine ⟨[some 0, some 1, some 2], .tup .nil, wsH' a x, ?_⟩
        conv => whnf
        repeat' (refine And.intro ?_ ?_ <;> conv => whnf)
        all_goals try first | exact ⟨rfl⟩ | exact ⟨⟨rfl, rfl⟩⟩ | exact ⟨⟨rfl, rfl, rfl⟩⟩ | exact ⟨by omega⟩ | exact ⟨⟨by omega, by omega⟩⟩ | exact ⟨⟨by omega, by omega, by omega⟩⟩ | exact ⟨fun k _ => leV_refl _ trivial⟩ | exact ⟨fun _ _ => rfl⟩ | exact h
        all_goals exact ⟨by simp_all⟩
  ) (fun _ => by simp [wsH, wsH']) (fun _ => by simp [rok, roks]) (fun x u hu => wsH'_rok _ _ u hu)
end Go.Proofs.YtaihjcpfjgpmoaaGreatDoor

/- The writer of CBOR: an item; whole rows. -/
namespace Go.Proofs.YtaihjcpfjgpmoaaGreatDoor
set_option linter.unusedVariables false
set_option linter.unusedSimpArgs false
set_option maxRecDepth 100000
open Go Go.DD
def S98 (S : SpecH) : SpecH := fun xs h κ => xs.length = 2 ∧ inlineS Tryz.prog (ctxG Tryz.f215.ntmps [] [(253, H123), (254, H124), (255, S)] []) (bodyOf Tryz.f215) Tryz.f215.results.toList xs h κ
theorem c98_ok {S : SpecH} (hS : SpecHOk Tryz.prog G 255 S) : CtxOk Tryz.prog (ctxG Tryz.f215.ntmps [] [(253, H123), (254, H124), (255, S)] []) := ctxG_ok _ _ _ _ .nil (.cons (hg h123_ok) (.cons h124_ok (.cons hS .nil)))
theorem s98_ok {S : SpecH} (hS : SpecHOk Tryz.prog G 255 S) : SpecHOk Tryz.prog G 215 (S98 S) := inline_ok (c := bodyOf Tryz.f215) (np := 2) (c98_ok hS) Tryz.func215 rfl (by decide) rfl (by decide)
def ahead (s : WS) : WS := ⟨s.at' + 1, s.out, s.bad⟩
theorem wItem_eq (a : Toks) (k : Nat) (s : WS) : wItem a k s =
    if a.n ≤ s.at' ∨ 32768 < s.out.length then wBad s
    else if (a.ts s.at').kind = 1 then wNum (ahead s) 0 (a.ts s.at')
    else if (a.ts s.at').kind = 2 then wNum (ahead s) 1 (a.ts s.at')
    else if (a.ts s.at').kind = 3 ∨ (a.ts s.at').kind = 4 then wBytes (ahead s) (a.ts s.at')
    else if (a.ts s.at').kind = 5 then wMany a k (ahead s) (a.ts s.at')
    else wBad (ahead s) := by
  cases k with
  | zero => simp only [wItem, wMany, ahead, ite_self]
  | succ k =>
    simp only [wItem, wMany, ahead]
    repeat' (first | rfl | split)
    all_goals simp_all
theorem h98_of (k : Nat) (h125 : SpecHOk Tryz.prog G 255 (H125 k)) : SpecHOk Tryz.prog G 215 (H98 k) := mkHS_ok (s98_ok h125) (fun ⟨a, s⟩ κ ⟨hb, ha, hk7⟩ h => by
  replace hb : s.out.length ≤ 70000 := hb
  replace ha : toksOk a := ha
  replace h : κ (.tup .nil) (wsH' a (wItem a k s)) := h
  rw [wItem_eq] at h
  refine ⟨rfl, ?_⟩
  refine vc_ok (CtxOk.inner (c98_ok h125) _) mixed 1000 _ [] _ (by kernel_rfl) rfl ?_
  have hn6 : a.n ≤ 600 := ha.1
  conv => whnf
  repeat' (first | (refine And.intro (fun _ => ?_) (fun _ => ?_) <;> conv => whnf) | (refine And.intro ?_ ?_ <;> conv => whnf))
  all_goals simp only [decide_eq_true_eq, decide_eq_false_iff_not, beq_iff_eq, beq_eq_false_iff_ne] at *
  · rw [if_pos (by omega)] at h
    refine ⟨[some 0, some 1, some 1], .tup .nil, wsH' a (wBad s), ?_⟩
    conv => whnf
    repeat' (refine And.intro ?_ ?_ <;> conv => whnf)
    all_goals try first | exact ⟨rfl⟩ | exact ⟨⟨rfl, rfl⟩⟩ | exact ⟨⟨rfl, rfl, rfl⟩⟩ | exact ⟨by omega⟩ | exact ⟨⟨by omega, by omega⟩⟩ | exact ⟨⟨by omega, by omega, by omega⟩⟩ | exact ⟨fun k _ => leV_refl _ trivial⟩ | exact ⟨fun _ _ => rfl⟩ | exact h
    all_goals exact ⟨by simp_all [wBad]⟩
  · rw [if_pos (by omega)] at h
    refine ⟨[some 0, some 1, some 1], .tup .nil, wsH' a (wBad s), ?_⟩
    conv => whnf
    repeat' (refine And.intro ?_ ?_ <;> conv => whnf)
    all_goals try first | exact ⟨rfl⟩ | exact ⟨⟨rfl, rfl⟩⟩ | exact ⟨⟨rfl, rfl, rfl⟩⟩ | exact ⟨by omega⟩ | exact ⟨⟨by omega, by omega⟩⟩ | exact ⟨⟨by omega, by omega, by omega⟩⟩ | exact ⟨fun k _ => leV_refl _ trivial⟩ | exact ⟨fun _ _ => rfl⟩ | exact h
    all_goals exact ⟨by simp_all [wBad]⟩
  · exact ⟨by omega⟩
  all_goals have hlt : s.at' < a.n := by omega
  all_goals have hok := ha.2 s.at' hlt
  · have hkd : (a.ts s.at').kind = 1 := by assumption
    have e : (if a.n ≤ s.at' ∨ 32768 < s.out.length then wBad s
        else if (a.ts s.at').kind = 1 then wNum (ahead s) 0 (a.ts s.at')
        else if (a.ts s.at').kind = 2 then wNum (ahead s) 1 (a.ts s.at')
        else if (a.ts s.at').kind = 3 ∨ (a.ts s.at').kind = 4 then wBytes (ahead s) (a.ts s.at')
        else if (a.ts s.at').kind = 5 then wMany a k (ahead s) (a.ts s.at')
        else wBad (ahead s)) = wNum (ahead s) 0 (a.ts s.at') := by
      rw [if_neg (by omega)]
      simp_all
    rw [e] at h
    refine ⟨⟨a, ahead s, 0, a.ts s.at'⟩, [some 0, some 1], ?_⟩
    conv => whnf
    repeat' (first | (refine And.intro (fun _ => ?_) (fun _ => ?_) <;> conv => whnf) | (refine And.intro ?_ ?_ <;> conv => whnf))
    all_goals try first | exact ⟨rfl⟩ | exact ⟨⟨rfl, rfl⟩⟩ | exact ⟨⟨rfl, rfl, rfl⟩⟩ | exact ⟨by omega⟩ | exact ⟨⟨by omega, by omega⟩⟩ | exact ⟨⟨by omega, by omega, by omega⟩⟩ | exact ⟨fun k _ => leV_refl _ trivial⟩ | exact ⟨fun _ _ => rfl⟩
    · exact ⟨by rw [wrap_id (by show _ ≤ ((s.at' : Nat) : Int) + 1; omega) (by show ((s.at' : Nat) : Int) + 1 ≤ _; omega)]; rfl⟩
    · refine ⟨?_⟩
      exact ⟨by show s.out.length ≤ 900000; omega, by show 0 < 8; decide, hok.2.2⟩
    refine ⟨[some 0, some 1, some 5], .tup .nil, wsH' a (wNum (ahead s) 0 (a.ts s.at')), ?_⟩
    conv => whnf
    repeat' (refine And.intro ?_ ?_ <;> conv => whnf)
    all_goals try first | exact ⟨rfl⟩ | exact ⟨⟨rfl, rfl⟩⟩ | exact ⟨⟨rfl, rfl, rfl⟩⟩ | exact ⟨by omega⟩ | exact ⟨⟨by omega, by omega⟩⟩ | exact ⟨⟨by omega, by omega, by omega⟩⟩ | exact ⟨fun k _ => leV_refl _ trivial⟩ | exact ⟨fun _ _ => rfl⟩ | exact h
  · have hkd : (a.ts s.at').kind = 2 := by assumption
    have e : (if a.n ≤ s.at' ∨ 32768 < s.out.length then wBad s
        else if (a.ts s.at').kind = 1 then wNum (ahead s) 0 (a.ts s.at')
        else if (a.ts s.at').kind = 2 then wNum (ahead s) 1 (a.ts s.at')
        else if (a.ts s.at').kind = 3 ∨ (a.ts s.at').kind = 4 then wBytes (ahead s) (a.ts s.at')
        else if (a.ts s.at').kind = 5 then wMany a k (ahead s) (a.ts s.at')
        else wBad (ahead s)) = wNum (ahead s) 1 (a.ts s.at') := by
      rw [if_neg (by omega)]
      simp_all
    rw [e] at h
    refine ⟨⟨a, ahead s, 1, a.ts s.at'⟩, [some 0, some 1], ?_⟩
    conv => whnf
    repeat' (first | (refine And.intro (fun _ => ?_) (fun _ => ?_) <;> conv => whnf) | (refine And.intro ?_ ?_ <;> conv => whnf))
    all_goals try first | exact ⟨rfl⟩ | exact ⟨⟨rfl, rfl⟩⟩ | exact ⟨⟨rfl, rfl, rfl⟩⟩ | exact ⟨by omega⟩ | exact ⟨⟨by omega, by omega⟩⟩ | exact ⟨⟨by omega, by omega, by omega⟩⟩ | exact ⟨fun k _ => leV_refl _ trivial⟩ | exact ⟨fun _ _ => rfl⟩
    · exact ⟨by rw [wrap_id (by show _ ≤ ((s.at' : Nat) : Int) + 1; omega) (by show ((s.at' : Nat) : Int) + 1 ≤ _; omega)]; rfl⟩
    · refine ⟨?_⟩
      exact ⟨by show s.out.length ≤ 900000; omega, by show 1 < 8; decide, hok.2.2⟩
    refine ⟨[some 0, some 1, some 5], .tup .nil, wsH' a (wNum (ahead s) 1 (a.ts s.at')), ?_⟩
    conv => whnf
    repeat' (refine And.intro ?_ ?_ <;> conv => whnf)
    all_goals try first | exact ⟨rfl⟩ | exact ⟨⟨rfl, rfl⟩⟩ | exact ⟨⟨rfl, rfl, rfl⟩⟩ | exact ⟨by omega⟩ | exact ⟨⟨by omega, by omega⟩⟩ | exact ⟨⟨by omega, by omega, by omega⟩⟩ | exact ⟨fun k _ => leV_refl _ trivial⟩ | exact ⟨fun _ _ => rfl⟩ | exact h
  · have hkd : (a.ts s.at').kind = 3 := by assumption
    have e : (if a.n ≤ s.at' ∨ 32768 < s.out.length then wBad s
        else if (a.ts s.at').kind = 1 then wNum (ahead s) 0 (a.ts s.at')
        else if (a.ts s.at').kind = 2 then wNum (ahead s) 1 (a.ts s.at')
        else if (a.ts s.at').kind = 3 ∨ (a.ts s.at').kind = 4 then wBytes (ahead s) (a.ts s.at')
        else if (a.ts s.at').kind = 5 then wMany a k (ahead s) (a.ts s.at')
        else wBad (ahead s)) = wBytes (ahead s) (a.ts s.at') := by
      rw [if_neg (by omega)]
      simp_all
    rw [e] at h
    refine ⟨⟨a, ahead s, a.ts s.at'⟩, [some 0, some 1], ?_⟩
    conv => whnf
    repeat' (first | (refine And.intro (fun _ => ?_) (fun _ => ?_) <;> conv => whnf) | (refine And.intro ?_ ?_ <;> conv => whnf))
    all_goals try first | exact ⟨rfl⟩ | exact ⟨⟨rfl, rfl⟩⟩ | exact ⟨⟨rfl, rfl, rfl⟩⟩ | exact ⟨by omega⟩ | exact ⟨⟨by omega, by omega⟩⟩ | exact ⟨⟨by omega, by omega, by omega⟩⟩ | exact ⟨fun k _ => leV_refl _ trivial⟩ | exact ⟨fun _ _ => rfl⟩
    · exact ⟨by rw [wrap_id (by show _ ≤ ((s.at' : Nat) : Int) + 1; omega) (by show ((s.at' : Nat) : Int) + 1 ≤ _; omega)]; rfl⟩
    · refine ⟨?_⟩
      exact ⟨by show s.out.length ≤ 800000; omega, .inl hkd, by have := hok.2.1; show (a.ts s.at').l.length ≤ 1000000; omega⟩
    refine ⟨[some 0, some 1, some 5], .tup .nil, wsH' a (wBytes (ahead s) (a.ts s.at')), ?_⟩
    conv => whnf
    repeat' (refine And.intro ?_ ?_ <;> conv => whnf)
    all_goals try first | exact ⟨rfl⟩ | exact ⟨⟨rfl, rfl⟩⟩ | exact ⟨⟨rfl, rfl, rfl⟩⟩ | exact ⟨by omega⟩ | exact ⟨⟨by omega, by omega⟩⟩ | exact ⟨⟨by omega, by omega, by omega⟩⟩ | exact ⟨fun k _ => leV_refl _ trivial⟩ | exact ⟨fun _ _ => rfl⟩ | exact h
  · have hkd : (a.ts s.at').kind = 4 := by assumption
    have e : (if a.n ≤ s.at' ∨ 32768 < s.out.length then wBad s
        else if (a.ts s.at').kind = 1 then wNum (ahead s) 0 (a.ts s.at')
        else if (a.ts s.at').kind = 2 then wNum (ahead s) 1 (a.ts s.at')
        else if (a.ts s.at').kind = 3 ∨ (a.ts s.at').kind = 4 then wBytes (ahead s) (a.ts s.at')
        else if (a.ts s.at').kind = 5 then wMany a k (ahead s) (a.ts s.at')
        else wBad (ahead s)) = wBytes (ahead s) (a.ts s.at') := by
      rw [if_neg (by omega)]
      simp_all
    rw [e] at h
    refine ⟨⟨a, ahead s, a.ts s.at'⟩, [some 0, some 1], ?_⟩
    conv => whnf
    repeat' (first | (refine And.intro (fun _ => ?_) (fun _ => ?_) <;> conv => whnf) | (refine And.intro ?_ ?_ <;> conv => whnf))
    all_goals try first | exact ⟨rfl⟩ | exact ⟨⟨rfl, rfl⟩⟩ | exact ⟨⟨rfl, rfl, rfl⟩⟩ | exact ⟨by omega⟩ | exact ⟨⟨by omega, by omega⟩⟩ | exact ⟨⟨by omega, by omega, by omega⟩⟩ | exact ⟨fun k _ => leV_refl _ trivial⟩ | exact ⟨fun _ _ => rfl⟩
    · exact ⟨by rw [wrap_id (by show _ ≤ ((s.at' : Nat) : Int) + 1; omega) (by show ((s.at' : Nat) : Int) + 1 ≤ _; omega)]; rfl⟩
    · refine ⟨?_⟩
      exact ⟨by show s.out.length ≤ 800000; omega, .inr hkd, by have := hok.2.1; show (a.ts s.at').l.length ≤ 1000000; omega⟩
    refine ⟨[some 0, some 1, some 5], .tup .nil, wsH' a (wBytes (ahead s) (a.ts s.at')), ?_⟩
    conv => whnf
    repeat' (refine And.intro ?_ ?_ <;> conv => whnf)
    all_goals try first | exact ⟨rfl⟩ | exact ⟨⟨rfl, rfl⟩⟩ | exact ⟨⟨rfl, rfl, rfl⟩⟩ | exact ⟨by omega⟩ | exact ⟨⟨by omega, by omega⟩⟩ | exact ⟨⟨by omega, by omega, by omega⟩⟩ | exact ⟨fun k _ => leV_refl _ trivial⟩ | exact ⟨fun _ _ => rfl⟩ | exact h
  · have hkd : (a.ts s.at').kind = 5 := by assumption
    have e : (if a.n ≤ s.at' ∨ 32768 < s.out.length then wBad s
        else if (a.ts s.at').kind = 1 then wNum (ahead s) 0 (a.ts s.at')
        else if (a.ts s.at').kind = 2 then wNum (ahead s) 1 (a.ts s.at')
        else if (a.ts s.at').kind = 3 ∨ (a.ts s.at').kind = 4 then wBytes (ahead s) (a.ts s.at')
        else if (a.ts s.at').kind = 5 then wMany a k (ahead s) (a.ts s.at')
        else wBad (ahead s)) = wMany a k (ahead s) (a.ts s.at') := by
      rw [if_neg (by omega)]
      simp_all
    rw [e] at h
    refine ⟨⟨a, ahead s, a.ts s.at'⟩, [some 0, some 1], ?_⟩
    conv => whnf
    repeat' (first | (refine And.intro (fun _ => ?_) (fun _ => ?_) <;> conv => whnf) | (refine And.intro ?_ ?_ <;> conv => whnf))
    all_goals try first | exact ⟨rfl⟩ | exact ⟨⟨rfl, rfl⟩⟩ | exact ⟨⟨rfl, rfl, rfl⟩⟩ | exact ⟨by omega⟩ | exact ⟨⟨by omega, by omega⟩⟩ | exact ⟨⟨by omega, by omega, by omega⟩⟩ | exact ⟨fun k _ => leV_refl _ trivial⟩ | exact ⟨fun _ _ => rfl⟩
    · exact ⟨by rw [wrap_id (by show _ ≤ ((s.at' : Nat) : Int) + 1; omega) (by show ((s.at' : Nat) : Int) + 1 ≤ _; omega)]; rfl⟩
    · refine ⟨?_⟩
      exact ⟨by show s.out.length ≤ 40000; omega, hkd, ha, hk7⟩
    refine ⟨[some 0, some 1, some 5], .tup .nil, wsH' a (wMany a k (ahead s) (a.ts s.at')), ?_⟩
    conv => whnf
    repeat' (refine And.intro ?_ ?_ <;> conv => whnf)
    all_goals try first | exact ⟨rfl⟩ | exact ⟨⟨rfl, rfl⟩⟩ | exact ⟨⟨rfl, rfl, rfl⟩⟩ | exact ⟨by omega⟩ | exact ⟨⟨by omega, by omega⟩⟩ | exact ⟨⟨by omega, by omega, by omega⟩⟩ | exact ⟨fun k _ => leV_refl _ trivial⟩ | exact ⟨fun _ _ => rfl⟩ | exact h
  · exact absurd (by assumption) hok.1
  · have e : (if a.n ≤ s.at' ∨ 32768 < s.out.length then wBad s
        else if (a.ts s.at').kind = 1 then wNum (ahead s) 0 (a.ts s.at')
        else if (a.ts s.at').kind = 2 then wNum (ahead s) 1 (a.ts s.at')
        else if (a.ts s.at').kind = 3 ∨ (a.ts s.at').kind = 4 then wBytes (ahead s) (a.ts s.at')
        else if (a.ts s.at').kind = 5 then wMany a k (ahead s) (a.ts s.at')
        else wBad (ahead s)) = wBad (ahead s) := by
      rw [if_neg (by omega)]
      simp_all
    rw [e] at h
    refine ⟨[some 0, some 1, some 1], .tup .nil, wsH' a (wBad (ahead s)), ?_⟩
    conv => whnf
    repeat' (refine And.intro ?_ ?_ <;> conv => whnf)
    all_goals try first | exact ⟨rfl⟩ | exact ⟨⟨rfl, rfl⟩⟩ | exact ⟨⟨rfl, rfl, rfl⟩⟩ | exact ⟨by omega⟩ | exact ⟨⟨by omega, by omega⟩⟩ | exact ⟨⟨by omega, by omega, by omega⟩⟩ | exact ⟨fun k _ => leV_refl _ trivial⟩ | exact ⟨fun _ _ => rfl⟩ | exact h
    all_goals exact ⟨by rw [wrap_id (by show _ ≤ ((s.at' : Nat) : Int) + 1; omega) (by show ((s.at' : Nat) : Int) + 1 ≤ _; omega)]; rfl⟩
  ) (fun _ => by simp [wsH, wsH']) (fun _ => by simp [rok, roks]) (fun x u hu => wsH'_rok _ _ u hu)
theorem h98_ok : ∀ k, SpecHOk Tryz.prog G 215 (H98 k)
  | 0 => h98_of 0 h125_zero
  | k + 1 => h98_of (k + 1) (h125_succ k (h98_ok k))
def H98t : SpecH := H98 6
theorem h98t_ok : SpecHOk Tryz.prog G 215 H98t := h98_ok 6
/-- A token whose bytes are nil. -/
def tokE (t : Tk) : V := .st (.cons (.int .i64 t.kind) (.cons (.int .i64 t.n) (.cons .emp .nil)))
def isTok (v : V) (t : Tk) : Prop := v = tokV t ∨ (v = tokE t ∧ t.l = [])
theorem R_tok {E : Env} {v : V} {t : Tk} {c : Nat → Option Value} {o : Nat} (h : isTok v t) (hr : R E v c o) : R E (tokV t) c o := by
  rcases h with rfl | ⟨rfl, hl⟩
  · exact hr
  · simp only [tokE, tokV, R, RL, vsize] at hr ⊢
    refine ⟨hr.1, hr.2.1, ?_, trivial⟩
    have := hr.2.2.1
    simp only [byV, hl, List.length_nil]
    obtain ⟨a, ha⟩ := this
    exact R_emp_imm (by simp only [R]; exact ⟨a, ha⟩)
theorem T_imm_tok {E : Env} {l : Bool} {n : Nat} {f : Nat → V} {ts : Nat → Tk} {x : Value} (h : ∀ k, k < n → isTok (f k) (ts k)) (hT : T E (.imm l 3 n f) x) : T E (.imm l 3 n fun k => tokV (ts k)) x := by
  obtain ⟨a, cp, h1, h2, h3⟩ := T_imm.1 hT
  refine T_imm.2 ⟨a, cp, h1, h2, h3.imp id fun ⟨b, off, h4, h5, h6⟩ => ⟨b, off, h4, h5, fun k hk => ⟨rfl, R_tok (h k hk) (h6 k hk).2⟩⟩⟩
def enc (a : Toks) : List UInt8 × Int :=
  if 600 < a.n then ([], 1)
  else if (wItem a 6 ⟨0, [], false⟩).bad = true ∨ (wItem a 6 ⟨0, [], false⟩).at' ≠ a.n ∨ 32768 < (wItem a 6 ⟨0, [], false⟩).out.length then ([], 1)
  else ((wItem a 6 ⟨0, [], false⟩).out, 0)
structure EnA where
  f : Nat → V
  a : Toks
def encR (r : List UInt8 × Int) : V := .tup (.cons (byV false r.1) (.cons (.int .i64 r.2) .nil))
def F61 : FSpec := mkF (fun (x : EnA) => [.imm x.a.lt 3 x.a.n x.f]) (fun x => (∀ k, k < x.a.n → isTok (x.f k) (x.a.ts k)) ∧ ∀ k, k < x.a.n → tokOk (x.a.ts k)) (fun x => encR (enc x.a))
theorem f61_ok : FOk Tryz.prog G 166 F61 := mkF_ld fun ⟨f, a⟩ ⟨hf, ht⟩ => by
  refine CP.le (ys := [toksV a]) (fun E l hT => ?_) ?_
  · cases l with
    | nil => exact hT
    | cons x l => exact ⟨T_imm_tok hf hT.1, hT.2⟩
  show CP _ _ _ _ fun v => Ld v (encR (enc a))
  replace ht : ∀ k, k < a.n → tokOk (a.ts k) := ht
  have hΓ := ctxG_ok Tryz.f166.ntmps [] [(215, H98t)] [] .nil (.cons (h98t_ok) .nil)
  refine CP_of_OK hΓ Tryz.func166 (c := bodyOf Tryz.f166) rfl (by decide) rfl rfl (by simp) (vc_ok hΓ mixed 1000 _ [] _ (by kernel_rfl) rfl ?_)
  conv => whnf
  repeat' (first | (refine And.intro (fun _ => ?_) (fun _ => ?_) <;> conv => whnf) | (refine And.intro ?_ ?_ <;> conv => whnf))
  · rename_i h1
    have hb : (600 : Int) < (a.n : Nat) := by simpa using h1
    have e : enc a = ([], 1) := if_pos (by omega)
    rw [e]
    exact Ld.two Ld.emp (by simp) rfl (by simp [byV]) rfl
  · rename_i h1
    have hb : ¬ (600 : Int) < (a.n : Nat) := by simpa using h1
    have ha : toksOk a := ⟨by omega, ht⟩
    refine ⟨⟨a, ⟨0, [], false⟩⟩, [some 0, none], ?_⟩
    conv => whnf
    repeat' (first | (refine And.intro (fun _ => ?_) (fun _ => ?_) <;> conv => whnf) | (refine And.intro ?_ ?_ <;> conv => whnf))
    all_goals try first | exact ⟨rfl⟩ | exact ⟨⟨rfl, rfl⟩⟩ | exact ⟨⟨rfl, rfl, rfl⟩⟩ | exact ⟨by omega⟩ | exact ⟨⟨by omega, by omega⟩⟩ | exact ⟨⟨by omega, by omega, by omega⟩⟩ | exact ⟨fun k _ => leV_refl _ trivial⟩ | exact ⟨fun _ _ => rfl⟩ | exact ⟨⟨by show 0 ≤ 70000; omega, ha, by omega⟩⟩
    all_goals
      have he : enc a = if (wItem a 6 ⟨0, [], false⟩).bad = true ∨ (wItem a 6 ⟨0, [], false⟩).at' ≠ a.n ∨ 32768 < (wItem a 6 ⟨0, [], false⟩).out.length then ([], 1) else ((wItem a 6 ⟨0, [], false⟩).out, 0) := by rw [enc, if_neg (by omega)]
      simp only [decide_eq_true_eq, decide_eq_false_iff_not, bne_iff_ne, ne_eq, bne_eq_false_iff_eq] at *
      generalize wItem a 6 ⟨0, [], false⟩ = s at *
    · rw [he, if_pos (by simp_all)]
      exact Ld.two Ld.emp (by simp) rfl (by simp [byV]) rfl
    · rw [he, if_pos (by omega)]
      exact Ld.two Ld.emp (by simp) rfl (by simp [byV]) rfl
    · rw [he, if_pos (by omega)]
      exact Ld.two Ld.emp (by simp) rfl (by simp [byV]) rfl
    · exact ⟨fun k _ => own_bf _ _⟩
    · rename_i g1 g2 g3
      rw [he, if_neg (by simp only [g1]; simp; omega)]
      refine Ld.two (Ld.imm fun k hk => by rw [Nat.zero_add]) (by simp) rfl (by simp [byV]) rfl
end Go.Proofs.YtaihjcpfjgpmoaaGreatDoor

/- Tokens; entries: their operation, whether they are right. -/
namespace Go.Proofs.YtaihjcpfjgpmoaaGreatDoor
set_option linter.unusedVariables false
set_option linter.unusedSimpArgs false
set_option maxRecDepth 100000
open Go Go.DD
def F31 : FSpec := mkF (fun (n : Int) => [.int .i64 n]) (fun _ => True) (fun n => tokE ⟨1, n, false, []⟩)
theorem f31_ok : FOk Tryz.prog [] 217 F31 := mkF_ok fun n _ Φ h => by
  have hΓ := ctxOk Tryz.f217.ntmps [] [] (FL.all .nil) (HL.all .nil)
  refine CP_of_OK hΓ Tryz.func217 (c := bodyOf Tryz.f217) rfl (by decide) rfl rfl (by simp) (vc_ok hΓ mixed 1000 _ [] _ (by kernel_rfl) rfl ?_)
  conv => whnf
  repeat' (first | (refine And.intro (fun _ => ?_) (fun _ => ?_) <;> conv => whnf) | (refine And.intro ?_ ?_ <;> conv => whnf))
  exact h
def F68 : FSpec := mkF (fun (n : Int) => [.int .i64 n]) (fun _ => True) (fun n => tokE ⟨5, n, false, []⟩)
theorem f68_ok : FOk Tryz.prog [] 216 F68 := mkF_ok fun n _ Φ h => by
  have hΓ := ctxOk Tryz.f216.ntmps [] [] (FL.all .nil) (HL.all .nil)
  refine CP_of_OK hΓ Tryz.func216 (c := bodyOf Tryz.f216) rfl (by decide) rfl rfl (by simp) (vc_ok hΓ mixed 1000 _ [] _ (by kernel_rfl) rfl ?_)
  conv => whnf
  repeat' (first | (refine And.intro (fun _ => ?_) (fun _ => ?_) <;> conv => whnf) | (refine And.intro ?_ ?_ <;> conv => whnf))
  exact h
def F34 : FSpec := mkF (fun (l : List UInt8) => [.str l]) (fun l => 1 ≤ l.length ∧ l.length ≤ 1000000) (fun l => tokV ⟨4, 0, false, l⟩)
theorem f34_ok : FOk Tryz.prog [] 219 F34 := mkF_ok fun l ⟨hl, hn⟩ Φ h => by
  have hΓ := ctxOk Tryz.f219.ntmps [] [] (FL.all .nil) (HL.all .nil)
  refine CP_of_OK hΓ Tryz.func219 (c := bodyOf Tryz.f219) rfl (by decide) rfl rfl (by simp) (vc_ok hΓ mixed 1000 _ [] _ (by kernel_rfl) rfl ?_)
  conv => whnf
  repeat' (first | (refine And.intro (fun _ => ?_) (fun _ => ?_) <;> conv => whnf) | (refine And.intro ?_ ?_ <;> conv => whnf))
  · exact ⟨fun _ _ => trivial⟩
  · exact h
inductive StrA where
  | sl (lo len cap : Nat)
  | fld (k off lo len cap : Nat)
  | imm (b : Bool) (n : Nat) (f : Nat → V)
  | emp
def StrA.v : StrA → V | .sl lo len cap => .sl 0 [] 1 lo len cap | .fld k off lo len cap => .sl 0 [.f k off] 1 lo len cap | .imm b n f => .imm b 1 n f | .emp => .emp
def StrA.nv : StrA → Nat | .sl .. => 1 | .fld .. => 1 | _ => 0
def P32 : SpecP := mkOS (fun (a : StrA) => [a.v]) StrA.nv (fun _ => True) (fun a => .st (.cons (.int .i64 3) (.cons (.int .i64 0) (.cons a.v .nil))))
theorem c32_ok : CtxOk Tryz.prog (ctx Tryz.f218.ntmps [] []) := ctxOk Tryz.f218.ntmps [] [] (FL.all .nil) (HL.all .nil)
def S32 : SpecH := fun xs h κ => xs.length = 1 ∧ inlineS Tryz.prog (ctx Tryz.f218.ntmps [] []) (bodyOf Tryz.f218) Tryz.f218.results.toList xs h κ
theorem s32_ok : SpecHOk Tryz.prog [] 218 S32 := inline_ok (c := bodyOf Tryz.f218) (np := 1) c32_ok Tryz.func218 rfl (by decide) rfl (by decide)
theorem p32_ok : SpecPOk Tryz.prog [] 218 P32 := mkOS_ok s32_ok (fun a _ => by
  refine ⟨rfl, ?_⟩
  cases a with
  | sl lo len cap =>
    refine vc_ok (CtxOk.inner c32_ok _) mixed 1000 _ [] _ (by kernel_rfl) rfl ?_
    conv => whnf
    refine ⟨[some 0], .st (.cons (.int .i64 3) (.cons (.int .i64 0) (.cons (.sl 0 [] 1 lo len cap) .nil))), noneH 1, ?_⟩
    conv => whnf
    repeat' (refine And.intro ?_ ?_ <;> conv => whnf)
    all_goals try first | exact ⟨rfl⟩ | exact ⟨⟨rfl, rfl⟩⟩ | exact ⟨⟨rfl, rfl, rfl⟩⟩ | exact ⟨by omega⟩ | exact ⟨⟨by omega, by omega⟩⟩ | exact ⟨⟨by omega, by omega, by omega⟩⟩ | exact ⟨fun _ _ => rfl⟩
    all_goals rfl
  | fld k off lo len cap =>
    refine vc_ok (CtxOk.inner c32_ok _) mixed 1000 _ [] _ (by kernel_rfl) rfl ?_
    conv => whnf
    refine ⟨[some 0], .st (.cons (.int .i64 3) (.cons (.int .i64 0) (.cons (.sl 0 [.f k off] 1 lo len cap) .nil))), noneH 1, ?_⟩
    conv => whnf
    repeat' (refine And.intro ?_ ?_ <;> conv => whnf)
    all_goals try first | exact ⟨rfl⟩ | exact ⟨⟨rfl, rfl⟩⟩ | exact ⟨⟨rfl, rfl, rfl⟩⟩ | exact ⟨by omega⟩ | exact ⟨⟨by omega, by omega⟩⟩ | exact ⟨⟨by omega, by omega, by omega⟩⟩ | exact ⟨fun _ _ => rfl⟩
    all_goals rfl
  | imm b n f =>
    refine vc_ok (CtxOk.inner c32_ok _) mixed 1000 _ [] _ (by kernel_rfl) rfl ?_
    conv => whnf
    refine ⟨[], .st (.cons (.int .i64 3) (.cons (.int .i64 0) (.cons (.imm b 1 n f) .nil))), noneH 0, ?_⟩
    conv => whnf
    repeat' (refine And.intro ?_ ?_ <;> conv => whnf)
    all_goals try first | exact ⟨rfl⟩ | exact ⟨⟨rfl, rfl⟩⟩ | exact ⟨⟨rfl, rfl, rfl⟩⟩ | exact ⟨by omega⟩ | exact ⟨⟨by omega, by omega⟩⟩ | exact ⟨⟨by omega, by omega, by omega⟩⟩ | exact ⟨fun _ _ => rfl⟩
    all_goals rfl
  | emp =>
    refine vc_ok (CtxOk.inner c32_ok _) mixed 1000 _ [] _ (by kernel_rfl) rfl ?_
    conv => whnf
    refine ⟨[], .st (.cons (.int .i64 3) (.cons (.int .i64 0) (.cons (.emp) .nil))), noneH 0, ?_⟩
    conv => whnf
    repeat' (refine And.intro ?_ ?_ <;> conv => whnf)
    all_goals try first | exact ⟨rfl⟩ | exact ⟨⟨rfl, rfl⟩⟩ | exact ⟨⟨rfl, rfl, rfl⟩⟩ | exact ⟨by omega⟩ | exact ⟨⟨by omega, by omega⟩⟩ | exact ⟨⟨by omega, by omega, by omega⟩⟩ | exact ⟨fun _ _ => rfl⟩
    all_goals rfl
  ) (fun a => by cases a <;> simp [rok, roks, StrA.v])
def ctxS (n : Nat) (fs : List (Nat × FSpec)) (ps : List (Nat × SpecP)) (fh : List (Nat × SpecH)) (ex : List (Nat × Plan)) : Ctx := ⟨tb, ps ++ fs.map fun p => (p.1, callS p.2), fh, G, n, 0, ex, false⟩
inductive PL : List (Nat × SpecP) → Prop where
  | nil : PL []
  | cons {n : Nat} {F : SpecP} {l : List (Nat × SpecP)} (h : SpecPOk Tryz.prog G n F) (t : PL l) : PL ((n, F) :: l)
theorem PL.all {l : List (Nat × SpecP)} (h : PL l) : ∀ p ∈ l, SpecPOk Tryz.prog G p.1 p.2 := by
  induction h with
  | nil => intro p hp; cases hp
  | cons h t ih =>
    intro p hp
    rcases List.mem_cons.1 hp with rfl | hp
    · exact h
    · exact ih p hp
theorem ctxS_ok (n : Nat) (fs : List (Nat × FSpec)) (ps : List (Nat × SpecP)) (fh : List (Nat × SpecH)) (ex : List (Nat × Plan)) (h : FL Tryz.prog G fs) (h2 : PL ps) (h' : HL Tryz.prog G fh) : CtxOk Tryz.prog (ctxS n fs ps fh ex) where
  tb := tabOk
  fs := fun p hp => by
    rcases List.mem_append.1 hp with hp | hp
    · exact h2.all p hp
    · obtain ⟨q, hq, rfl⟩ := List.mem_map.1 hp
      exact (h.all q hq).spec
  fh := h'.all
theorem pg {n : Nat} {S : SpecP} (h : SpecPOk Tryz.prog [] n S) : SpecPOk Tryz.prog G n S :=
  ⟨h.1, fun E hh xs args κ hw hs _ ht hd => h.2.1 E hh xs args κ hw hs (fun p hp => by cases hp) ht hd, h.2.2⟩
/-- May the operation be? -/
def opOk (e : Ent) : Bool :=
  decide (1 ≤ e.key.length) && decide (e.key.length ≤ 16) && utf8 e.key && ((decide (e.kind = 1) && decide (e.val.length ≤ 40)) || (decide (e.kind = 2) && decide (e.val.length = 0)))
def F140 : FSpec := mkF (fun (e : Ent) => [opV e]) (fun _ => True) (fun e => .bool (opOk e))
theorem f140_ok : FOk Tryz.prog G 103 F140 := mkF_ok fun e _ Φ h => by
  have hΓ := ctxG_ok Tryz.f103.ntmps [(150, F139)] [] [] (.cons (f139_ok) .nil) .nil
  refine CP_of_OK hΓ Tryz.func103 (c := bodyOf Tryz.f103) rfl (by decide) rfl rfl (by simp) (vc_ok hΓ mixed 1000 _ [] _ (by kernel_rfl) rfl ?_)
  conv => whnf
  repeat' (first | (refine And.intro (fun _ => ?_) (fun _ => ?_) <;> conv => whnf) | (refine And.intro ?_ ?_ <;> conv => whnf))
  all_goals simp only [decide_eq_true_eq, decide_eq_false_iff_not] at *
  · refine cast (congrArg Φ (congrArg V.bool ?_)) h
    simp [opOk]; omega
  · refine cast (congrArg Φ (congrArg V.bool ?_)) h
    simp [opOk]; omega
  · refine ⟨.of false e.key, rfl, ⟨trivial, by show e.key.length ≤ 1000000; omega⟩, ?_⟩
    conv => whnf
    repeat' (first | (refine And.intro (fun _ => ?_) (fun _ => ?_) <;> conv => whnf) | (refine And.intro ?_ ?_ <;> conv => whnf))
    all_goals
      refine cast (congrArg Φ (congrArg V.bool ?_)) h
      rw [Bool.eq_iff_iff]
      simp_all [opOk, By.l] <;> omega
def entOk (e : Ent) : Bool :=
  decide (1 ≤ e.seq) && decide (e.seq ≤ 200) && (!decide (e.seq = 1) || rowEq 32 (bf e.prev) (bf [])) && decide (0 ≤ e.stamp) && opOk e
def F127 : FSpec := mkF (fun (e : Ent) => [entV e]) (fun _ => True) (fun e => .int .i64 (if entOk e then 0 else 1))
theorem f127_ok : FOk Tryz.prog G 63 F127 := mkF_ok fun e _ Φ h => by
  have hΓ := ctxG_ok Tryz.f63.ntmps [(103, F140)] [] [] (.cons (f140_ok) .nil) .nil
  refine CP_of_OK hΓ Tryz.func63 (c := bodyOf Tryz.f63) rfl (by decide) rfl rfl (by simp) (vc_ok hΓ mixed 1000 _ [] _ (by kernel_rfl) rfl ?_)
  conv => whnf
  repeat' (first | (refine And.intro (fun _ => ?_) (fun _ => ?_) <;> conv => whnf) | (refine And.intro ?_ ?_ <;> conv => whnf))
  · (refine cast (congrArg Φ (congrArg (V.int .i64) ?_)) h; simp_all [entOk] <;> omega)
  · (refine cast (congrArg Φ (congrArg (V.int .i64) ?_)) h; simp_all [entOk] <;> omega)
  · exact ⟨fun _ _ => rfl⟩
  · exact ⟨fun _ _ => rfl⟩
  · rename_i g
    replace g : (!rowEq 32 (bf e.prev) (bf [])) = true := g
    (refine cast (congrArg Φ (congrArg (V.int .i64) ?_)) h; simp_all [entOk] <;> omega)
  · rename_i g _
    replace g : (!rowEq 32 (bf e.prev) (bf [])) = false := g
    (refine cast (congrArg Φ (congrArg (V.int .i64) ?_)) h; simp_all [entOk] <;> omega)
  · rename_i g _
    replace g : (!rowEq 32 (bf e.prev) (bf [])) = false := g
    refine ⟨e, rfl, ⟨trivial⟩, ?_⟩
    conv => whnf
    repeat' (first | (refine And.intro (fun _ => ?_) (fun _ => ?_) <;> conv => whnf) | (refine And.intro ?_ ?_ <;> conv => whnf))
    all_goals (refine cast (congrArg Φ (congrArg (V.int .i64) ?_)) h; simp_all [entOk] <;> omega)
  · (refine cast (congrArg Φ (congrArg (V.int .i64) ?_)) h; simp_all [entOk] <;> omega)
  · refine ⟨e, rfl, ⟨trivial⟩, ?_⟩
    conv => whnf
    repeat' (first | (refine And.intro (fun _ => ?_) (fun _ => ?_) <;> conv => whnf) | (refine And.intro ?_ ?_ <;> conv => whnf))
    all_goals (refine cast (congrArg Φ (congrArg (V.int .i64) ?_)) h; simp_all [entOk] <;> omega)
end Go.Proofs.YtaihjcpfjgpmoaaGreatDoor

/- Entries' bytes, ids. -/
namespace Go.Proofs.YtaihjcpfjgpmoaaGreatDoor
set_option linter.unusedVariables false
set_option linter.unusedSimpArgs false
set_option maxRecDepth 100000
open Go Go.DD
def wfE (e : Ent) : Prop := e.author.length = 32 ∧ e.prev.length = 32 ∧ e.sig.length = 64
/-- The tokens of an entry's bytes. -/
def entTok (e : Ent) (many : Int) : Nat → Tk
  | 0 => ⟨5, many, false, []⟩
  | 1 => ⟨1, 1, false, []⟩
  | 2 => ⟨3, 0, true, e.author⟩
  | 3 => ⟨1, e.seq, false, []⟩
  | 4 => ⟨3, 0, true, e.prev⟩
  | 5 => ⟨1, e.stamp, false, []⟩
  | 6 => ⟨5, 3, false, []⟩
  | 7 => ⟨1, e.kind, false, []⟩
  | 8 => ⟨4, 0, false, e.key⟩
  | 9 => ⟨3, 0, false, e.val⟩
  | _ => ⟨3, 0, true, e.sig⟩
def entToks (e : Ent) : Toks := ⟨true, 11, entTok e 7⟩
theorem tok_arr {l : List UInt8} {n : Nat} (h : l.length = n) : V.st (.cons (.int .i64 3) (.cons (.int .i64 0) (.cons (.imm true 1 n fun k => bf l (0 + k)) .nil))) = tokV ⟨3, 0, true, l⟩ := by
  subst h
  simp only [Nat.zero_add, tokV, byV]
theorem c128_ok : CtxOk Tryz.prog (ctxS Tryz.f167.ntmps [(216, F68), (217, F31), (219, F34)] [(218, P32)] [] []) := ctxS_ok _ _ _ _ _ (.cons f68_ok.g (.cons f31_ok.g (.cons f34_ok.g .nil))) (.cons (pg p32_ok) .nil) .nil
def S128 : SpecH := fun xs h κ => xs.length = 2 ∧ inlineS Tryz.prog (ctxS Tryz.f167.ntmps [(216, F68), (217, F31), (219, F34)] [(218, P32)] [] []) (bodyOf Tryz.f167) Tryz.f167.results.toList xs h κ
theorem s128_ok : SpecHOk Tryz.prog G 167 S128 := inline_ok (c := bodyOf Tryz.f167) (np := 2) c128_ok Tryz.func167 rfl (by decide) rfl (by decide)
def encE (e : Ent) : List UInt8 × Int := if entOk e then enc (entToks e) else ([], 1)
def F103 : FSpec := mkF (fun (e : Ent) => [entV e, .int .i64 7]) (fun e => wfE e ∧ e.stamp ≤ 9223372036854775807) (fun e => encR (encE e))
theorem f103_ok : FOk Tryz.prog G 129 F103 := mkF_ld fun e ⟨⟨w1, w2, w3⟩, hst⟩ => by
  have hΓ := ctxG_ok Tryz.f129.ntmps [(63, F127), (166, F61)] [(167, S128)] [] (.cons (f127_ok) (.cons (f61_ok) .nil)) (.cons (s128_ok) .nil)
  refine CP_of_OK hΓ Tryz.func129 (c := bodyOf Tryz.f129) rfl (by decide) rfl rfl (by simp) (vc_ok hΓ mixed 1000 _ [] _ (by kernel_rfl) rfl ?_)
  conv => whnf
  repeat' (first | (refine And.intro (fun _ => ?_) (fun _ => ?_) <;> conv => whnf) | (refine And.intro ?_ ?_ <;> conv => whnf))
  all_goals try first | exact ⟨rfl⟩ | exact ⟨⟨rfl, rfl⟩⟩ | exact ⟨⟨rfl, rfl, rfl⟩⟩ | exact ⟨fun _ _ => rfl⟩ | exact ⟨fun _ _ => trivial⟩ | exact ⟨fun k _ => isU8_bf _ k⟩ | exact ⟨by omega⟩ | exact ⟨⟨by omega, by omega⟩⟩ | exact ⟨⟨by omega, by omega, by omega⟩⟩
  refine ⟨e, rfl, ⟨trivial⟩, ?_⟩
  conv => whnf
  refine And.intro (fun h1 => ?_) (fun h1 => ?_) <;> conv => whnf
  · have hk : entOk e = false := by
      cases hq : entOk e
      · rfl
      · simp [hq] at h1
    have e1 : encE e = ([], 1) := if_neg (by simp [hk])
    have e2 : (if entOk e = true then (0 : Int) else 1) = 1 := if_neg (by simp [hk])
    rw [e1, e2]
    exact Ld.two Ld.emp (by simp) rfl (by simp [byV]) rfl
  · have hk : entOk e = true := by
      cases hq : entOk e
      · simp [hq] at h1
      · rfl
    have e1 : encE e = enc (entToks e) := if_pos hk
    simp only [entOk, opOk, Bool.and_eq_true, decide_eq_true_eq, Bool.or_eq_true] at hk
    conv => whnf
    repeat' (first | (refine And.intro (fun _ => ?_) (fun _ => ?_) <;> conv => whnf) | (refine And.intro ?_ ?_ <;> conv => whnf))
    all_goals try first | exact ⟨rfl⟩ | exact ⟨⟨rfl, rfl⟩⟩ | exact ⟨⟨rfl, rfl, rfl⟩⟩ | exact ⟨fun _ _ => rfl⟩ | exact ⟨fun _ _ => trivial⟩ | exact ⟨fun k _ => isU8_bf _ k⟩ | exact ⟨by omega⟩ | exact ⟨⟨by omega, by omega⟩⟩ | exact ⟨⟨by omega, by omega, by omega⟩⟩
    · exact rfl
    refine vc_ok (CtxOk.inner c128_ok _) mixed 1000 _ [] _ (by kernel_rfl) rfl ?_
    conv => whnf
    refine ⟨7, rfl, ⟨trivial⟩, ?_⟩
    conv => whnf
    refine ⟨1, rfl, ⟨trivial⟩, ?_⟩
    conv => whnf
    repeat' (first | (refine And.intro (fun _ => ?_) (fun _ => ?_) <;> conv => whnf) | (refine And.intro ?_ ?_ <;> conv => whnf))
    all_goals try first | exact ⟨rfl⟩ | exact ⟨⟨rfl, rfl⟩⟩ | exact ⟨⟨rfl, rfl, rfl⟩⟩ | exact ⟨by omega⟩ | exact ⟨⟨by omega, by omega⟩⟩ | exact ⟨⟨by omega, by omega, by omega⟩⟩
    refine ⟨.fld 0 0 0 32 32, [some 1], ?_⟩
    conv => whnf
    repeat' (first | (refine And.intro (fun _ => ?_) (fun _ => ?_) <;> conv => whnf) | (refine And.intro ?_ ?_ <;> conv => whnf))
    all_goals try first | exact ⟨rfl⟩ | exact ⟨⟨rfl, rfl⟩⟩ | exact ⟨⟨rfl, rfl, rfl⟩⟩ | exact ⟨by omega⟩ | exact ⟨⟨by omega, by omega⟩⟩ | exact ⟨⟨by omega, by omega, by omega⟩⟩ | exact ⟨trivial⟩
    refine ⟨e.seq, rfl, ⟨trivial⟩, ?_⟩
    conv => whnf
    repeat' (first | (refine And.intro (fun _ => ?_) (fun _ => ?_) <;> conv => whnf) | (refine And.intro ?_ ?_ <;> conv => whnf))
    all_goals try first | exact ⟨rfl⟩ | exact ⟨⟨rfl, rfl⟩⟩ | exact ⟨⟨rfl, rfl, rfl⟩⟩ | exact ⟨by omega⟩ | exact ⟨⟨by omega, by omega⟩⟩ | exact ⟨⟨by omega, by omega, by omega⟩⟩ | exact ⟨trivial⟩
    refine ⟨.fld 2 33 0 32 32, [some 1], ?_⟩
    conv => whnf
    repeat' (first | (refine And.intro (fun _ => ?_) (fun _ => ?_) <;> conv => whnf) | (refine And.intro ?_ ?_ <;> conv => whnf))
    all_goals try first | exact ⟨rfl⟩ | exact ⟨⟨rfl, rfl⟩⟩ | exact ⟨⟨rfl, rfl, rfl⟩⟩ | exact ⟨by omega⟩ | exact ⟨⟨by omega, by omega⟩⟩ | exact ⟨⟨by omega, by omega, by omega⟩⟩ | exact ⟨trivial⟩
    refine ⟨e.stamp, rfl, ⟨trivial⟩, ?_⟩
    conv => whnf
    repeat' (first | (refine And.intro (fun _ => ?_) (fun _ => ?_) <;> conv => whnf) | (refine And.intro ?_ ?_ <;> conv => whnf))
    all_goals try first | exact ⟨rfl⟩ | exact ⟨⟨rfl, rfl⟩⟩ | exact ⟨⟨rfl, rfl, rfl⟩⟩ | exact ⟨by omega⟩ | exact ⟨⟨by omega, by omega⟩⟩ | exact ⟨⟨by omega, by omega, by omega⟩⟩ | exact ⟨trivial⟩
    refine ⟨3, rfl, ⟨trivial⟩, ?_⟩
    conv => whnf
    repeat' (first | (refine And.intro (fun _ => ?_) (fun _ => ?_) <;> conv => whnf) | (refine And.intro ?_ ?_ <;> conv => whnf))
    all_goals try first | exact ⟨rfl⟩ | exact ⟨⟨rfl, rfl⟩⟩ | exact ⟨⟨rfl, rfl, rfl⟩⟩ | exact ⟨by omega⟩ | exact ⟨⟨by omega, by omega⟩⟩ | exact ⟨⟨by omega, by omega, by omega⟩⟩ | exact ⟨trivial⟩
    refine ⟨e.kind, rfl, ⟨trivial⟩, ?_⟩
    conv => whnf
    repeat' (first | (refine And.intro (fun _ => ?_) (fun _ => ?_) <;> conv => whnf) | (refine And.intro ?_ ?_ <;> conv => whnf))
    all_goals try first | exact ⟨rfl⟩ | exact ⟨⟨rfl, rfl⟩⟩ | exact ⟨⟨rfl, rfl, rfl⟩⟩ | exact ⟨by omega⟩ | exact ⟨⟨by omega, by omega⟩⟩ | exact ⟨⟨by omega, by omega, by omega⟩⟩ | exact ⟨trivial⟩
    refine ⟨e.key, rfl, ⟨by omega, by omega⟩, ?_⟩
    conv => whnf
    repeat' (first | (refine And.intro (fun _ => ?_) (fun _ => ?_) <;> conv => whnf) | (refine And.intro ?_ ?_ <;> conv => whnf))
    all_goals try first | exact ⟨rfl⟩ | exact ⟨⟨rfl, rfl⟩⟩ | exact ⟨⟨rfl, rfl, rfl⟩⟩ | exact ⟨by omega⟩ | exact ⟨⟨by omega, by omega⟩⟩ | exact ⟨⟨by omega, by omega, by omega⟩⟩ | exact ⟨trivial⟩
    refine ⟨.imm false e.val.length (bf e.val), [], ?_⟩
    conv => whnf
    repeat' (first | (refine And.intro (fun _ => ?_) (fun _ => ?_) <;> conv => whnf) | (refine And.intro ?_ ?_ <;> conv => whnf))
    all_goals try first | exact ⟨rfl⟩ | exact ⟨⟨rfl, rfl⟩⟩ | exact ⟨⟨rfl, rfl, rfl⟩⟩ | exact ⟨by omega⟩ | exact ⟨⟨by omega, by omega⟩⟩ | exact ⟨⟨by omega, by omega, by omega⟩⟩ | exact ⟨fun _ _ => rfl⟩ | exact ⟨trivial⟩
    refine ⟨.fld 5 69 0 64 64, [some 1], ?_⟩
    conv => whnf
    repeat' (first | (refine And.intro (fun _ => ?_) (fun _ => ?_) <;> conv => whnf) | (refine And.intro ?_ ?_ <;> conv => whnf))
    all_goals try first | exact ⟨rfl⟩ | exact ⟨⟨rfl, rfl⟩⟩ | exact ⟨⟨rfl, rfl, rfl⟩⟩ | exact ⟨by omega⟩ | exact ⟨⟨by omega, by omega⟩⟩ | exact ⟨⟨by omega, by omega, by omega⟩⟩ | exact ⟨trivial⟩
    all_goals try (rename_i hx; exact absurd hx (by decide))
    refine Or.inl ?_
    conv => whnf
    repeat' (first | (refine And.intro (fun _ => ?_) (fun _ => ?_) <;> conv => whnf) | (refine And.intro ?_ ?_ <;> conv => whnf))
    all_goals try first | exact ⟨rfl⟩ | exact ⟨⟨rfl, rfl⟩⟩ | exact ⟨⟨rfl, rfl, rfl⟩⟩ | exact ⟨by omega⟩ | exact ⟨⟨by omega, by omega⟩⟩ | exact ⟨⟨by omega, by omega, by omega⟩⟩ | exact ⟨⟨by decide, by decide⟩⟩
    · refine ⟨?_⟩
      refine (lt_step ?_ (lt_step ?_ (lt_step ?_ (lt_step ?_ (lt_step ?_ (lt_step ?_ (lt_step ?_ (lt_step ?_ (lt_step ?_ (lt_step ?_ (lt_step ?_ lt_zero)))))))))))
      all_goals (conv => whnf)
      all_goals (repeat' (refine And.intro ?_ ?_ <;> conv => whnf))
      all_goals first
        | trivial
        | exact ⟨⟨rfl, by decide⟩⟩
        | exact ⟨fun _ _ => trivial⟩
    refine ⟨⟨_, entToks e⟩, rfl, ⟨?_, ?_⟩, ?_⟩
    · show ∀ k, k < 11 → isTok _ _
      refine (lt_step ?_ (lt_step ?_ (lt_step ?_ (lt_step ?_ (lt_step ?_ (lt_step ?_ (lt_step ?_ (lt_step ?_ (lt_step ?_ (lt_step ?_ (lt_step ?_ lt_zero)))))))))))
      · exact .inl (Eq.trans rfl (tok_arr w3))
      · exact .inl rfl
      · exact .inl rfl
      · exact .inr ⟨rfl, rfl⟩
      · exact .inr ⟨rfl, rfl⟩
      · exact .inr ⟨rfl, rfl⟩
      · exact .inl (Eq.trans rfl (tok_arr w2))
      · exact .inr ⟨rfl, rfl⟩
      · exact .inl (Eq.trans rfl (tok_arr w1))
      · exact .inr ⟨rfl, rfl⟩
      · exact .inr ⟨rfl, rfl⟩
    · show ∀ k, k < 11 → tokOk (entTok e 7 k)
      refine (lt_step ?_ (lt_step ?_ (lt_step ?_ (lt_step ?_ (lt_step ?_ (lt_step ?_ (lt_step ?_ (lt_step ?_ (lt_step ?_ (lt_step ?_ (lt_step ?_ lt_zero)))))))))))
      all_goals (refine ⟨by simp only [entTok]; decide, ?_, ?_⟩)
      all_goals (simp only [entTok, List.length_nil, w1, w2, w3])
      all_goals omega
    · rw [e1]
      conv => whnf
      repeat' (first | (refine And.intro (fun _ => ?_) (fun _ => ?_) <;> conv => whnf) | (refine And.intro ?_ ?_ <;> conv => whnf))
      · exact ⟨fun _ _ => own_bf _ _⟩
      · exact Ld.of rfl
end Go.Proofs.YtaihjcpfjgpmoaaGreatDoor

/- Entries' ids. -/
namespace Go.Proofs.YtaihjcpfjgpmoaaGreatDoor
set_option linter.unusedVariables false
set_option linter.unusedSimpArgs false
set_option maxRecDepth 100000
open Go Go.DD
def preE (e : Ent) : Prop := wfE e ∧ e.stamp ≤ 9223372036854775807
def F70 : FSpec := mkF (fun (e : Ent) => [entV e]) preE (fun e => encR (encE e))
theorem f70_ok : FOk Tryz.prog G 105 F70 := mkF_ok fun e he Φ h => by
  have hΓ := ctxG_ok Tryz.f105.ntmps [(129, F103)] [] [] (.cons (f103_ok) .nil) .nil
  refine CP_of_OK hΓ Tryz.func105 (c := bodyOf Tryz.f105) rfl (by decide) rfl rfl (by simp) (vc_ok hΓ mixed 1000 _ [] _ (by kernel_rfl) rfl ?_)
  conv => whnf
  repeat' (first | (refine And.intro (fun _ => ?_) (fun _ => ?_) <;> conv => whnf) | (refine And.intro ?_ ?_ <;> conv => whnf))
  all_goals try first | exact ⟨rfl⟩ | exact ⟨⟨rfl, rfl⟩⟩ | exact ⟨⟨rfl, rfl, rfl⟩⟩ | exact ⟨fun _ _ => rfl⟩ | exact ⟨fun _ _ => trivial⟩ | exact ⟨fun k _ => isU8_bf _ k⟩ | exact ⟨by omega⟩ | exact ⟨⟨by omega, by omega⟩⟩ | exact ⟨⟨by omega, by omega, by omega⟩⟩
  refine ⟨e, rfl, ⟨he⟩, ?_⟩
  conv => whnf
  repeat' (first | (refine And.intro (fun _ => ?_) (fun _ => ?_) <;> conv => whnf) | (refine And.intro ?_ ?_ <;> conv => whnf))
  all_goals try first | exact ⟨rfl⟩ | exact ⟨⟨rfl, rfl⟩⟩ | exact ⟨⟨rfl, rfl, rfl⟩⟩ | exact ⟨fun _ _ => rfl⟩ | exact ⟨fun _ _ => trivial⟩ | exact ⟨fun k _ => isU8_bf _ k⟩ | exact ⟨by omega⟩ | exact ⟨⟨by omega, by omega⟩⟩ | exact ⟨⟨by omega, by omega, by omega⟩⟩
  · exact h
def z32 : List UInt8 := List.replicate 32 0
theorem bf_rep (n k : Nat) : bf (List.replicate n 0) k = .int .u8 0 := by
  simp [bf, List.getD_eq_getElem?_getD]
  by_cases h : k < n <;> simp [h]
theorem enc_len (a : Toks) : (enc a).1.length ≤ 32768 := by
  unfold enc
  split
  · simp
  · split
    · simp
    · rename_i h; simp only [not_or, Nat.not_lt] at h; exact h.2.2
theorem encE_len (e : Ent) : (encE e).1.length ≤ 32768 := by
  unfold encE
  split
  · exact enc_len _
  · simp
def idE (e : Ent) : List UInt8 × Int := if (encE e).2 = 0 then (sha (encE e).1, 0) else (z32, (encE e).2)
def F89 : FSpec := mkF (fun (e : Ent) => [entV e]) preE (fun e => .tup (.cons (arrV 32 (idE e).1) (.cons (.int .i64 (idE e).2) .nil)))
theorem f89_ok : FOk Tryz.prog G 81 F89 := mkF_ld fun e he => by
  have hl := encE_len e
  have hΓ := ctxG_ok Tryz.f81.ntmps [(105, F70), (100, F21)] [] [] (.cons (f70_ok) (.cons (f21_ok.g) .nil)) .nil
  refine CP_of_OK hΓ Tryz.func81 (c := bodyOf Tryz.f81) rfl (by decide) rfl rfl (by simp) (vc_ok hΓ mixed 1000 _ [] _ (by kernel_rfl) rfl ?_)
  conv => whnf
  repeat' (first | (refine And.intro (fun _ => ?_) (fun _ => ?_) <;> conv => whnf) | (refine And.intro ?_ ?_ <;> conv => whnf))
  all_goals try first | exact ⟨rfl⟩ | exact ⟨⟨rfl, rfl⟩⟩ | exact ⟨⟨rfl, rfl, rfl⟩⟩ | exact ⟨fun _ _ => rfl⟩ | exact ⟨fun _ _ => trivial⟩ | exact ⟨fun k _ => isU8_bf _ k⟩ | exact ⟨by omega⟩ | exact ⟨⟨by omega, by omega⟩⟩ | exact ⟨⟨by omega, by omega, by omega⟩⟩
  refine ⟨e, rfl, ⟨he⟩, ?_⟩
  conv => whnf
  repeat' (first | (refine And.intro (fun _ => ?_) (fun _ => ?_) <;> conv => whnf) | (refine And.intro ?_ ?_ <;> conv => whnf))
  · exact ⟨fun _ _ => trivial⟩
  · rename_i h1
    have e1 : idE e = (z32, (encE e).2) := if_neg (by simpa using h1)
    rw [e1]
    exact Ld.two (Ld.row fun k hk => (bf_rep 32 k).symm) (by simp) rfl (by simp [arrV]) rfl
  · rename_i h1
    have e1 : idE e = (sha (encE e).1, 0) := if_pos (by simpa using h1)
    rw [e1]
    refine ⟨.of _ _, rfl, ⟨trivial, by show (encE e).1.length ≤ 1000000; omega⟩, ?_⟩
    conv => whnf
    repeat' (first | (refine And.intro (fun _ => ?_) (fun _ => ?_) <;> conv => whnf) | (refine And.intro ?_ ?_ <;> conv => whnf))
    all_goals try first | exact ⟨rfl⟩ | exact ⟨⟨rfl, rfl⟩⟩ | exact ⟨⟨rfl, rfl, rfl⟩⟩ | exact ⟨fun _ _ => rfl⟩ | exact ⟨fun _ _ => trivial⟩ | exact ⟨fun k _ => isU8_bf _ k⟩ | exact ⟨by omega⟩ | exact ⟨⟨by omega, by omega⟩⟩ | exact ⟨⟨by omega, by omega, by omega⟩⟩
    exact Ld.of rfl
end Go.Proofs.YtaihjcpfjgpmoaaGreatDoor

/- Proofs; empty entries. -/
namespace Go.Proofs.YtaihjcpfjgpmoaaGreatDoor
set_option linter.unusedVariables false
set_option linter.unusedSimpArgs false
set_option maxRecDepth 100000
open Go Go.DD
theorem f120_ok : FOk Tryz.prog [] 127 F120 := compare_ok (fn := Tryz.f127) rfl rfl (by decide) (by kernel_rfl) (by kernel_rfl)
theorem f117_ok : FOk Tryz.prog [] 124 F117 := compareS_ok (fn := Tryz.f124) rfl rfl (by decide) (by kernel_rfl) (by kernel_rfl)
theorem f95_ok : FOk Tryz.prog [] 87 F120 := mkF_ok fun a ⟨ha, hb⟩ Φ h => by
  refine CP.by1 ha (CP.by2 hb ?_)
  have hΓ := ctxOk Tryz.f87.ntmps [(127, F120)] [] (FL.all (.cons f120_ok .nil)) (HL.all .nil)
  refine CP_of_OK hΓ Tryz.func87 (c := bodyOf Tryz.f87) rfl (by decide) rfl rfl (by simp) (vc_ok hΓ mixed 1000 _ [] _ (by kernel_rfl) rfl ?_)
  conv => whnf
  repeat' (first | (refine And.intro (fun _ => ?_) (fun _ => ?_) <;> conv => whnf) | (refine And.intro ?_ ?_ <;> conv => whnf))
  refine ⟨(.of _ _, .of _ _), rfl, ⟨trivial, trivial⟩, ?_⟩
  conv => whnf
  repeat' (first | (refine And.intro (fun _ => ?_) (fun _ => ?_) <;> conv => whnf) | (refine And.intro ?_ ?_ <;> conv => whnf))
  exact h
theorem rowEq_bf {n : Nat} {l m : List UInt8} (hl : l.length = n) (hm : m.length = n) : rowEq n (bf l) (bf m) = decide (l = m) := by
  rw [Bool.eq_iff_iff]
  simp only [rowEq, List.all_eq_true, List.mem_range, beq_iff_eq, decide_eq_true_eq, bf, intOfV]
  constructor
  · intro h
    apply List.ext_getElem (by omega)
    intro k h1 h2
    have := h k (by omega)
    simp [List.getD_eq_getElem?_getD, h1, h2] at this
    exact UInt8.toNat_inj.1 (by omega)
  · rintro rfl k hk
    rfl
theorem rowEq_zero {n : Nat} {l : List UInt8} (hl : l.length = n) : rowEq n (bf l) (bf []) = decide (l = List.replicate n 0) := by
  rw [← rowEq_bf hl (by simp)]
  simp only [rowEq]
  congr 1
  funext k
  rw [bf_rep]
  rfl
theorem rowEq_zero' {n : Nat} {l : List UInt8} (hl : l.length = n) : rowEq n (bf l) (fun _ => .int .u8 0) = decide (l = List.replicate n 0) := rowEq_zero hl
def ordP (a b : Ent) : Int := if (encE a).2 ≠ 0 ∨ (encE b).2 ≠ 0 ∨ a.author ≠ b.author ∨ a.seq ≠ b.seq then 0 else cmpB (encE a).1 (encE b).1
def F126 : FSpec := mkF (fun (p : Pf) => [entV p.a, entV p.b]) (fun p => preE p.a ∧ preE p.b) (fun p => .int .i64 (ordP p.a p.b))
theorem f126_ok : FOk Tryz.prog G 128 F126 := mkF_ok fun ⟨a, b⟩ ⟨ha, hb⟩ Φ h => by
  replace h : Φ (.int .i64 (ordP a b)) := h
  have hla := encE_len a
  have hlb := encE_len b
  have hΓ := ctxG_ok Tryz.f128.ntmps [(105, F70), (87, F120)] [] [] (.cons (f70_ok) (.cons (f95_ok.g) .nil)) .nil
  refine CP_of_OK hΓ Tryz.func128 (c := bodyOf Tryz.f128) rfl (by decide) rfl rfl (by simp) (vc_ok hΓ mixed 1000 _ [] _ (by kernel_rfl) rfl ?_)
  conv => whnf
  repeat' (first | (refine And.intro (fun _ => ?_) (fun _ => ?_) <;> conv => whnf) | (refine And.intro ?_ ?_ <;> conv => whnf))
  all_goals try first | exact ⟨rfl⟩ | exact ⟨⟨rfl, rfl⟩⟩ | exact ⟨⟨rfl, rfl, rfl⟩⟩ | exact ⟨fun _ _ => rfl⟩ | exact ⟨fun _ _ => trivial⟩ | exact ⟨fun k _ => isU8_bf _ k⟩ | exact ⟨by omega⟩ | exact ⟨⟨by omega, by omega⟩⟩ | exact ⟨⟨by omega, by omega, by omega⟩⟩
  refine ⟨a, rfl, ⟨ha⟩, ?_⟩
  conv => whnf
  repeat' (first | (refine And.intro (fun _ => ?_) (fun _ => ?_) <;> conv => whnf) | (refine And.intro ?_ ?_ <;> conv => whnf))
  all_goals try first | exact ⟨rfl⟩ | exact ⟨⟨rfl, rfl⟩⟩ | exact ⟨⟨rfl, rfl, rfl⟩⟩ | exact ⟨fun _ _ => rfl⟩ | exact ⟨fun _ _ => trivial⟩ | exact ⟨fun k _ => isU8_bf _ k⟩ | exact ⟨by omega⟩ | exact ⟨⟨by omega, by omega⟩⟩ | exact ⟨⟨by omega, by omega, by omega⟩⟩
  refine ⟨b, rfl, ⟨hb⟩, ?_⟩
  conv => whnf
  repeat' (first | (refine And.intro (fun _ => ?_) (fun _ => ?_) <;> conv => whnf) | (refine And.intro ?_ ?_ <;> conv => whnf))
  · (refine cast (congrArg Φ (congrArg (V.int .i64) ?_)) h; simp_all [ordP, rowEq_bf ha.1.1 hb.1.1, By.l])
  · (refine cast (congrArg Φ (congrArg (V.int .i64) ?_)) h; simp_all [ordP, rowEq_bf ha.1.1 hb.1.1, By.l])
  · exact ⟨fun _ _ => rfl⟩
  · exact ⟨fun _ _ => rfl⟩
  · (refine cast (congrArg Φ (congrArg (V.int .i64) ?_)) h; simp_all [ordP, rowEq_bf ha.1.1 hb.1.1, By.l])
  · (refine cast (congrArg Φ (congrArg (V.int .i64) ?_)) h; simp_all [ordP, rowEq_bf ha.1.1 hb.1.1, By.l])
  · refine ⟨(.of _ _, .of _ _), rfl, ⟨trivial, trivial⟩, ?_⟩
    conv => whnf
    repeat' (first | (refine And.intro (fun _ => ?_) (fun _ => ?_) <;> conv => whnf) | (refine And.intro ?_ ?_ <;> conv => whnf))
    (refine cast (congrArg Φ (congrArg (V.int .i64) ?_)) h; simp_all [ordP, rowEq_bf ha.1.1 hb.1.1, By.l])
def F101 : FSpec := mkF (fun (p : Pf) => [pfV p]) (fun p => preE p.a ∧ preE p.b) (fun p => .int .i64 (if ordP p.a p.b < 0 then 0 else 1))
theorem f101_ok : FOk Tryz.prog G 88 F101 := mkF_ok fun p hp Φ h => by
  have hΓ := ctxG_ok Tryz.f88.ntmps [(128, F126)] [] [] (.cons (f126_ok) .nil) .nil
  refine CP_of_OK hΓ Tryz.func88 (c := bodyOf Tryz.f88) rfl (by decide) rfl rfl (by simp) (vc_ok hΓ mixed 1000 _ [] _ (by kernel_rfl) rfl ?_)
  conv => whnf
  repeat' (first | (refine And.intro (fun _ => ?_) (fun _ => ?_) <;> conv => whnf) | (refine And.intro ?_ ?_ <;> conv => whnf))
  all_goals try first | exact ⟨rfl⟩ | exact ⟨⟨rfl, rfl⟩⟩ | exact ⟨⟨rfl, rfl, rfl⟩⟩ | exact ⟨fun _ _ => rfl⟩ | exact ⟨fun _ _ => trivial⟩ | exact ⟨fun k _ => isU8_bf _ k⟩ | exact ⟨by omega⟩ | exact ⟨⟨by omega, by omega⟩⟩ | exact ⟨⟨by omega, by omega, by omega⟩⟩
  refine ⟨p, rfl, ⟨hp⟩, ?_⟩
  conv => whnf
  repeat' (first | (refine And.intro (fun _ => ?_) (fun _ => ?_) <;> conv => whnf) | (refine And.intro ?_ ?_ <;> conv => whnf))
  all_goals (refine cast (congrArg Φ (congrArg (V.int .i64) ?_)) h; simp_all)
def noneE (e : Ent) : Bool := decide (e.author = z32) && decide (e.seq = 0) && decide (e.prev = z32) && decide (e.stamp = 0) && decide (e.sig = List.replicate 64 0) && decide (e.kind = 0) && decide (e.key = []) && decide (e.val.length = 0)
def F102 : FSpec := mkF (fun (e : Ent) => [entV e]) wfE (fun e => .bool (noneE e))
theorem f102_ok : FOk Tryz.prog [] 149 F102 := mkF_ok fun e ⟨w1, w2, w3⟩ Φ h => by
  have hΓ := ctxOk Tryz.f149.ntmps [] [] (FL.all .nil) (HL.all .nil)
  refine CP_of_OK hΓ Tryz.func149 (c := bodyOf Tryz.f149) rfl (by decide) rfl rfl (by simp) (vc_ok hΓ mixed 1000 _ [] _ (by kernel_rfl) rfl ?_)
  conv => whnf
  repeat' (first | (refine And.intro (fun _ => ?_) (fun _ => ?_) <;> conv => whnf) | (refine And.intro ?_ ?_ <;> conv => whnf))
  all_goals try first | exact ⟨rfl⟩ | exact ⟨⟨rfl, rfl⟩⟩ | exact ⟨⟨rfl, rfl, rfl⟩⟩ | exact ⟨fun _ _ => rfl⟩ | exact ⟨fun _ _ => trivial⟩ | exact ⟨fun k _ => isU8_bf _ k⟩ | exact ⟨by omega⟩ | exact ⟨⟨by omega, by omega⟩⟩ | exact ⟨⟨by omega, by omega, by omega⟩⟩ | exact ⟨fun _ _ => rfl⟩
  all_goals
    refine cast (congrArg Φ (congrArg V.bool ?_)) h
    simp_all [noneE, mapEv2, partAtK, rowEq_zero' w1, rowEq_zero' w2, rowEq_zero' w3, z32]
  all_goals (rw [Bool.eq_iff_iff]; simp)
end Go.Proofs.YtaihjcpfjgpmoaaGreatDoor

/- Feeds: whether entries follow. -/
namespace Go.Proofs.YtaihjcpfjgpmoaaGreatDoor
set_option linter.unusedVariables false
set_option linter.unusedSimpArgs false
set_option maxRecDepth 100000
open Go Go.DD
/-- The last id, whether they follow, behind the first entries. -/
def folF (author : List UInt8) (es : Nat → Ent) : Nat → List UInt8 × Bool
  | 0 => (z32, true)
  | i + 1 =>
    if (folF author es i).2 = false then folF author es i
    else if (idE (es i)).2 ≠ 0 ∨ (es i).author ≠ author ∨ (es i).seq ≠ (i : Nat) + 1 ∨ (es i).prev ≠ (folF author es i).1 then ((folF author es i).1, false)
    else ((idE (es i)).1, true)
def folR (author : List UInt8) (es : Nat → Ent) (n : Nat) : List UInt8 × Bool := if 200 < n then (z32, false) else folF author es n
theorem sha_length (l : List UInt8) : (sha l).length = 32 := by simp [sha, finW, outLs]
theorem idE_length (e : Ent) : (idE e).1.length = 32 := by
  unfold idE
  split
  · exact sha_length _
  · simp [z32]
theorem folF_length (author : List UInt8) (es : Nat → Ent) : ∀ i, (folF author es i).1.length = 32
  | 0 => by simp [folF, z32]
  | i + 1 => by
    simp only [folF]
    split
    · exact folF_length author es i
    · split
      · exact folF_length author es i
      · exact idE_length _
theorem folF_stop {author : List UInt8} {es : Nat → Ent} {i : Nat} (h : (folF author es i).2 = false) : ∀ j, i ≤ j → folF author es j = folF author es i
  | 0, hj => by obtain rfl : i = 0 := by omega
                rfl
  | j + 1, hj => by
    rcases Nat.lt_or_ge i (j + 1) with h1 | h1
    · have h2 := folF_stop h j (by omega)
      simp only [folF]
      rw [if_pos (by rw [h2]; exact h), h2]
    · obtain rfl : i = j + 1 := by omega
      rfl
structure FolA where
  author : List UInt8
  a : Ents
def F100 : FSpec := mkF (fun (x : FolA) => [arrV 32 x.author, entsV x.a.b x.a.n x.a.es]) (fun x => x.author.length = 32 ∧ ∀ k, k < x.a.n → preE (x.a.es k)) (fun x => .tup (.cons (arrV 32 (folR x.author x.a.es x.a.n).1) (.cons (.bool (folR x.author x.a.es x.a.n).2) .nil)))
theorem f100_ok : FOk Tryz.prog G 148 F100 := mkF_ld fun ⟨author, ⟨b, n, es⟩⟩ ⟨ha, he⟩ => by
  replace ha : author.length = 32 := ha
  replace he : ∀ k, k < n → preE (es k) := he
  show CP _ _ _ [arrV 32 author, entsV b n es] fun v => Ld v (.tup (.cons (arrV 32 (folR author es n).1) (.cons (.bool (folR author es n).2) .nil)))
  have hΓ := ctxG_ok Tryz.f148.ntmps [(81, F89)] [] [] (.cons (f89_ok) .nil) .nil
  refine CP_of_OK hΓ Tryz.func148 (c := bodyOf Tryz.f148) rfl (by decide) rfl rfl (by simp) (vc_ok hΓ mixed 1000 _ [] _ (by kernel_rfl) rfl ?_)
  conv => whnf
  repeat' (first | (refine And.intro (fun _ => ?_) (fun _ => ?_) <;> conv => whnf) | (refine And.intro ?_ ?_ <;> conv => whnf))
  · exact ⟨fun _ _ => trivial⟩
  · rename_i h1
    have h2 : 200 < n := by
      have : (200 : Int) < (n : Nat) := by simpa using h1
      omega
    have e1 : folR author es n = (z32, false) := if_pos h2
    rw [e1]
    exact Ld.two (Ld.row fun k hk => (bf_rep 32 k).symm) (by simp) rfl (by simp [arrV]) rfl
  rename_i h1
  have h2 : ¬ 200 < n := by
    have : ¬ (200 : Int) < (n : Nat) := by simpa using h1
    omega
  have e1 : folR author es n = folF author es n := if_neg h2
  rw [e1]
  refine OK_loopC (ι := Nat) (fun i => [(2, .ref 0 []), (4, .ref 1 []), (6, .ref 2 []), (15, entsV b n es), (16, .int .i64 (n : Nat)), (17, .int .i64 (i : Nat))]) (fun i => [some (arrV 32 author), some (arrV 32 []), some (arrV 32 (folF author es i).1)]) (fun i => i ≤ n ∧ (folF author es i).2 = true) (fun i => n - i) 0 [some 0, some 1, some 2] ?_ (fun i hi => vc_ok hΓ mixed 1000 _ [] _ (by kernel_rfl) rfl ?_)
  · conv => whnf
    repeat' (first | (refine And.intro (fun _ => ?_) (fun _ => ?_) <;> conv => whnf) | (refine And.intro ?_ ?_ <;> conv => whnf))
    all_goals try first | exact ⟨rfl⟩ | exact ⟨⟨rfl, rfl⟩⟩ | exact ⟨⟨rfl, rfl, rfl⟩⟩ | exact ⟨by omega⟩ | exact ⟨⟨by omega, by omega⟩⟩ | exact ⟨⟨by omega, by omega, by omega⟩⟩ | exact ⟨fun k _ => leV_refl _ trivial⟩ | exact ⟨fun _ _ => rfl⟩ | exact ⟨⟨Nat.zero_le _, rfl⟩⟩
    exact ⟨fun k _ => leV_eq (bf_rep 32 k).symm trivial⟩
  · conv => whnf
    repeat' (first | (refine And.intro (fun _ => ?_) (fun _ => ?_) <;> conv => whnf) | (refine And.intro ?_ ?_ <;> conv => whnf))
    all_goals (try simp only [decide_eq_true_eq, decide_eq_false_iff_not, Int.toNat_natCast, Bool.not_eq_true, Bool.not_eq_false] at *)
    all_goals try first | exact ⟨rfl⟩ | exact ⟨⟨rfl, rfl⟩⟩ | exact ⟨⟨rfl, rfl, rfl⟩⟩ | exact ⟨by omega⟩ | exact ⟨⟨by omega, by omega⟩⟩ | exact ⟨⟨by omega, by omega, by omega⟩⟩ | exact ⟨fun k _ => leV_refl _ trivial⟩ | exact ⟨fun _ _ => rfl⟩ | exact ⟨fun _ _ => trivial⟩
    · have hin : i < n := by omega
      have w0 := he i hin
      have wl := folF_length author es i
      refine ⟨es i, rfl, ⟨w0⟩, ?_⟩
      conv => whnf
      repeat' (first | (refine And.intro (fun _ => ?_) (fun _ => ?_) <;> conv => whnf) | (refine And.intro ?_ ?_ <;> conv => whnf))
      all_goals (try simp only [rowEq_bf w0.1.1 ha, rowEq_bf w0.1.2.1 wl] at *)
      have hw : IntKind.i64.wrap ((i : Int) + 1) = (i : Int) + 1 := wrap_id (by omega) (by omega)
      all_goals (try rw [wrap_id (by omega) (by omega)] at *)
      all_goals first
        | exact ⟨fun _ _ => trivial⟩
        | exact ⟨fun _ _ => rfl⟩
        | (have hs : folF author es (i + 1) = ((folF author es i).1, false) := by
             simp only [folF]
             rw [if_neg (by simp [hi.2]), if_pos (by simp_all)]
           rw [folF_stop (i := i + 1) (by rw [hs]) n (by omega), hs]
           exact Ld.refl _)
        | skip
      have hs : folF author es (i + 1) = ((idE (es i)).1, true) := by
        simp only [folF]
        rw [if_neg (by simp [hi.2]), if_neg (by simp_all)]
      refine ⟨i + 1, [some 0, some 1, some 2], ?_⟩
      conv => whnf
      repeat' (refine And.intro ?_ ?_ <;> conv => whnf)
      all_goals try first | exact ⟨rfl⟩ | exact ⟨⟨rfl, rfl⟩⟩ | exact ⟨⟨rfl, rfl, rfl⟩⟩ | exact ⟨by omega⟩ | exact ⟨⟨by omega, by omega⟩⟩ | exact ⟨⟨by omega, by omega, by omega⟩⟩ | exact ⟨fun k _ => leV_refl _ trivial⟩ | exact ⟨fun _ _ => rfl⟩
      · exact ⟨fun k _ => leV_eq (by rw [hs]) trivial⟩
      · exact ⟨⟨⟨hin, by rw [hs]⟩, by omega⟩⟩
    refine vc_ok hΓ mixed 1000 _ [] _ (by kernel_rfl) rfl ?_
    conv => whnf
    conv => whnf
    repeat' (refine And.intro ?_ ?_ <;> conv => whnf)
    · exact ⟨fun _ _ => trivial⟩
    obtain rfl : i = n := by omega
    rw [hi.2]
    exact Ld.refl _
/-- A feed, looked at: its last id, whether it is right. -/
def lookF (f : Fd) : List UInt8 × Bool :=
  ((folR f.author f.es f.n).1, (folR f.author f.es f.n).2 && (if f.shut then decide (ordP f.pf.a f.pf.b < 0) && decide (f.pf.a.author = f.author) else noneE f.pf.a && noneE f.pf.b))
def preF (f : Fd) : Prop := f.author.length = 32 ∧ (∀ k, k < f.n → preE (f.es k)) ∧ preE f.pf.a ∧ preE f.pf.b
def F69 : FSpec := mkF (fun (f : Fd) => [fdV f]) preF (fun f => .tup (.cons (arrV 32 (lookF f).1) (.cons (.bool (lookF f).2) .nil)))
theorem f69_ok : FOk Tryz.prog G 102 F69 := mkF_ok fun f ⟨hf1, hf2, hf3, hf4⟩ Φ h => by
  have hΓ := ctxG_ok Tryz.f102.ntmps [(148, F100), (88, F101), (149, F102)] [] [] (.cons (f100_ok) (.cons (f101_ok) (.cons (f102_ok.g) .nil))) .nil
  refine CP_of_OK hΓ Tryz.func102 (c := bodyOf Tryz.f102) rfl (by decide) rfl rfl (by simp) (vc_ok hΓ mixed 1000 _ [] _ (by kernel_rfl) rfl ?_)
  conv => whnf
  repeat' (first | (refine And.intro (fun _ => ?_) (fun _ => ?_) <;> conv => whnf) | (refine And.intro ?_ ?_ <;> conv => whnf))
  all_goals try first | exact ⟨rfl⟩ | exact ⟨⟨rfl, rfl⟩⟩ | exact ⟨⟨rfl, rfl, rfl⟩⟩ | exact ⟨fun _ _ => rfl⟩ | exact ⟨fun _ _ => trivial⟩ | exact ⟨fun k _ => isU8_bf _ k⟩ | exact ⟨by omega⟩ | exact ⟨⟨by omega, by omega⟩⟩ | exact ⟨⟨by omega, by omega, by omega⟩⟩
  refine ⟨⟨f.author, ⟨false, f.n, f.es⟩⟩, rfl, ⟨hf1, hf2⟩, ?_⟩
  conv => whnf
  repeat' (first | (refine And.intro (fun _ => ?_) (fun _ => ?_) <;> conv => whnf) | (refine And.intro ?_ ?_ <;> conv => whnf))
  all_goals try first | exact ⟨rfl⟩ | exact ⟨⟨rfl, rfl⟩⟩ | exact ⟨⟨rfl, rfl, rfl⟩⟩ | exact ⟨fun _ _ => rfl⟩ | exact ⟨fun _ _ => trivial⟩ | exact ⟨fun k _ => isU8_bf _ k⟩ | exact ⟨by omega⟩ | exact ⟨⟨by omega, by omega⟩⟩ | exact ⟨⟨by omega, by omega, by omega⟩⟩
  · refine ⟨f.pf, rfl, ⟨⟨hf3, hf4⟩⟩, ?_⟩
    conv => whnf
    repeat' (first | (refine And.intro (fun _ => ?_) (fun _ => ?_) <;> conv => whnf) | (refine And.intro ?_ ?_ <;> conv => whnf))
    all_goals try first | exact ⟨rfl⟩ | exact ⟨⟨rfl, rfl⟩⟩ | exact ⟨⟨rfl, rfl, rfl⟩⟩ | exact ⟨fun _ _ => rfl⟩ | exact ⟨fun _ _ => trivial⟩ | exact ⟨fun k _ => isU8_bf _ k⟩ | exact ⟨by omega⟩ | exact ⟨⟨by omega, by omega⟩⟩ | exact ⟨⟨by omega, by omega, by omega⟩⟩ | exact ⟨fun _ _ => rfl⟩
    all_goals (refine cast (congrArg (fun b => Φ (.tup (.cons (arrV 32 (lookF f).1) (.cons (.bool b) .nil)))) ?_) h; simp_all [lookF, rowEq_bf hf3.1.1 hf1] <;> (intros; omega))
  · (refine cast (congrArg (fun b => Φ (.tup (.cons (arrV 32 (lookF f).1) (.cons (.bool b) .nil)))) ?_) h; simp_all [lookF, rowEq_bf hf3.1.1 hf1] <;> (intros; omega))
  · refine ⟨f.pf.a, rfl, ⟨hf3.1⟩, ?_⟩
    conv => whnf
    repeat' (first | (refine And.intro (fun _ => ?_) (fun _ => ?_) <;> conv => whnf) | (refine And.intro ?_ ?_ <;> conv => whnf))
    all_goals try first | exact ⟨rfl⟩ | exact ⟨⟨rfl, rfl⟩⟩ | exact ⟨⟨rfl, rfl, rfl⟩⟩ | exact ⟨fun _ _ => rfl⟩ | exact ⟨fun _ _ => trivial⟩ | exact ⟨fun k _ => isU8_bf _ k⟩ | exact ⟨by omega⟩ | exact ⟨⟨by omega, by omega⟩⟩ | exact ⟨⟨by omega, by omega, by omega⟩⟩
    · refine ⟨f.pf.b, rfl, ⟨hf4.1⟩, ?_⟩
      conv => whnf
      repeat' (first | (refine And.intro (fun _ => ?_) (fun _ => ?_) <;> conv => whnf) | (refine And.intro ?_ ?_ <;> conv => whnf))
      all_goals try first | exact ⟨rfl⟩ | exact ⟨⟨rfl, rfl⟩⟩ | exact ⟨⟨rfl, rfl, rfl⟩⟩ | exact ⟨fun _ _ => rfl⟩ | exact ⟨fun _ _ => trivial⟩ | exact ⟨fun k _ => isU8_bf _ k⟩ | exact ⟨by omega⟩ | exact ⟨⟨by omega, by omega⟩⟩ | exact ⟨⟨by omega, by omega, by omega⟩⟩
      all_goals (refine cast (congrArg (fun b => Φ (.tup (.cons (arrV 32 (lookF f).1) (.cons (.bool b) .nil)))) ?_) h; simp_all [lookF, rowEq_bf hf3.1.1 hf1] <;> (intros; omega))
    · (refine cast (congrArg (fun b => Φ (.tup (.cons (arrV 32 (lookF f).1) (.cons (.bool b) .nil)))) ?_) h; simp_all [lookF, rowEq_bf hf3.1.1 hf1] <;> (intros; omega))
  · (refine cast (congrArg (fun b => Φ (.tup (.cons (arrV 32 (lookF f).1) (.cons (.bool b) .nil)))) ?_) h; simp_all [lookF, rowEq_bf hf3.1.1 hf1] <;> (intros; omega))
def F66 : FSpec := mkF (fun (f : Fd) => [fdV f]) preF (fun f => .int .i64 (if (lookF f).2 then 0 else 1))
theorem f66_ok : FOk Tryz.prog G 60 F66 := mkF_ok fun f hf Φ h => by
  have hΓ := ctxG_ok Tryz.f60.ntmps [(102, F69)] [] [] (.cons (f69_ok) .nil) .nil
  refine CP_of_OK hΓ Tryz.func60 (c := bodyOf Tryz.f60) rfl (by decide) rfl rfl (by simp) (vc_ok hΓ mixed 1000 _ [] _ (by kernel_rfl) rfl ?_)
  conv => whnf
  repeat' (first | (refine And.intro (fun _ => ?_) (fun _ => ?_) <;> conv => whnf) | (refine And.intro ?_ ?_ <;> conv => whnf))
  all_goals try first | exact ⟨rfl⟩ | exact ⟨⟨rfl, rfl⟩⟩ | exact ⟨⟨rfl, rfl, rfl⟩⟩ | exact ⟨fun _ _ => rfl⟩ | exact ⟨fun _ _ => trivial⟩ | exact ⟨fun k _ => isU8_bf _ k⟩ | exact ⟨by omega⟩ | exact ⟨⟨by omega, by omega⟩⟩ | exact ⟨⟨by omega, by omega, by omega⟩⟩
  refine ⟨f, rfl, ⟨hf⟩, ?_⟩
  conv => whnf
  repeat' (first | (refine And.intro (fun _ => ?_) (fun _ => ?_) <;> conv => whnf) | (refine And.intro ?_ ?_ <;> conv => whnf))
  all_goals (refine cast (congrArg Φ (congrArg (V.int .i64) ?_)) h; simp_all)
def lastF (f : Fd) : Int × List UInt8 × Int := if (lookF f).2 then ((f.n : Nat), (lookF f).1, 0) else (0, z32, 1)
def F33 : FSpec := mkF (fun (f : Fd) => [fdV f]) preF (fun f => .tup (.cons (.int .i64 (lastF f).1) (.cons (arrV 32 (lastF f).2.1) (.cons (.int .i64 (lastF f).2.2) .nil))))
theorem f33_ok : FOk Tryz.prog G 64 F33 := mkF_ok fun f hf Φ h => by
  have hΓ := ctxG_ok Tryz.f64.ntmps [(102, F69)] [] [] (.cons (f69_ok) .nil) .nil
  refine CP_of_OK hΓ Tryz.func64 (c := bodyOf Tryz.f64) rfl (by decide) rfl rfl (by simp) (vc_ok hΓ mixed 1000 _ [] _ (by kernel_rfl) rfl ?_)
  conv => whnf
  repeat' (first | (refine And.intro (fun _ => ?_) (fun _ => ?_) <;> conv => whnf) | (refine And.intro ?_ ?_ <;> conv => whnf))
  all_goals try first | exact ⟨rfl⟩ | exact ⟨⟨rfl, rfl⟩⟩ | exact ⟨⟨rfl, rfl, rfl⟩⟩ | exact ⟨fun _ _ => rfl⟩ | exact ⟨fun _ _ => trivial⟩ | exact ⟨fun k _ => isU8_bf _ k⟩ | exact ⟨by omega⟩ | exact ⟨⟨by omega, by omega⟩⟩ | exact ⟨⟨by omega, by omega, by omega⟩⟩
  refine ⟨f, rfl, ⟨hf⟩, ?_⟩
  conv => whnf
  repeat' (first | (refine And.intro (fun _ => ?_) (fun _ => ?_) <;> conv => whnf) | (refine And.intro ?_ ?_ <;> conv => whnf))
  all_goals try first | exact ⟨rfl⟩ | exact ⟨⟨rfl, rfl⟩⟩ | exact ⟨⟨rfl, rfl, rfl⟩⟩ | exact ⟨fun _ _ => rfl⟩ | exact ⟨fun _ _ => trivial⟩ | exact ⟨fun k _ => isU8_bf _ k⟩ | exact ⟨by omega⟩ | exact ⟨⟨by omega, by omega⟩⟩ | exact ⟨⟨by omega, by omega, by omega⟩⟩
  · rename_i h1
    have h2 : (lookF f).2 = false := by simpa using h1
    have e : lastF f = (0, z32, 1) := if_neg (by simp [h2])
    rw [e] at h
    refine cast (congrArg (fun g => Φ (.tup (.cons (.int .i64 0) (.cons (.row 1 32 g) (.cons (.int .i64 1) .nil))))) ?_) h
    exact funext fun k => bf_rep 32 k
  · rename_i h1
    have h2 : (lookF f).2 = true := by simpa using h1
    have e : lastF f = (((f.n : Nat) : Int), (lookF f).1, (0 : Int)) := if_pos h2
    rw [e] at h
    exact h
def F67 : FSpec := mkF (fun (a : List UInt8 × List UInt8) => [arrV 32 a.1, arrV 32 a.2]) (fun a => a.1.length = 32 ∧ a.2.length = 32) (fun a => .int .i64 (cmpB a.1 a.2))
theorem f67_ok : FOk Tryz.prog [] 53 F67 := mkF_ok fun ⟨l, m⟩ ⟨hl, hm⟩ Φ h => by
  replace hl : l.length = 32 := hl
  replace hm : m.length = 32 := hm
  have hΓ := ctxOk Tryz.f53.ntmps [(87, F120)] [] (FL.all (.cons f95_ok .nil)) (HL.all .nil)
  refine CP_of_OK hΓ Tryz.func53 (c := bodyOf Tryz.f53) rfl (by decide) rfl rfl (by simp) (vc_ok hΓ mixed 1000 _ [] _ (by kernel_rfl) rfl ?_)
  conv => whnf
  repeat' (first | (refine And.intro (fun _ => ?_) (fun _ => ?_) <;> conv => whnf) | (refine And.intro ?_ ?_ <;> conv => whnf))
  all_goals try first | exact ⟨rfl⟩ | exact ⟨⟨rfl, rfl⟩⟩ | exact ⟨⟨rfl, rfl, rfl⟩⟩ | exact ⟨fun _ _ => rfl⟩ | exact ⟨fun _ _ => trivial⟩ | exact ⟨fun k _ => isU8_bf _ k⟩ | exact ⟨by omega⟩ | exact ⟨⟨by omega, by omega⟩⟩ | exact ⟨⟨by omega, by omega, by omega⟩⟩
  refine ⟨(.imm _ _ _, .imm _ _ _), rfl, ⟨fun _ _ => isU8_bf _ _, fun _ _ => isU8_bf _ _⟩, ?_⟩
  conv => whnf
  repeat' (first | (refine And.intro (fun _ => ?_) (fun _ => ?_) <;> conv => whnf) | (refine And.intro ?_ ?_ <;> conv => whnf))
  all_goals try first | exact ⟨rfl⟩ | exact ⟨⟨rfl, rfl⟩⟩ | exact ⟨⟨rfl, rfl, rfl⟩⟩ | exact ⟨fun _ _ => rfl⟩ | exact ⟨fun _ _ => trivial⟩ | exact ⟨fun k _ => isU8_bf _ k⟩ | exact ⟨by omega⟩ | exact ⟨⟨by omega, by omega⟩⟩ | exact ⟨⟨by omega, by omega, by omega⟩⟩
  refine cast (congrArg Φ (congrArg (V.int .i64) ?_)) h
  have e1 : bytesOf ((32 : Int).toNat - Int.toNat 0) (fun k => bf l (Int.toNat 0 + k)) = l := by
    have := bytesOf_sub l 0 32 (by omega)
    rw [List.drop_zero, List.take_of_length_le (by omega)] at this
    exact this
  have e2 : bytesOf ((32 : Int).toNat - Int.toNat 0) (fun k => bf m (Int.toNat 0 + k)) = m := by
    have := bytesOf_sub m 0 32 (by omega)
    rw [List.drop_zero, List.take_of_length_le (by omega)] at this
    exact this
  show cmpB l m = cmpB (bytesOf ((32 : Int).toNat - Int.toNat 0) fun k => bf l (Int.toNat 0 + k)) (bytesOf ((32 : Int).toNat - Int.toNat 0) fun k => bf m (Int.toNat 0 + k))
  rw [e1, e2]
end Go.Proofs.YtaihjcpfjgpmoaaGreatDoor

/- Whether sets are right. -/
namespace Go.Proofs.YtaihjcpfjgpmoaaGreatDoor
set_option linter.unusedVariables false
set_option linter.unusedSimpArgs false
set_option maxRecDepth 100000
open Go Go.DD
def oneOk (l : Nat → Fd) (i : Nat) : Bool := (lookF (l i)).2 && (decide (i = 0) || decide (cmpB (l (i - 1)).author (l i).author < 0))
def feedsOk (n : Nat) (l : Nat → Fd) : Bool := decide (1 ≤ n) && decide (n ≤ 8) && (List.range n).all (oneOk l)
def F29 : FSpec := mkF (fun (a : Fds) => [fdsV a.b a.n a.l]) (fun a => ∀ k, k < a.n → preF (a.l k)) (fun a => .int .i64 (if feedsOk a.n a.l then 0 else 1))
theorem all_bad {n i : Nat} {p : Nat → Bool} (hi : i < n) (hp : p i = false) : (List.range n).all p = false := by
  rw [List.all_eq_false]
  exact ⟨i, List.mem_range.2 hi, by simp [hp]⟩
theorem f29_ok : FOk Tryz.prog G 25 F29 := mkF_ok fun ⟨b, n, l⟩ hl Φ h => by
  replace hl : ∀ k, k < n → preF (l k) := hl
  replace h : Φ (.int .i64 (if feedsOk n l then 0 else 1)) := h
  have hΓ := ctxG_ok Tryz.f25.ntmps [(60, F66), (53, F67)] [] [] (.cons (f66_ok) (.cons (f67_ok.g) .nil)) .nil
  refine CP_of_OK hΓ Tryz.func25 (c := bodyOf Tryz.f25) rfl (by decide) rfl rfl (by simp) (vc_ok hΓ mixed 1000 _ [] _ (by kernel_rfl) rfl ?_)
  conv => whnf
  repeat' (first | (refine And.intro (fun _ => ?_) (fun _ => ?_) <;> conv => whnf) | (refine And.intro ?_ ?_ <;> conv => whnf))
  · rename_i h1
    have h2 : (n : Int) < 1 := by simpa using h1
    refine cast (congrArg Φ (congrArg (V.int .i64) ?_)) h
    exact if_neg (by simp [feedsOk]; omega)
  · rename_i h0 h1
    have h2 : (8 : Int) < n := by simpa using h1
    refine cast (congrArg Φ (congrArg (V.int .i64) ?_)) h
    exact if_neg (by simp [feedsOk]; omega)
  rename_i h0 h1
  have h2 : ¬ (n : Int) < 1 := by simpa using h0
  have h3 : ¬ (8 : Int) < n := by simpa using h1
  refine OK_loopC (ι := Nat) (fun i => [(0, fdsV b n l), (13, fdsV b n l), (14, .int .i64 (n : Nat)), (15, .int .i64 (i : Nat))]) (fun i => []) (fun i => i ≤ n ∧ (List.range i).all (oneOk l) = true) (fun i => n - i) 0 [] ?_ (fun i hi => vc_ok hΓ mixed 1000 _ [] _ (by kernel_rfl) rfl ?_)
  · conv => whnf
    repeat' (first | (refine And.intro (fun _ => ?_) (fun _ => ?_) <;> conv => whnf) | (refine And.intro ?_ ?_ <;> conv => whnf))
    all_goals try first | exact ⟨rfl⟩ | exact ⟨⟨rfl, rfl⟩⟩ | exact ⟨⟨rfl, rfl, rfl⟩⟩ | exact ⟨by omega⟩ | exact ⟨⟨by omega, by omega⟩⟩ | exact ⟨⟨by omega, by omega, by omega⟩⟩ | exact ⟨fun _ _ => rfl⟩ | exact ⟨⟨Nat.zero_le _, rfl⟩⟩
  · conv => whnf
    repeat' (first | (refine And.intro (fun _ => ?_) (fun _ => ?_) <;> conv => whnf) | (refine And.intro ?_ ?_ <;> conv => whnf))
    all_goals (try simp only [decide_eq_true_eq, decide_eq_false_iff_not, Int.toNat_natCast, Bool.not_eq_true, Bool.not_eq_false] at *)
    all_goals try first | exact ⟨rfl⟩ | exact ⟨⟨rfl, rfl⟩⟩ | exact ⟨⟨rfl, rfl, rfl⟩⟩ | exact ⟨fun _ _ => rfl⟩ | exact ⟨fun _ _ => trivial⟩ | exact ⟨fun k _ => isU8_bf _ k⟩ | exact ⟨by omega⟩ | exact ⟨⟨by omega, by omega⟩⟩ | exact ⟨⟨by omega, by omega, by omega⟩⟩
    · have hin : i < n := by omega
      refine ⟨l i, rfl, ⟨hl i hin⟩, ?_⟩
      conv => whnf
      repeat' (first | (refine And.intro (fun _ => ?_) (fun _ => ?_) <;> conv => whnf) | (refine And.intro ?_ ?_ <;> conv => whnf))
      · rename_i g
        have g1 : (lookF (l i)).2 = false := by
          cases hq : (lookF (l i)).2
          · rfl
          · simp [hq] at g
        replace g1 : oneOk l i = false := by simp [oneOk, g1]
        refine cast (congrArg Φ (congrArg (V.int .i64) ?_)) h
        refine if_neg ?_
        simp only [feedsOk, all_bad hin g1, Bool.and_false]
        simp
      · exact ⟨⟨by rw [wrap_id (by simp at *; omega) (by omega)]; simp at *; omega, by rw [wrap_id (by simp at *; omega) (by omega)]; omega⟩⟩
      · exact ⟨fun _ _ => trivial⟩
      · exact ⟨fun _ _ => trivial⟩
      · rename_i g gi
        have hi0 : 0 < i := by
          have : (0 : Int) < (i : Nat) := by simpa using gi
          omega
        have e0 : (IntKind.i64.wrap ((i : Int) - 1)).toNat = i - 1 := by rw [wrap_id (by omega) (by omega)]; omega
        refine ⟨((l (IntKind.i64.wrap ((i : Int) - 1)).toNat).author, (l i).author), rfl, ⟨by rw [e0]; exact (hl _ (by omega)).1, (hl i hin).1⟩, ?_⟩
        conv => whnf
        repeat' (first | (refine And.intro (fun _ => ?_) (fun _ => ?_) <;> conv => whnf) | (refine And.intro ?_ ?_ <;> conv => whnf))
        · rename_i g1
          rw [e0] at g1
          have g2 : ¬ cmpB (l (i - 1)).author (l i).author < 0 := by
            have : 0 ≤ cmpB (l (i - 1)).author (l i).author := by simpa using g1
            omega
          have g1 : oneOk l i = false := by simp [oneOk, g2, show ¬ i = 0 by omega]
          refine cast (congrArg Φ (congrArg (V.int .i64) ?_)) h
          refine if_neg ?_
          simp only [feedsOk, all_bad hin g1, Bool.and_false]
          simp
        · rename_i g1
          rw [e0] at g1
          have g2 : cmpB (l (i - 1)).author (l i).author < 0 := by
            have : ¬ 0 ≤ cmpB (l (i - 1)).author (l i).author := by simpa using g1
            omega
          have g1 : oneOk l i = true := by
            have : (lookF (l i)).2 = true := by
              cases hq : (lookF (l i)).2
              · simp [hq] at g
              · rfl
            simp [oneOk, g2, this]
          refine ⟨i + 1, [], ?_⟩
          conv => whnf
          repeat' (refine And.intro ?_ ?_ <;> conv => whnf)
          all_goals try first | exact ⟨rfl⟩ | exact ⟨⟨rfl, rfl⟩⟩ | exact ⟨⟨rfl, rfl, rfl⟩⟩ | exact ⟨by omega⟩ | exact ⟨⟨by omega, by omega⟩⟩ | exact ⟨⟨by omega, by omega, by omega⟩⟩ | exact ⟨fun _ _ => rfl⟩
          · exact ⟨by rw [wrap_id (by omega) (by omega)]; rfl⟩
          · refine ⟨⟨⟨hin, ?_⟩, by omega⟩⟩
            rw [List.range_succ, List.all_append, hi.2]
            simp [g1]
      · rename_i g gi
        have hi0 : i = 0 := by
          have : ¬ (0 : Int) < (i : Nat) := by simpa using gi
          omega
        have g1 : oneOk l i = true := by
          have : (lookF (l i)).2 = true := by
            cases hq : (lookF (l i)).2
            · simp [hq] at g
            · rfl
          simp [oneOk, hi0] at this ⊢
          simpa [hi0] using this
        refine ⟨i + 1, [], ?_⟩
        conv => whnf
        repeat' (refine And.intro ?_ ?_ <;> conv => whnf)
        all_goals try first | exact ⟨rfl⟩ | exact ⟨⟨rfl, rfl⟩⟩ | exact ⟨⟨rfl, rfl, rfl⟩⟩ | exact ⟨by omega⟩ | exact ⟨⟨by omega, by omega⟩⟩ | exact ⟨⟨by omega, by omega, by omega⟩⟩ | exact ⟨fun _ _ => rfl⟩
        · exact ⟨by rw [wrap_id (by omega) (by omega)]; rfl⟩
        · refine ⟨⟨⟨hin, ?_⟩, by omega⟩⟩
          rw [List.range_succ, List.all_append, hi.2]
          simp [g1]
    refine vc_ok hΓ mixed 1000 _ [] _ (by kernel_rfl) rfl ?_
    conv => whnf
    obtain rfl : i = n := by omega
    refine cast (congrArg Φ (congrArg (V.int .i64) ?_)) h
    refine if_pos ?_
    simp only [feedsOk, Bool.and_eq_true, decide_eq_true_eq]
    exact ⟨⟨by omega, by omega⟩, hi.2⟩
end Go.Proofs.YtaihjcpfjgpmoaaGreatDoor

/- Cells; which one is later. -/
namespace Go.Proofs.YtaihjcpfjgpmoaaGreatDoor
set_option linter.unusedVariables false
set_option linter.unusedSimpArgs false
set_option maxRecDepth 100000
open Go Go.DD
structure Ce where
  key : List UInt8
  val : List UInt8
  stamp : Int
  author : List UInt8
  id : List UInt8
  gone : Bool
def cellV (c : Ce) : V := .st (.cons (.str c.key) (.cons (byV false c.val) (.cons (.int .i64 c.stamp) (.cons (arrV 32 c.author) (.cons (arrV 32 c.id) (.cons (.bool c.gone) .nil))))))
theorem f90_ok : FOk Tryz.prog [] 82 F117 := mkF_ok fun a _ Φ h => by
  have hΓ := ctxOk Tryz.f82.ntmps [(124, F117)] [] (FL.all (.cons f117_ok .nil)) (HL.all .nil)
  refine CP_of_OK hΓ Tryz.func82 (c := bodyOf Tryz.f82) rfl (by decide) rfl rfl (by simp) (vc_ok hΓ mixed 1000 _ [] _ (by kernel_rfl) rfl ?_)
  conv => whnf
  repeat' (first | (refine And.intro (fun _ => ?_) (fun _ => ?_) <;> conv => whnf) | (refine And.intro ?_ ?_ <;> conv => whnf))
  refine ⟨a, rfl, ⟨trivial⟩, ?_⟩
  conv => whnf
  repeat' (first | (refine And.intro (fun _ => ?_) (fun _ => ?_) <;> conv => whnf) | (refine And.intro ?_ ?_ <;> conv => whnf))
  exact h
theorem f57_ok : FOk Tryz.prog [] 41 F117 := mkF_ok fun a _ Φ h => by
  have hΓ := ctxOk Tryz.f41.ntmps [(82, F117)] [] (FL.all (.cons f90_ok .nil)) (HL.all .nil)
  refine CP_of_OK hΓ Tryz.func41 (c := bodyOf Tryz.f41) rfl (by decide) rfl rfl (by simp) (vc_ok hΓ mixed 1000 _ [] _ (by kernel_rfl) rfl ?_)
  conv => whnf
  repeat' (first | (refine And.intro (fun _ => ?_) (fun _ => ?_) <;> conv => whnf) | (refine And.intro ?_ ?_ <;> conv => whnf))
  refine ⟨a, rfl, ⟨trivial⟩, ?_⟩
  conv => whnf
  repeat' (first | (refine And.intro (fun _ => ?_) (fun _ => ?_) <;> conv => whnf) | (refine And.intro ?_ ?_ <;> conv => whnf))
  exact h
def F56 : FSpec := mkF (fun (a : Ce × List UInt8) => [cellV a.1, .str a.2]) (fun _ => True) (fun a => .int .i64 (cmpB a.1.key a.2))
theorem f56_ok : FOk Tryz.prog [] 40 F56 := mkF_ok fun a _ Φ h => by
  have hΓ := ctxOk Tryz.f40.ntmps [(41, F117)] [] (FL.all (.cons f57_ok .nil)) (HL.all .nil)
  refine CP_of_OK hΓ Tryz.func40 (c := bodyOf Tryz.f40) rfl (by decide) rfl rfl (by simp) (vc_ok hΓ mixed 1000 _ [] _ (by kernel_rfl) rfl ?_)
  conv => whnf
  repeat' (first | (refine And.intro (fun _ => ?_) (fun _ => ?_) <;> conv => whnf) | (refine And.intro ?_ ?_ <;> conv => whnf))
  refine ⟨(a.1.key, a.2), rfl, ⟨trivial⟩, ?_⟩
  conv => whnf
  repeat' (first | (refine And.intro (fun _ => ?_) (fun _ => ?_) <;> conv => whnf) | (refine And.intro ?_ ?_ <;> conv => whnf))
  exact h
def mkCell (e : Ent) : Ce := ⟨e.key, e.val, e.stamp, e.author, (idE e).1, decide (e.kind = 2)⟩
def F54 : FSpec := mkF (fun (e : Ent) => [entV e]) (fun e => preE e ∧ e.val.length ≤ 1000000) (fun e => cellV (mkCell e))
theorem f54_ok : FOk Tryz.prog G 38 F54 := mkF_ok fun e ⟨he, hv⟩ Φ h => by
  have hΓ := ctxG_ok Tryz.f38.ntmps [(81, F89), (46, F88)] [] [] (.cons (f89_ok) (.cons (f88_ok.g) .nil)) .nil
  refine CP_of_OK hΓ Tryz.func38 (c := bodyOf Tryz.f38) rfl (by decide) rfl rfl (by simp) (vc_ok hΓ mixed 1000 _ [] _ (by kernel_rfl) rfl ?_)
  conv => whnf
  repeat' (first | (refine And.intro (fun _ => ?_) (fun _ => ?_) <;> conv => whnf) | (refine And.intro ?_ ?_ <;> conv => whnf))
  all_goals try first | exact ⟨rfl⟩ | exact ⟨⟨rfl, rfl⟩⟩ | exact ⟨⟨rfl, rfl, rfl⟩⟩ | exact ⟨fun _ _ => rfl⟩ | exact ⟨fun _ _ => trivial⟩ | exact ⟨fun k _ => isU8_bf _ k⟩ | exact ⟨by omega⟩ | exact ⟨⟨by omega, by omega⟩⟩ | exact ⟨⟨by omega, by omega, by omega⟩⟩
  refine ⟨e, rfl, ⟨he⟩, ?_⟩
  conv => whnf
  repeat' (first | (refine And.intro (fun _ => ?_) (fun _ => ?_) <;> conv => whnf) | (refine And.intro ?_ ?_ <;> conv => whnf))
  all_goals try first | exact ⟨rfl⟩ | exact ⟨⟨rfl, rfl⟩⟩ | exact ⟨⟨rfl, rfl, rfl⟩⟩ | exact ⟨fun _ _ => rfl⟩ | exact ⟨fun _ _ => trivial⟩ | exact ⟨fun k _ => isU8_bf _ k⟩ | exact ⟨by omega⟩ | exact ⟨⟨by omega, by omega⟩⟩ | exact ⟨⟨by omega, by omega, by omega⟩⟩
  refine ⟨.of _ _, rfl, ⟨trivial, hv⟩, ?_⟩
  conv => whnf
  repeat' (first | (refine And.intro (fun _ => ?_) (fun _ => ?_) <;> conv => whnf) | (refine And.intro ?_ ?_ <;> conv => whnf))
  all_goals try first | exact ⟨rfl⟩ | exact ⟨⟨rfl, rfl⟩⟩ | exact ⟨⟨rfl, rfl, rfl⟩⟩ | exact ⟨fun _ _ => rfl⟩ | exact ⟨fun _ _ => trivial⟩ | exact ⟨fun k _ => isU8_bf _ k⟩ | exact ⟨by omega⟩ | exact ⟨⟨by omega, by omega⟩⟩ | exact ⟨⟨by omega, by omega, by omega⟩⟩
  refine cast (congrArg (fun g => Φ (.st (.cons (.str e.key) (.cons (byV false e.val) (.cons (.int .i64 e.stamp) (.cons (arrV 32 e.author) (.cons (arrV 32 (idE e).1) (.cons (.bool g) .nil)))))))) ?_) h
  rw [Bool.eq_iff_iff]
  simp [mkCell]
def F119 : FSpec := mkF (fun (n : Int) => [.int .i64 n]) (fun _ => True) (fun _ => .bool false)
theorem f119_ok : FOk Tryz.prog [] 126 F119 := mkF_ok fun n _ Φ h => by
  have hΓ := ctxOk Tryz.f126.ntmps [] [] (FL.all .nil) (HL.all .nil)
  refine CP_of_OK hΓ Tryz.func126 (c := bodyOf Tryz.f126) rfl (by decide) rfl rfl (by simp) (vc_ok hΓ mixed 1000 _ [] _ (by kernel_rfl) rfl ?_)
  conv => whnf
  repeat' (first | (refine And.intro (fun _ => ?_) (fun _ => ?_) <;> conv => whnf) | (refine And.intro ?_ ?_ <;> conv => whnf))
  refine cast (congrArg Φ (congrArg V.bool ?_)) h
  simp
def cmpI (x y : Int) : Int := if x < y then -1 else if y < x then 1 else 0
def F94 : FSpec := mkF (fun (a : Int × Int) => [.int .i64 a.1, .int .i64 a.2]) (fun _ => True) (fun a => .int .i64 (cmpI a.1 a.2))
theorem f94_ok : FOk Tryz.prog [] 86 F94 := mkF_ok fun ⟨x, y⟩ _ Φ h => by
  have hΓ := ctxOk Tryz.f86.ntmps [(126, F119)] [] (FL.all (.cons f119_ok .nil)) (HL.all .nil)
  refine CP_of_OK hΓ Tryz.func86 (c := bodyOf Tryz.f86) rfl (by decide) rfl rfl (by simp) (vc_ok hΓ mixed 1000 _ [] _ (by kernel_rfl) rfl ?_)
  conv => whnf
  repeat' (first | (refine And.intro (fun _ => ?_) (fun _ => ?_) <;> conv => whnf) | (refine And.intro ?_ ?_ <;> conv => whnf))
  refine ⟨x, rfl, ⟨trivial⟩, ?_⟩
  conv => whnf
  repeat' (first | (refine And.intro (fun _ => ?_) (fun _ => ?_) <;> conv => whnf) | (refine And.intro ?_ ?_ <;> conv => whnf))
  refine ⟨y, rfl, ⟨trivial⟩, ?_⟩
  conv => whnf
  repeat' (first | (refine And.intro (fun _ => ?_) (fun _ => ?_) <;> conv => whnf) | (refine And.intro ?_ ?_ <;> conv => whnf))
  all_goals (refine cast (congrArg Φ (congrArg (V.int .i64) ?_)) h; simp_all [cmpI] <;> omega)
/-- The first one that is not nought. -/
def orI (f : Nat → Int) : Nat → Int | 0 => 0 | n + 1 => if orI f n ≠ 0 then orI f n else f n
structure OrA where
  b : Bool
  n : Nat
  g : Nat → V
  f : Nat → Int
def F93 : FSpec := mkF (fun (a : OrA) => [.imm a.b 1 a.n a.g]) (fun a => a.n ≤ 1000 ∧ ∀ k, k < a.n → a.g k = .int .i64 (a.f k)) (fun a => .int .i64 (orI a.f a.n))
theorem orI_stop {f : Nat → Int} {i : Nat} (h : orI f i ≠ 0) : ∀ n, i ≤ n → orI f n = orI f i
  | 0, hn => by obtain rfl : i = 0 := by omega
                rfl
  | n + 1, hn => by
    rcases Nat.lt_or_ge i (n + 1) with h1 | h1
    · have h2 := orI_stop h n (by omega)
      simp only [orI]
      rw [if_pos (by rw [h2]; exact h), h2]
    · obtain rfl : i = n + 1 := by omega
      rfl
theorem f93_ok : FOk Tryz.prog [] 85 F93 := mkF_ok fun ⟨b, n, g, f⟩ ⟨hn, hg⟩ Φ h => by
  refine CP.le (ys := [.imm b 1 n fun k => .int .i64 (f k)]) (fun E l hT => ?_) ?_
  · cases l with
    | nil => exact hT
    | cons x l => exact ⟨T_imm_congr hg hT.1, hT.2⟩
  replace h : Φ (.int .i64 (orI f n)) := h
  replace hn : n ≤ 1000 := hn
  have hΓ := ctxOk Tryz.f85.ntmps [] [] (FL.all .nil) (HL.all .nil)
  refine CP_of_OK hΓ Tryz.func85 (c := bodyOf Tryz.f85) rfl (by decide) rfl rfl (by simp) (vc_ok hΓ mixed 1000 _ [] _ (by kernel_rfl) rfl ?_)
  conv => whnf
  refine OK_loopC (ι := Nat) (fun i => [(3, .int .i64 0), (6, .imm b 1 n fun k => .int .i64 (f k)), (7, .int .i64 (n : Nat)), (8, .int .i64 (i : Nat))]) (fun i => []) (fun i => i ≤ n ∧ orI f i = 0) (fun i => n - i) 0 [] ?_ (fun i hi => vc_ok hΓ mixed 1000 _ [] _ (by kernel_rfl) rfl ?_)
  · conv => whnf
    repeat' (first | (refine And.intro (fun _ => ?_) (fun _ => ?_) <;> conv => whnf) | (refine And.intro ?_ ?_ <;> conv => whnf))
    all_goals try first | exact ⟨rfl⟩ | exact ⟨⟨rfl, rfl⟩⟩ | exact ⟨⟨rfl, rfl, rfl⟩⟩ | exact ⟨by omega⟩ | exact ⟨⟨by omega, by omega⟩⟩ | exact ⟨⟨by omega, by omega, by omega⟩⟩ | exact ⟨fun _ _ => rfl⟩ | exact ⟨⟨Nat.zero_le _, rfl⟩⟩
  · conv => whnf
    repeat' (first | (refine And.intro (fun _ => ?_) (fun _ => ?_) <;> conv => whnf) | (refine And.intro ?_ ?_ <;> conv => whnf))
    all_goals (try simp only [decide_eq_true_eq, decide_eq_false_iff_not, Int.toNat_natCast, Bool.not_eq_true, Bool.not_eq_false] at *)
    all_goals try first | exact ⟨rfl⟩ | exact ⟨⟨rfl, rfl⟩⟩ | exact ⟨⟨rfl, rfl, rfl⟩⟩ | exact ⟨by omega⟩ | exact ⟨⟨by omega, by omega⟩⟩ | exact ⟨⟨by omega, by omega, by omega⟩⟩
    · rename_i g1 _
      have g2 : f i ≠ 0 := by simpa using g1
      have hin : i < n := by omega
      refine cast (congrArg Φ (congrArg (V.int .i64) ?_)) h
      have e1 : orI f (i + 1) = f i := by simp [orI, hi.2]
      rw [orI_stop (i := i + 1) (by rw [e1]; exact g2) n (by omega), e1]
    · rename_i g1 _
      have g2 : f i = 0 := by simpa using g1
      refine ⟨i + 1, [], ?_⟩
      conv => whnf
      repeat' (refine And.intro ?_ ?_ <;> conv => whnf)
      all_goals try first | exact ⟨rfl⟩ | exact ⟨⟨rfl, rfl⟩⟩ | exact ⟨⟨rfl, rfl, rfl⟩⟩ | exact ⟨by omega⟩ | exact ⟨⟨by omega, by omega⟩⟩ | exact ⟨⟨by omega, by omega, by omega⟩⟩ | exact ⟨fun _ _ => rfl⟩
      · exact ⟨by rw [wrap_id (by omega) (by omega)]; rfl⟩
      · exact ⟨⟨⟨by omega, by simp [orI, hi.2, g2]⟩, by omega⟩⟩
    refine vc_ok hΓ mixed 1000 _ [] _ (by kernel_rfl) rfl ?_
    conv => whnf
    obtain rfl : i = n := by omega
    rw [hi.2] at h
    exact h
theorem sub32 {l : List UInt8} (h : l.length = 32) : bytesOf (((32 : Nat) : Int).toNat - Int.toNat 0) (fun k => bf l (Int.toNat 0 + k)) = l := by
  have := bytesOf_sub l 0 32 (by omega)
  rw [List.drop_zero, List.take_of_length_le (by omega)] at this
  exact this
def laterC (a b : Ce) : Int := orI (fun k => match k with | 0 => cmpI a.stamp b.stamp | 1 => cmpB a.author b.author | _ => cmpB a.id b.id) 3
def wfC (c : Ce) : Prop := c.author.length = 32 ∧ c.id.length = 32
def F59 : FSpec := mkF (fun (a : Ce × Ce) => [cellV a.1, cellV a.2]) (fun a => wfC a.1 ∧ wfC a.2) (fun a => .int .i64 (laterC a.1 a.2))
theorem f59_ok : FOk Tryz.prog [] 43 F59 := mkF_ok fun ⟨a, b⟩ ⟨⟨ha1, ha2⟩, ⟨hb1, hb2⟩⟩ Φ h => by
  have hΓ := ctxOk Tryz.f43.ntmps [(86, F94), (87, F120), (85, F93)] [] (FL.all (.cons f94_ok (.cons f95_ok (.cons f93_ok .nil)))) (HL.all .nil)
  refine CP_of_OK hΓ Tryz.func43 (c := bodyOf Tryz.f43) rfl (by decide) rfl rfl (by simp) (vc_ok hΓ mixed 1000 _ [] _ (by kernel_rfl) rfl ?_)
  conv => whnf
  repeat' (first | (refine And.intro (fun _ => ?_) (fun _ => ?_) <;> conv => whnf) | (refine And.intro ?_ ?_ <;> conv => whnf))
  all_goals try first | exact ⟨rfl⟩ | exact ⟨⟨rfl, rfl⟩⟩ | exact ⟨⟨rfl, rfl, rfl⟩⟩ | exact ⟨fun _ _ => rfl⟩ | exact ⟨fun _ _ => trivial⟩ | exact ⟨fun k _ => isU8_bf _ k⟩ | exact ⟨by omega⟩ | exact ⟨⟨by omega, by omega⟩⟩ | exact ⟨⟨by omega, by omega, by omega⟩⟩
  refine ⟨(a.stamp, b.stamp), rfl, ⟨trivial⟩, ?_⟩
  conv => whnf
  repeat' (first | (refine And.intro (fun _ => ?_) (fun _ => ?_) <;> conv => whnf) | (refine And.intro ?_ ?_ <;> conv => whnf))
  all_goals try first | exact ⟨rfl⟩ | exact ⟨⟨rfl, rfl⟩⟩ | exact ⟨⟨rfl, rfl, rfl⟩⟩ | exact ⟨fun _ _ => rfl⟩ | exact ⟨fun _ _ => trivial⟩ | exact ⟨fun k _ => isU8_bf _ k⟩ | exact ⟨by omega⟩ | exact ⟨⟨by omega, by omega⟩⟩ | exact ⟨⟨by omega, by omega, by omega⟩⟩
  refine ⟨(.imm _ _ _, .imm _ _ _), rfl, ⟨fun _ _ => isU8_bf _ _, fun _ _ => isU8_bf _ _⟩, ?_⟩
  conv => whnf
  repeat' (first | (refine And.intro (fun _ => ?_) (fun _ => ?_) <;> conv => whnf) | (refine And.intro ?_ ?_ <;> conv => whnf))
  all_goals try first | exact ⟨rfl⟩ | exact ⟨⟨rfl, rfl⟩⟩ | exact ⟨⟨rfl, rfl, rfl⟩⟩ | exact ⟨fun _ _ => rfl⟩ | exact ⟨fun _ _ => trivial⟩ | exact ⟨fun k _ => isU8_bf _ k⟩ | exact ⟨by omega⟩ | exact ⟨⟨by omega, by omega⟩⟩ | exact ⟨⟨by omega, by omega, by omega⟩⟩
  refine ⟨(.imm _ _ _, .imm _ _ _), rfl, ⟨fun _ _ => isU8_bf _ _, fun _ _ => isU8_bf _ _⟩, ?_⟩
  conv => whnf
  repeat' (first | (refine And.intro (fun _ => ?_) (fun _ => ?_) <;> conv => whnf) | (refine And.intro ?_ ?_ <;> conv => whnf))
  all_goals try first | exact ⟨rfl⟩ | exact ⟨⟨rfl, rfl⟩⟩ | exact ⟨⟨rfl, rfl, rfl⟩⟩ | exact ⟨fun _ _ => rfl⟩ | exact ⟨fun _ _ => trivial⟩ | exact ⟨fun k _ => isU8_bf _ k⟩ | exact ⟨by omega⟩ | exact ⟨⟨by omega, by omega⟩⟩ | exact ⟨⟨by omega, by omega, by omega⟩⟩
  · refine ⟨?_⟩
    refine (lt_step ?_ (lt_step ?_ (lt_step ?_ lt_zero)))
    all_goals exact trivial
  refine ⟨⟨_, 3, _, fun k => match k with | 0 => cmpI a.stamp b.stamp | 1 => cmpB a.author b.author | _ => cmpB a.id b.id⟩, rfl, ⟨by show 3 ≤ 1000; omega, ?_⟩, ?_⟩
  · refine (lt_step ?_ (lt_step ?_ (lt_step ?_ lt_zero)))
    · show V.int .i64 _ = _
      simp only [By.l]
      rw [sub32 ha2, sub32 hb2]
    · show V.int .i64 _ = _
      simp only [By.l]
      rw [sub32 ha1, sub32 hb1]
    · rfl
  conv => whnf
  repeat' (first | (refine And.intro (fun _ => ?_) (fun _ => ?_) <;> conv => whnf) | (refine And.intro ?_ ?_ <;> conv => whnf))
  exact h
end Go.Proofs.YtaihjcpfjgpmoaaGreatDoor

/- Where a key's cell is. -/
namespace Go.Proofs.YtaihjcpfjgpmoaaGreatDoor
set_option linter.unusedVariables false
set_option linter.unusedSimpArgs false
set_option maxRecDepth 100000
open Go Go.DD
/-- A search by halves. -/
def bsI (c : Nat → Int) (i j : Nat) : Nat :=
  if i < j then (if c ((i + j) / 2) < 0 then bsI c ((i + j) / 2 + 1) j else bsI c i ((i + j) / 2)) else i
termination_by j - i
decreasing_by all_goals omega
theorem bsI_le (c : Nat → Int) (i j : Nat) (h : i ≤ j) : bsI c i j ≤ j := by
  induction i, j using bsI.induct c with
  | case1 i j h1 h2 ih => rw [bsI, if_pos h1, if_pos h2]; exact ih (by omega)
  | case2 i j h1 h2 ih => rw [bsI, if_pos h1, if_neg h2]; exact Nat.le_trans (ih (by omega)) (by omega)
  | case3 i j h1 => rw [bsI, if_neg h1]; exact h
structure BsA where
  b : Bool
  n : Nat
  cs : Nat → Ce
  key : List UInt8
def cellsV (b : Bool) (n : Nat) (cs : Nat → Ce) : V := .imm b 68 n fun k => cellV (cs k)
def cmpK (cs : Nat → Ce) (key : List UInt8) (k : Nat) : Int := cmpB (cs k).key key
def bsR (a : BsA) : Nat × Bool := (bsI (cmpK a.cs a.key) 0 a.n, decide (bsI (cmpK a.cs a.key) 0 a.n < a.n) && decide (cmpK a.cs a.key (bsI (cmpK a.cs a.key) 0 a.n) = 0))
def F55 : FSpec := mkF (fun (a : BsA) => [cellsV a.b a.n a.cs, .str a.key, .fn 40 .nil]) (fun a => a.n ≤ 1000000) (fun a => .tup (.cons (.int .i64 ((bsR a).1 : Nat)) (.cons (.bool (bsR a).2) .nil)))
theorem half {i j : Nat} (h : i + j ≤ 100000000) : IntKind.i64.wrap (shrI IntKind.u64 (IntKind.u64.wrap (IntKind.i64.wrap ((i : Int) + (j : Nat)))) 1) = (((i + j) / 2 : Nat) : Int) := by
  have h1 : IntKind.i64.wrap ((i : Int) + (j : Nat)) = ((i + j : Nat) : Int) := by rw [wrap_id (by omega) (by omega)]; omega
  have h2 : IntKind.u64.wrap ((i + j : Nat) : Int) = ((i + j : Nat) : Int) := by rw [IntKind.wrap_u64]; omega
  have h3 : min (Int.toNat 1) IntKind.u64.bits = 1 := by decide
  rw [h1, h2, shrI, h3, Int.fdiv_eq_ediv_of_nonneg _ (by decide), wrap_id (by omega) (by omega)]
  omega
theorem f55_ok : FOk Tryz.prog [] 39 F55 := mkF_ok fun ⟨b, n, cs, key⟩ hn Φ h => by
  replace hn : n ≤ 1000000 := hn
  replace h : Φ (.tup (.cons (.int .i64 ((bsR ⟨b, n, cs, key⟩).1 : Nat)) (.cons (.bool (bsR ⟨b, n, cs, key⟩).2) .nil))) := h
  have hΓ := ctxOk Tryz.f39.ntmps [(40, F56)] [] (FL.all (.cons f56_ok .nil)) (HL.all .nil)
  refine CP_of_OK hΓ Tryz.func39 (c := bodyOf Tryz.f39) rfl (by decide) rfl rfl (by simp) (vc_ok hΓ mixed 1000 _ [] _ (by kernel_rfl) rfl ?_)
  conv => whnf
  refine OK_loopC (ι := Nat × Nat) (fun x => [(0, cellsV b n cs), (1, .str key), (2, .fn 40 .nil), (8, .int .i64 (n : Nat)), (9, .int .i64 (x.1 : Nat)), (10, .int .i64 (x.2 : Nat))]) (fun x => []) (fun x => x.1 ≤ x.2 ∧ x.2 ≤ n ∧ bsI (cmpK cs key) x.1 x.2 = bsI (cmpK cs key) 0 n) (fun x => x.2 - x.1) (0, n) [] ?_ (fun i hi => vc_ok hΓ mixed 1000 _ [] _ (by kernel_rfl) rfl ?_)
  · conv => whnf
    repeat' (first | (refine And.intro (fun _ => ?_) (fun _ => ?_) <;> conv => whnf) | (refine And.intro ?_ ?_ <;> conv => whnf))
    all_goals try first | exact ⟨rfl⟩ | exact ⟨⟨rfl, rfl⟩⟩ | exact ⟨⟨rfl, rfl, rfl⟩⟩ | exact ⟨by omega⟩ | exact ⟨⟨by omega, by omega⟩⟩ | exact ⟨⟨by omega, by omega, by omega⟩⟩ | exact ⟨fun _ _ => rfl⟩ | exact ⟨⟨Nat.zero_le _, Nat.le_refl _, rfl⟩⟩
  · obtain ⟨i, j⟩ := i
    obtain ⟨hi1, hi2, hi3⟩ : i ≤ j ∧ j ≤ n ∧ bsI (cmpK cs key) i j = bsI (cmpK cs key) 0 n := hi
    conv => whnf
    repeat' (first | (refine And.intro (fun _ => ?_) (fun _ => ?_) <;> conv => whnf) | (refine And.intro ?_ ?_ <;> conv => whnf))
    all_goals (try simp only [decide_eq_true_eq, decide_eq_false_iff_not, Int.toNat_natCast, Bool.not_eq_true, Bool.not_eq_false] at *)
    all_goals try first | exact ⟨rfl⟩ | exact ⟨⟨rfl, rfl⟩⟩ | exact ⟨⟨rfl, rfl, rfl⟩⟩ | exact ⟨by omega⟩ | exact ⟨⟨by omega, by omega⟩⟩ | exact ⟨⟨by omega, by omega, by omega⟩⟩
    · have hw := half (i := i) (j := j) (by omega)
      exact ⟨⟨by rw [hw]; omega, by rw [hw]; omega⟩⟩
    · exact ⟨fun _ _ => trivial⟩
    · exact ⟨fun _ _ => trivial⟩
    · have hw := half (i := i) (j := j) (by omega)
      have hij : i < j := by omega
      refine ⟨(cs (IntKind.i64.wrap (shrI IntKind.u64 (IntKind.u64.wrap (IntKind.i64.wrap ((i : Int) + (j : Nat)))) 1)).toNat, key), rfl, ⟨trivial⟩, ?_⟩
      conv => whnf
      repeat' (first | (refine And.intro (fun _ => ?_) (fun _ => ?_) <;> conv => whnf) | (refine And.intro ?_ ?_ <;> conv => whnf))
      · rename_i g
        rw [hw, Int.toNat_natCast] at g
        have g2 : cmpK cs key ((i + j) / 2) < 0 := by simpa [cmpK] using g
        refine ⟨((i + j) / 2 + 1, j), [], ?_⟩
        conv => whnf
        repeat' (refine And.intro ?_ ?_ <;> conv => whnf)
        all_goals try first | exact ⟨rfl⟩ | exact ⟨⟨rfl, rfl⟩⟩ | exact ⟨⟨rfl, rfl, rfl⟩⟩ | exact ⟨by omega⟩ | exact ⟨⟨by omega, by omega⟩⟩ | exact ⟨⟨by omega, by omega, by omega⟩⟩ | exact ⟨fun _ _ => rfl⟩
        · refine ⟨?_⟩
          rw [hw, wrap_id (by omega) (by omega)]
          rfl
        · refine ⟨⟨⟨by show (i + j) / 2 + 1 ≤ j; omega, hi2, ?_⟩, by show j - ((i + j) / 2 + 1) < j - i; omega⟩⟩
          show bsI (cmpK cs key) ((i + j) / 2 + 1) j = _
          rw [← hi3, bsI.eq_1 _ i j, if_pos hij, if_pos g2]
      · rename_i g
        rw [hw, Int.toNat_natCast] at g
        have g2 : ¬ cmpK cs key ((i + j) / 2) < 0 := by simpa [cmpK] using g
        refine ⟨(i, (i + j) / 2), [], ?_⟩
        conv => whnf
        repeat' (refine And.intro ?_ ?_ <;> conv => whnf)
        all_goals try first | exact ⟨rfl⟩ | exact ⟨⟨rfl, rfl⟩⟩ | exact ⟨⟨rfl, rfl, rfl⟩⟩ | exact ⟨by omega⟩ | exact ⟨⟨by omega, by omega⟩⟩ | exact ⟨⟨by omega, by omega, by omega⟩⟩ | exact ⟨fun _ _ => rfl⟩ | exact ⟨hw⟩
        · refine ⟨⟨⟨by show i ≤ (i + j) / 2; omega, by show (i + j) / 2 ≤ n; omega, ?_⟩, by show (i + j) / 2 - i < j - i; omega⟩⟩
          show bsI (cmpK cs key) i ((i + j) / 2) = _
          rw [← hi3, bsI.eq_1 _ i j, if_pos hij, if_neg g2]
    have hb : bsI (cmpK cs key) 0 n = i := by rw [← hi3, bsI, if_neg (by omega)]
    simp only [bsR, hb] at h
    refine vc_ok hΓ mixed 1000 _ [] _ (by kernel_rfl) rfl ?_
    conv => whnf
    conv => whnf
    repeat' (first | (refine And.intro (fun _ => ?_) (fun _ => ?_) <;> conv => whnf) | (refine And.intro ?_ ?_ <;> conv => whnf))
    · rename_i g
      have : (i : Int) < (n : Nat) := by simpa using g
      exact ⟨by omega⟩
    · exact ⟨fun _ _ => trivial⟩
    · exact ⟨fun _ _ => trivial⟩
    · rename_i g
      have h1 : (i : Int) < (n : Nat) := by simpa using g
      refine ⟨(cs i, key), rfl, ⟨trivial⟩, ?_⟩
      conv => whnf
      repeat' (first | (refine And.intro (fun _ => ?_) (fun _ => ?_) <;> conv => whnf) | (refine And.intro ?_ ?_ <;> conv => whnf))
      refine cast (congrArg (fun q => Φ (.tup (.cons (.int .i64 (i : Nat)) (.cons (.bool q) .nil)))) ?_) h
      rw [Bool.eq_iff_iff]
      simp [cmpK, show i < n by omega]
      exact decide_eq_true_iff
    · rename_i g
      have h1 : ¬ (i : Int) < (n : Nat) := by simpa using g
      refine cast (congrArg (fun q => Φ (.tup (.cons (.int .i64 (i : Nat)) (.cons (.bool q) .nil)))) ?_) h
      simp [show ¬ i < n by omega]
end Go.Proofs.YtaihjcpfjgpmoaaGreatDoor

/- A cell more in a row of cells. -/
namespace Go.Proofs.YtaihjcpfjgpmoaaGreatDoor
set_option linter.unusedVariables false
set_option linter.unusedSimpArgs false
set_option maxRecDepth 100000
open Go Go.DD
def ctxX (n : Nat) (fs : List (Nat × FSpec)) (ps : List (Nat × SpecP)) (fh : List (Nat × SpecH)) (ex : List (Nat × Plan)) : Ctx := ⟨tb, ps ++ fs.map fun p => (p.1, callS p.2), fh, G, n, 0, ex, true⟩
theorem ctxX_ok (n : Nat) (fs : List (Nat × FSpec)) (ps : List (Nat × SpecP)) (fh : List (Nat × SpecH)) (ex : List (Nat × Plan)) (h : FL Tryz.prog G fs) (h2 : PL ps) (h' : HL Tryz.prog G fh) : CtxOk Tryz.prog (ctxX n fs ps fh ex) where
  tb := tabOk
  fs := (ctxS_ok n fs ps fh ex h h2 h').fs
  fh := h'.all
theorem isSome_ex {α : Type} {o : Option α} (h : o.isSome = true) : ∃ x, o = some x := Option.isSome_iff_exists.1 h
theorem p91_ok : SpecPOk Tryz.prog G 83 overS := overS_ok (fn := Tryz.f83) (t := 49) (r := 4) (e := 80) rfl rfl (by decide) (by kernel_rfl) (by kernel_rfl) (by kernel_rfl) (isSome_ex (by kernel_rfl))
theorem pln_cellV (c : Ce) : pln (cellV c) := by
  simp [cellV, pln, plns, byV, arrV, bf]
theorem noref_cellV (c : Ce) : noref (cellV c) := by
  simp [cellV, noref, norefs, byV, arrV, bf]
theorem own_cellV (c : Ce) : own (cellV c) := by
  simp only [cellV, byV, arrV, own, owns]
  exact ⟨trivial, fun k _ => own_bf _ k, trivial, fun k _ => own_bf _ k, fun k _ => own_bf _ k, trivial, trivial⟩
def ce0 : Ce := ⟨[], [], 0, [], [], false⟩
structure InA where
  len : Nat
  k : Nat
  n : Nat
  g : Nat → Ce
  c : Ce
def insG (g : Nat → Ce) (k : Nat) (c : Ce) (j : Nat) : Ce := if j < k then g j else if j = k then c else g (j - 1)
def H58 : SpecH := mkHE (fun (x : InA) => [.slx 0 68 0 x.len x.n, .int .i64 (x.k : Nat), .sl 1 [] 68 0 1 1]) (fun x => [some (.row 68 x.n fun j => cellV (x.g j)), some (.row 68 1 fun _ => cellV x.c)])
  (fun x => x.k ≤ x.len ∧ x.len ≤ x.n ∧ x.len ≤ 100000)
  (fun x (i : Nat × (Nat → Ce)) => x.len + 1 ≤ i.1 ∧ ∀ j, j < x.len + 1 → i.2 j = insG x.g x.k x.c j)
  (fun x i => .slx 2 68 0 (x.len + 1) i.1) (fun x i => [none, none, some (.row 68 i.1 fun j => cellV (i.2 j))])
def P91 : SpecP := overS
theorem c58_ok : CtxOk Tryz.prog (ctxX Tryz.f42.ntmps [] [(83, P91)] [] []) := ctxX_ok _ _ _ _ _ .nil (.cons p91_ok .nil) .nil
def S58 : SpecH := fun xs h κ => xs.length = 3 ∧ inlineS Tryz.prog (ctxX Tryz.f42.ntmps [] [(83, P91)] [] []) (bodyOf Tryz.f42) Tryz.f42.results.toList xs h κ
theorem s58_ok : SpecHOk Tryz.prog G 42 S58 := inline_ok (c := bodyOf Tryz.f42) (np := 3) c58_ok Tryz.func42 rfl (by decide) rfl (by decide)
def ceZ : V := .st (.cons (.str []) (.cons .emp (.cons (.int .i64 0) (.cons (.row 1 32 fun x => .int .u8 0) (.cons (.row 1 32 fun x => .int .u8 0) (.cons .ff .nil))))))
theorem leV_ceZ (m : List (Option Nat)) : leV m ceZ (cellV ce0) := by
  simp only [ceZ, cellV, leV]
  refine ⟨_, rfl, ?_⟩
  simp only [leVs, leV, byV, arrV, ce0]
  exact ⟨trivial, .inl (by simp), trivial, ⟨_, rfl, fun k _ => leV_refl _ trivial⟩, ⟨_, rfl, fun k _ => leV_refl _ trivial⟩, rfl, trivial⟩
/-- A row, seen as cells. -/
theorem cells_of {N C : Nat} {F : Nat → V} {G : Nat → Ce} {g : Nat → Ce} (hN : N ≤ C) (h1 : ∀ j, j < N → F j = cellV (G j)) (h2 : ∀ j, N ≤ j → j < C → F j = ceZ ∨ F j = cellV (g j)) :
    ∃ g' : Nat → Ce, (∀ j, j < N → g' j = G j) ∧ ∀ (m : List (Option Nat)) j, j < C → leV m (F j) (cellV (g' j)) := by
  have h3 : ∀ j, ∃ c, (j < N → c = G j) ∧ ∀ m, j < C → leV m (F j) (cellV c) := fun j => by
    rcases Nat.lt_or_ge j N with h | h
    · exact ⟨G j, fun _ => rfl, fun m _ => leV_eq (h1 j h) (pln_cellV _)⟩
    · rcases Nat.lt_or_ge j C with h' | h'
      · rcases h2 j h h' with h4 | h4
        · exact ⟨ce0, fun h5 => absurd h5 (by omega), fun m _ => by rw [h4]; exact leV_ceZ m⟩
        · exact ⟨g j, fun h5 => absurd h5 (by omega), fun m _ => leV_eq h4 (pln_cellV _)⟩
      · exact ⟨ce0, fun h5 => absurd h5 (by omega), fun m h5 => absurd h5 (by omega)⟩
  obtain ⟨g', hg⟩ := Classical.axiomOfChoice h3
  exact ⟨g', fun j hj => (hg j).1 hj, fun m j hj => (hg j).2 m hj⟩
theorem h58_ok : SpecHOk Tryz.prog G 42 H58 := mkHE_ok s58_ok (fun x κ ⟨h1, h2, h5⟩ h => by
  refine ⟨rfl, ?_⟩
  refine vc_ok (CtxOk.inner c58_ok _) mixed 1000 _ [] _ (by kernel_rfl) rfl ?_
  have w1 : IntKind.i64.wrap ((x.len : Nat) + ((1 : Nat) : Int)) = ((x.len + 1 : Nat) : Int) := by rw [wrap_id (by omega) (by omega)]; omega
  have w2 : IntKind.i64.wrap (((x.len + 1 : Nat) : Int) - (x.k : Nat)) = ((x.len + 1 - x.k : Nat) : Int) := by rw [wrap_id (by omega) (by omega)]; omega
  have w3 : IntKind.i64.wrap ((x.k : Nat) + ((1 : Nat) : Int)) = ((x.k + 1 : Nat) : Int) := by rw [wrap_id (by omega) (by omega)]; omega
  have t0 : Int.toNat 0 = 0 := rfl
  conv => whnf
  repeat' (first | (refine And.intro (fun _ => ?_) (fun _ => ?_) <;> conv => whnf) | (refine And.intro ?_ ?_ <;> conv => whnf))
  all_goals simp only [w1, w2, w3, Int.toNat_natCast, t0, Nat.sub_zero, Nat.zero_add, beq_iff_eq, beq_eq_false_iff_ne, ne_eq, decide_eq_true_eq, decide_eq_false_iff_not] at *
  · exact ⟨by omega⟩
  · omega
  · exact ⟨by omega⟩
  · exact ⟨by omega⟩
  · exact ⟨⟨by show (x.len + 1) * 120 ≤ _; omega, by omega⟩⟩
  · intro C f' g1 g2 g3
    obtain ⟨g', hg', hel⟩ := cells_of (G := insG x.g x.k x.c) (g := x.g) g1 (fun j hj => by
      refine (g2 j hj).trans ?_
      simp only [insG]
      have : x.k = x.len := by omega
      by_cases h7 : j < x.len
      · rw [if_pos h7, if_pos (by omega)]
      · rw [if_neg h7, if_neg (by omega), if_pos (by omega)]) (fun j hj hj' => (g3 j hj hj').imp id And.right)
    conv => whnf
    refine ⟨[some 0, some 1, some 2], .slx 2 68 0 (x.len + 1) C, [none, none, some (.row 68 C fun j => cellV (g' j))], ?_⟩
    conv => whnf
    repeat' (refine And.intro ?_ ?_ <;> conv => whnf)
    all_goals try first | exact ⟨rfl⟩ | exact ⟨⟨rfl, rfl⟩⟩ | exact ⟨⟨rfl, rfl, rfl⟩⟩ | exact ⟨by omega⟩ | exact ⟨⟨by omega, by omega⟩⟩ | exact ⟨⟨by omega, by omega, by omega⟩⟩ | exact ⟨fun k hk => hel _ k hk⟩
    exact h (C, g') ⟨by show x.len + 1 ≤ C; omega, hg'⟩
  · exact ⟨by omega⟩
  · exact ⟨by omega⟩
  · exact ⟨by omega⟩
  · exact ⟨by show _ * 120 ≤ _ ∧ _; omega⟩
  · exact ⟨by omega⟩
  · intro C f' g1 g2 g3
    have e1 : x.k + (x.len + 1 - x.k) = x.len + 1 := by omega
    simp only [e1] at *
    conv => whnf
    repeat' (first | (refine And.intro (fun _ => ?_) (fun _ => ?_) <;> conv => whnf) | (refine And.intro ?_ ?_ <;> conv => whnf))
    all_goals try simp only [show IntKind.i64.wrap ((x.k : Nat) + ((1 : Nat) : Int)) = ((x.k + 1 : Nat) : Int) by rw [wrap_id (by omega) (by omega)]; omega, Int.toNat_natCast, show Int.toNat 0 = 0 from rfl, Nat.sub_zero, Nat.zero_add]
    all_goals try exact ⟨by omega⟩
    obtain ⟨g', hg', hel⟩ := cells_of (F := fun j => if x.k + 1 ≤ j ∧ j < x.k + 1 + min (x.len - x.k) (x.len + 1 - (x.k + 1)) then cellV (x.g (x.k + (j - (x.k + 1)))) else if x.k ≤ j ∧ j < x.k + min 1 (x.len + 1 - x.k) then cellV x.c else f' j) (G := insG x.g x.k x.c) (g := x.g) g1 (fun j hj => by
      simp only [insG]
      by_cases h7 : j < x.k
      · rw [if_neg (by omega), if_neg (by omega), if_pos h7, g2 j hj, if_pos h7]
      · by_cases h8 : j = x.k
        · rw [if_neg (by omega), if_pos (by omega), if_neg h7, if_pos h8]
        · rw [if_pos (by omega), if_neg h7, if_neg h8]
          congr 2; omega) (fun j hj hj' => by
      rw [if_neg (by omega), if_neg (by omega)]
      exact (g3 j hj hj').imp id And.right)
    refine ⟨[some 0, some 1, some 2], .slx 2 68 0 (x.len + 1) C, [none, none, some (.row 68 C fun j => cellV (g' j))], ?_⟩
    conv => whnf
    repeat' (refine And.intro ?_ ?_ <;> conv => whnf)
    all_goals try first | exact ⟨rfl⟩ | exact ⟨⟨rfl, rfl⟩⟩ | exact ⟨⟨rfl, rfl, rfl⟩⟩ | exact ⟨by omega⟩ | exact ⟨⟨by omega, by omega⟩⟩ | exact ⟨⟨by omega, by omega, by omega⟩⟩ | exact ⟨fun k hk => hel _ k hk⟩
    exact h (C, g') ⟨by show x.len + 1 ≤ C; omega, hg'⟩
  all_goals try exact ⟨by omega⟩
  obtain ⟨g', hg', hel⟩ := cells_of (F := fun k => if x.k ≤ k ∧ k < x.k + min 1 (x.len + 1 - x.k) then cellV x.c else if x.k + 1 ≤ k ∧ k < x.k + 1 + min (x.len + 1 - x.k) (x.len + 1 - (x.k + 1)) then cellV (x.g (x.k + (k - (x.k + 1)))) else cellV (x.g k)) (G := insG x.g x.k x.c) (g := x.g) (show x.len + 1 ≤ x.n by omega) (fun j hj => by
      simp only [insG]
      by_cases h7 : j < x.k
      · rw [if_neg (by omega), if_neg (by omega), if_pos h7]
      · by_cases h8 : j = x.k
        · rw [if_pos (by omega), if_neg h7, if_pos h8]
        · rw [if_neg (by omega), if_pos (by omega), if_neg h7, if_neg h8]
          congr 2; omega) (fun j hj hj' => by
      rw [if_neg (by omega), if_neg (by omega)]
      exact .inr rfl)
  refine ⟨[some 0, some 1, some 0], .slx 2 68 0 (x.len + 1) x.n, [none, none, some (.row 68 x.n fun j => cellV (g' j))], ?_⟩
  conv => whnf
  repeat' (refine And.intro ?_ ?_ <;> conv => whnf)
  all_goals try first | exact ⟨rfl⟩ | exact ⟨⟨rfl, rfl⟩⟩ | exact ⟨⟨rfl, rfl, rfl⟩⟩ | exact ⟨by omega⟩ | exact ⟨⟨by omega, by omega⟩⟩ | exact ⟨⟨by omega, by omega, by omega⟩⟩ | exact ⟨fun k hk => hel _ k hk⟩
  exact h (x.n, g') ⟨by show x.len + 1 ≤ x.n; omega, hg'⟩
  ) (fun _ _ => by simp) (fun _ _ _ => by simp [rok]) (fun a i u hq hu => by
    simp at hu; subst hu
    simp only [rok]
    exact fun j hj => noref_cellV _)
end Go.Proofs.YtaihjcpfjgpmoaaGreatDoor
