/- What rows a state has: the lists. -/
import Derived.Test.YtimaobccedeafaaGreatDoorZG
namespace Go.Proofs.YtimaobccedeafaaGreatDoor
set_option linter.unusedVariables false
set_option linter.unusedSimpArgs false
set_option maxRecDepth 100000
open Go Go.DD
/-- A feed that a set may have. -/
structure OkF (f : Fd) : Prop where
  pre : preF f
  look : (lookF f).2 = true
theorem OkF.n {f : Fd} (h : OkF f) : f.n ≤ 200 := (look_ents h.look).1
theorem OkF.lastN {f : Fd} (h : OkF f) : lastF f = ((lastR f).1, (lastR f).2, 0) ∧ (lastR f).1 = ((f.n : Nat) : Int) ∧ (lastR f).2.length = 32 := by
  have h0 := lastR_eq h.look
  have h1 := lastF_ok h.look
  have e1 : (lastR f).1 = ((f.n : Nat) : Int) := (congrArg Prod.fst h0).symm.trans (congrArg Prod.fst h1)
  have e2 : (lastR f).2 = (lookF f).1 := (congrArg (fun x => x.2.1) h0).symm.trans (congrArg (fun x => x.2.1) h1)
  exact ⟨h0, e1, by rw [e2]; exact lookF_length f⟩
/-- The feeds' bytes, the first ahead. -/
def fB : List Fd → List UInt8 | [] => [] | f :: l => feedB f ++ fB l
def cB : List Ce → List UInt8 | [] => [] | c :: l => cellB c ++ cB l
theorem fB_app : ∀ (l m : List Fd), fB (l ++ m) = fB l ++ fB m
  | [], m => rfl
  | f :: l, m => by simp only [fB, List.cons_append, List.append_assoc, fB_app l m]
theorem cB_app : ∀ (l m : List Ce), cB (l ++ m) = cB l ++ cB m
  | [], m => rfl
  | f :: l, m => by simp only [cB, List.cons_append, List.append_assoc, cB_app l m]
def fdL (n : Nat) (l : Nat → Fd) : List Fd := (List.range n).map l
theorem fdL_succ (n : Nat) (l : Nat → Fd) : fdL (n + 1) l = fdL n l ++ [l n] := by simp [fdL, List.range_succ]
theorem feedsB_eq (l : Nat → Fd) : ∀ n, feedsB l n = fB (fdL n l)
  | 0 => rfl
  | n + 1 => by rw [feedsB, fdL_succ, fB_app, feedsB_eq l n]; simp [fB]
theorem cellsB_eq (cs : List Ce) : ∀ n, n ≤ cs.length → cellsB cs n = cB (cs.take n)
  | 0, _ => by simp [cellsB, cB]
  | n + 1, h => by
    rw [cellsB, cellsB_eq cs n (by omega), List.take_add_one, cB_app, List.getElem?_eq_getElem (by omega)]
    simp [cB, gce, List.getD_eq_getElem?_getD, List.getElem?_eq_getElem (show n < cs.length by omega)]
theorem cells_all (cs : List Ce) : cellsB cs cs.length = cB cs := by rw [cellsB_eq cs _ (Nat.le_refl _), List.take_length]
theorem okF_of {a : Fds} (ha : tyL a) (h : feedsOk a.n a.l = true) : ∀ f, f ∈ fdL a.n a.l → OkF f := fun f hf => by
  obtain ⟨k, hk, rfl⟩ := List.mem_map.1 hf
  have hk' := List.mem_range.1 hk
  exact ⟨ha k hk', (feedsOk_look h).2.2 k hk'⟩
theorem state_fB {a : Fds} (h : feedsOk a.n a.l = true) : (stateR a).1 = fB (fdL a.n a.l) ++ cB (viewL a.n a.l) := by
  rw [stateR, if_pos h]
  show feedsB a.l a.n ++ cellsB _ _ = _
  rw [feedsB_eq, cells_all]
theorem allB_iff {f : Nat → Bool} {n : Nat} : allB f n = true ↔ ∀ k, k < n → f k = true := by
  simp [allB, List.all_eq_true]
theorem stateR_err {a : Fds} : (stateR a).2 = if feedsOk a.n a.l then 0 else 1 := by
  unfold stateR; split <;> rfl
/- Heads are read. -/
set_option maxRecDepth 100000
open Go Go.DD
/-- Letters, as a number, the first ahead. -/
def stepX (x : Nat) (c : UInt8) : Nat := ((x * 256) % 2 ^ 64) ||| c.toNat
def beX (l : List UInt8) (x : Nat) : Nat := l.foldl stepX x
theorem beX_lt : ∀ (l : List UInt8) (x : Nat), x < 2 ^ 64 → beX l x < 2 ^ 64
  | [], x, h => h
  | c :: l, x, h => beX_lt l _ (Nat.or_lt_two_pow (Nat.mod_lt _ (by decide)) (Nat.lt_of_lt_of_le c.toNat_lt (by decide)))
theorem beX_snoc (l : List UInt8) (c : UInt8) (x : Nat) : beX (l ++ [c]) x = stepX (beX l x) c := by simp [beX]
structure GtR where
  major : Int
  n : Int
  next : Int
  err : Int
def getBad : GtR := ⟨0, 0, 0, 3⟩
/-- How many letters behind the first one. -/
def moreB (says : Nat) : Nat := if says < 24 then 0 else 2 ^ (says - 24)
def getR (b : List UInt8) (i : Nat) : GtR :=
  if i = b.length ∨ 27 < (b.getD i 0).toNat % 32 then getBad
  else if b.length < i + 1 + moreB ((b.getD i 0).toNat % 32) then getBad
  else if 9223372036854775807 < beX ((b.drop (i + 1)).take (moreB ((b.getD i 0).toNat % 32))) (if (b.getD i 0).toNat % 32 < 24 then (b.getD i 0).toNat % 32 else 0) then getBad
  else if (sizeB (beX ((b.drop (i + 1)).take (moreB ((b.getD i 0).toNat % 32))) (if (b.getD i 0).toNat % 32 < 24 then (b.getD i 0).toNat % 32 else 0))).1 ≠ moreB ((b.getD i 0).toNat % 32) then getBad
  else ⟨((b.getD i 0).toNat / 32 : Nat), (beX ((b.drop (i + 1)).take (moreB ((b.getD i 0).toNat % 32))) (if (b.getD i 0).toNat % 32 < 24 then (b.getD i 0).toNat % 32 else 0) : Nat), ((i + 1 + moreB ((b.getD i 0).toNat % 32) : Nat) : Int), 0⟩
theorem u8_and31' : ∀ x : Fin 256, bitsI .and .u8 (x.val : Nat) 31 = ((x.val % 32 : Nat) : Int) := by decide
theorem u8_shr5' : ∀ x : Fin 256, shrI .u8 (x.val : Nat) 5 = ((x.val / 32 : Nat) : Int) := by decide
theorem u8_and31 (c : UInt8) : bitsI .and .u8 (c.toNat : Nat) 31 = ((c.toNat % 32 : Nat) : Int) := u8_and31' ⟨c.toNat, c.toNat_lt⟩
theorem u8_shr5 (c : UInt8) : shrI .u8 (c.toNat : Nat) 5 = ((c.toNat / 32 : Nat) : Int) := u8_shr5' ⟨c.toNat, c.toNat_lt⟩
theorem more_le {s : Nat} (h : s ≤ 27) : moreB s ≤ 8 := by
  unfold moreB
  split
  · omega
  · exact Nat.le_trans (Nat.pow_le_pow_right (by decide) (show s - 24 ≤ 3 by omega)) (by decide)
theorem shl_more {s : Nat} (h1 : 24 ≤ s) (h2 : s ≤ 27) : shlI .i64 1 (IntKind.i64.wrap ((s : Int) - 24)) = ((moreB s : Nat) : Int) := by
  have : s = 24 ∨ s = 25 ∨ s = 26 ∨ s = 27 := by omega
  rcases this with rfl | rfl | rfl | rfl <;> decide
theorem stepX_eq {x : Nat} (c : UInt8) : bitsI .or .u64 (shlI .u64 (x : Nat) 8) (IntKind.u64.wrap (c.toNat : Nat)) = ((stepX x c : Nat) : Int) := by
  have hc := c.toNat_lt
  have e1 : shlI .u64 (x : Nat) 8 = (((x * 256) % 2 ^ 64 : Nat) : Int) := by
    simp only [shlI]
    rw [IntKind.wrap_u64]
    have : (2 : Int) ^ min (8 : Int).toNat IntKind.u64.bits = 256 := by decide
    rw [this]
    omega
  rw [e1, u64_wrap _ (by omega), u64_or _ _ (Nat.mod_lt _ (by decide)) (by omega)]
  rfl
theorem beX_take {l : List UInt8} {p i x : Nat} (h : p + i < l.length) : beX ((l.drop p).take (i + 1)) x = stepX (beX ((l.drop p).take i) x) (l.getD (p + i) 0) := by
  rw [List.take_add_one, beX, List.foldl_append]
  simp [beX, List.getElem?_drop, List.getD_eq_getElem?_getD, List.getElem?_eq_getElem h]
structure GtA where
  b : By
  i : Nat
def gtV (r : GtR) : V := .tup (.cons (.int .i64 r.major) (.cons (.int .i64 r.n) (.cons (.int .i64 r.next) (.cons (.int .i64 r.err) .nil))))
def F121c : FSpec := mkG (fun (n : Nat) => [.int .i64 (n : Nat)]) (fun _ => True) (fun n => sizeB n) (fun r => .tup (.cons (.int .i64 (r.1 : Nat)) (.cons (.int .i64 (r.2 : Nat)) .nil)))
theorem f121c_ok : FOk Tryz.prog [] 121 F121c := mkG_of f121_ok
def F96 : FSpec := mkG (fun (x : GtA) => [x.b.v, .int .i64 (x.i : Nat)]) (fun x => okB x.b ∧ x.i ≤ x.b.l.length) (fun x => getR x.b.l x.i) gtV
theorem f96_ok : FOk Tryz.prog [] 96 F96 := mkG_ok fun ⟨a, p⟩ ⟨⟨ha, hn⟩, hi⟩ => by
  replace hi : p ≤ a.l.length := hi
  replace ha : a.ok := ha
  replace hn : a.l.length ≤ 1000000 := hn
  show CP _ _ _ [a.v, .int .i64 (p : Nat)] fun v => Ld v (gtV (getR a.l p))
  refine CP.by1 ha ?_
  generalize a.l = l at hi hn
  generalize a.b = b1
  have hΓ := ctxOk Tryz.f96.ntmps [(121, F121c)] [] (FL.all (.cons f121c_ok .nil)) (HL.all .nil)
  refine CP_of_OK hΓ Tryz.func96 (c := bodyOf Tryz.f96) rfl (by decide) rfl rfl (by simp) (vc_ok hΓ mixed 1000 _ [] _ (by kernel_rfl) rfl ?_)
  by_cases hil : p = l.length
  · conv => whnf
    repeat' (first | (refine And.intro (fun hp => ?_) (fun hp => ?_) <;> first | (exfalso; revert hp; simp <;> omega; done) | conv => whnf) | (refine And.intro ?_ ?_ <;> conv => whnf))
    have e : getR l p = getBad := if_pos (.inl hil)
    rw [e]
    exact Ld.refl _
  · have hand := u8_and31 (l.getD p 0)
    have hshr := u8_shr5 (l.getD p 0)
    have hc := (l.getD p 0).toNat_lt
    have hG : getR l p = getR l p := rfl
    conv at hG => rhs; unfold getR
    generalize hcc : (l.getD p 0).toNat = c at hand hshr hc hG
    generalize hss : c % 32 = s at hand hG
    by_cases h27 : 27 < s
    · rw [if_pos (.inr h27)] at hG
      conv => whnf
      repeat' (first | (refine And.intro (fun hp => ?_) (fun hp => ?_) <;> first | (exfalso; revert hp; (intro hp; simp only [Int.toNat_natCast, hcc, hand, hshr, decide_eq_true_eq, decide_eq_false_iff_not, beq_iff_eq, beq_eq_false_iff_ne] at hp <;> omega); done) | conv => whnf) | (refine And.intro ?_ ?_ <;> conv => whnf))
      · exact ⟨by omega⟩
      · rw [hG]; exact Ld.refl _
    rw [if_neg (fun h => h.elim hil h27)] at hG
    have hm := more_le (s := s) (by omega)
    have hw : IntKind.i64.wrap (s : Nat) = (s : Nat) := wrap_id (by omega) (by omega)
    by_cases h24 : s < 24
    · have hm0 : moreB s = 0 := if_pos h24
      have e1 : IntKind.i64.wrap (IntKind.i64.wrap ((p : Int) + 1) + 0) = ((p + 1 + moreB s : Nat) : Int) := by rw [hm0, wrap_id (by rw [wrap_id (by omega) (by omega)]; omega) (by rw [wrap_id (by omega) (by omega)]; omega), wrap_id (by omega) (by omega)]; omega
      conv => whnf
      repeat' (first | (refine And.intro (fun hp => ?_) (fun hp => ?_) <;> first | (exfalso; revert hp; (intro hp; simp only [Int.toNat_natCast, hcc, hand, hshr, hw, decide_eq_true_eq, decide_eq_false_iff_not, beq_iff_eq, beq_eq_false_iff_ne] at hp <;> omega); done) | conv => whnf) | (refine And.intro ?_ ?_ <;> conv => whnf))
      all_goals (try simp only [Int.toNat_natCast, hcc, hand, hshr, hw, e1])
      all_goals try first | exact ⟨rfl⟩ | exact ⟨⟨rfl, rfl⟩⟩ | exact ⟨⟨rfl, rfl, rfl⟩⟩ | exact ⟨by omega⟩ | exact ⟨⟨by omega, by omega⟩⟩ | exact ⟨⟨by omega, by omega, by omega⟩⟩ | exact ⟨by rw [wrap_id (by omega) (by omega)]; omega⟩
      have hle : p + 1 + moreB s ≤ l.length := by omega
      have hx0 : (if s < 24 then s else 0) = s := if_pos h24
      rw [hx0] at hG
      refine OK_loopC (ι := Nat) (fun j => [(4, .int .i64 (c / 32 : Nat)), (6, .int .i64 (p + 1 + moreB s : Nat)), (9, .int .i64 (moreB s : Nat)), (10, .int .u64 (beX ((l.drop (p + 1)).take j) s : Nat)), (68, .imm b1 1 (moreB s) fun k => bf l (p + 1 + k)), (69, .int .i64 (moreB s : Nat)), (70, .int .i64 (j : Nat))]) (fun _ => []) (fun j => j ≤ moreB s) (fun j => moreB s - j) 0 [] ?_ (fun i hi => vc_ok hΓ mixed 1000 _ [] _ (by kernel_rfl) rfl ?_)
      · conv => whnf
        repeat' (first | (refine And.intro (fun _ => ?_) (fun _ => ?_) <;> conv => whnf) | (refine And.intro ?_ ?_ <;> conv => whnf))
        all_goals try first | exact ⟨rfl⟩ | exact ⟨⟨rfl, rfl⟩⟩ | exact ⟨⟨rfl, rfl, rfl⟩⟩ | exact ⟨by omega⟩ | exact ⟨⟨by omega, by omega⟩⟩ | exact ⟨⟨by omega, by omega, by omega⟩⟩ | exact ⟨wrap_id (by omega) (by omega)⟩ | exact ⟨by rw [IntKind.wrap_u64, Int.emod_eq_of_lt (by omega) (by omega)]; rfl⟩ | exact ⟨by rw [wrap_id (by omega) (by omega)]; omega⟩ | exact ⟨fun k _ => by rw [wrap_id (by omega) (by omega)]; exact congrArg (bf l) (by omega)⟩ | exact ⟨shl_more (by omega) (by omega)⟩
      · conv => whnf
        repeat' (first | (refine And.intro (fun _ => ?_) (fun _ => ?_) <;> conv => whnf) | (refine And.intro ?_ ?_ <;> conv => whnf))
        all_goals (try simp only [decide_eq_true_eq, decide_eq_false_iff_not, Int.toNat_natCast, Int.ofNat_lt] at *)
        all_goals try first | exact ⟨rfl⟩ | exact ⟨⟨rfl, rfl⟩⟩ | exact ⟨⟨rfl, rfl, rfl⟩⟩ | exact ⟨by omega⟩ | exact ⟨⟨by omega, by omega⟩⟩ | exact ⟨⟨by omega, by omega, by omega⟩⟩
        · refine ⟨i + 1, [], ?_⟩
          conv => whnf
          repeat' (refine And.intro ?_ ?_ <;> conv => whnf)
          all_goals try first | exact ⟨rfl⟩ | exact ⟨⟨rfl, rfl⟩⟩ | exact ⟨⟨rfl, rfl, rfl⟩⟩ | exact ⟨by omega⟩ | exact ⟨⟨by omega, by omega⟩⟩ | exact ⟨⟨by omega, by omega, by omega⟩⟩ | exact ⟨fun _ _ => rfl⟩ | exact ⟨by rw [stepX_eq, beX_take (by omega)]⟩ | exact ⟨by rw [wrap_id (by omega) (by omega)]; rfl⟩
        have him : i = moreB s := by omega
        rw [← him] at hG hle
        have hxl := beX_lt ((l.drop (p + 1)).take i) s (by omega)
        generalize beX ((l.drop (p + 1)).take i) s = x at hG hxl ⊢
        rw [if_neg (by omega)] at hG
        refine vc_ok hΓ mixed 1000 _ [] _ (by kernel_rfl) rfl ?_
        conv => whnf
        refine And.intro (fun hb => ?_) (fun hb => ?_)
        · conv => whnf
          repeat' (first | (refine And.intro (fun _ => ?_) (fun _ => ?_) <;> conv => whnf) | (refine And.intro ?_ ?_ <;> conv => whnf))
          rw [if_pos (by have := of_decide_eq_true hb; omega)] at hG
          rw [hG]; exact Ld.refl _
        have hb2 := of_decide_eq_false hb
        rw [if_neg (by omega)] at hG
        conv => whnf
        refine ⟨x, ⟨AE.of (congrArg (V.int .i64) (wrap_id (by omega) (by omega))), trivial⟩, ⟨trivial⟩, ?_⟩
        intro r hr
        replace hr : r = sizeB x := hr
        rw [← hr] at hG
        conv => whnf
        repeat' (first | (refine And.intro (fun _ => ?_) (fun _ => ?_) <;> conv => whnf) | (refine And.intro ?_ ?_ <;> conv => whnf))
        · rename_i hne
          rw [if_pos (by simp at hne; omega)] at hG
          rw [hG]; exact Ld.refl _
        · rename_i hne
          rw [if_neg (by simp at hne; omega)] at hG
          rw [hG, wrap_id (x := (x : Int)) (by omega) (by omega), him]
          exact Ld.refl _
    · have e1 : IntKind.i64.wrap (IntKind.i64.wrap ((p : Int) + 1) + shlI .i64 1 (IntKind.i64.wrap ((s : Nat) - 24))) = ((p + 1 + moreB s : Nat) : Int) := by
        rw [shl_more (by omega) (by omega), wrap_id (x := (p : Int) + 1) (by omega) (by omega), wrap_id (by omega) (by omega)]; omega
      conv => whnf
      repeat' (first | (refine And.intro (fun hp => ?_) (fun hp => ?_) <;> first | (exfalso; revert hp; (intro hp; simp only [Int.toNat_natCast, hcc, hand, hshr, hw, decide_eq_true_eq, decide_eq_false_iff_not, beq_iff_eq, beq_eq_false_iff_ne] at hp <;> omega); done) | conv => whnf) | (refine And.intro ?_ ?_ <;> conv => whnf))
      all_goals (try simp only [Int.toNat_natCast, hcc, hand, hshr, hw, e1])
      all_goals try first | exact ⟨rfl⟩ | exact ⟨⟨rfl, rfl⟩⟩ | exact ⟨⟨rfl, rfl, rfl⟩⟩ | exact ⟨by omega⟩ | exact ⟨⟨by omega, by omega⟩⟩ | exact ⟨⟨by omega, by omega, by omega⟩⟩ | exact ⟨by rw [wrap_id (by omega) (by omega)]; omega⟩
      · simp only [Int.toNat_natCast, hcc, hand, hw, e1, decide_eq_true_eq] at hp
        rw [if_pos (by omega)] at hG
        rw [hG]; exact Ld.refl _
      · simp only [Int.toNat_natCast, hcc, hand, hw, e1, decide_eq_false_iff_not] at hp
        exact ⟨by rw [wrap_id (by omega) (by omega)]; omega⟩
      have hle : p + 1 + moreB s ≤ l.length := by
        simp only [Int.toNat_natCast, hcc, hand, hw, e1, decide_eq_false_iff_not] at hp
        omega
      have hx0 : (if s < 24 then s else 0) = 0 := if_neg h24
      rw [hx0] at hG
      refine OK_loopC (ι := Nat) (fun j => [(4, .int .i64 (c / 32 : Nat)), (6, .int .i64 (p + 1 + moreB s : Nat)), (9, .int .i64 (moreB s : Nat)), (10, .int .u64 (beX ((l.drop (p + 1)).take j) 0 : Nat)), (68, .imm b1 1 (moreB s) fun k => bf l (p + 1 + k)), (69, .int .i64 (moreB s : Nat)), (70, .int .i64 (j : Nat))]) (fun _ => []) (fun j => j ≤ moreB s) (fun j => moreB s - j) 0 [] ?_ (fun i hi => vc_ok hΓ mixed 1000 _ [] _ (by kernel_rfl) rfl ?_)
      · conv => whnf
        repeat' (first | (refine And.intro (fun _ => ?_) (fun _ => ?_) <;> conv => whnf) | (refine And.intro ?_ ?_ <;> conv => whnf))
        all_goals try first | exact ⟨rfl⟩ | exact ⟨⟨rfl, rfl⟩⟩ | exact ⟨⟨rfl, rfl, rfl⟩⟩ | exact ⟨by omega⟩ | exact ⟨⟨by omega, by omega⟩⟩ | exact ⟨⟨by omega, by omega, by omega⟩⟩ | exact ⟨wrap_id (by omega) (by omega)⟩ | exact ⟨by rw [IntKind.wrap_u64, Int.emod_eq_of_lt (by omega) (by omega)]; rfl⟩ | exact ⟨by rw [wrap_id (by omega) (by omega)]; omega⟩ | exact ⟨fun k _ => by rw [wrap_id (by omega) (by omega)]; exact congrArg (bf l) (by omega)⟩ | exact ⟨shl_more (by omega) (by omega)⟩
      · conv => whnf
        repeat' (first | (refine And.intro (fun _ => ?_) (fun _ => ?_) <;> conv => whnf) | (refine And.intro ?_ ?_ <;> conv => whnf))
        all_goals (try simp only [decide_eq_true_eq, decide_eq_false_iff_not, Int.toNat_natCast, Int.ofNat_lt] at *)
        all_goals try first | exact ⟨rfl⟩ | exact ⟨⟨rfl, rfl⟩⟩ | exact ⟨⟨rfl, rfl, rfl⟩⟩ | exact ⟨by omega⟩ | exact ⟨⟨by omega, by omega⟩⟩ | exact ⟨⟨by omega, by omega, by omega⟩⟩
        · refine ⟨i + 1, [], ?_⟩
          conv => whnf
          repeat' (refine And.intro ?_ ?_ <;> conv => whnf)
          all_goals try first | exact ⟨rfl⟩ | exact ⟨⟨rfl, rfl⟩⟩ | exact ⟨⟨rfl, rfl, rfl⟩⟩ | exact ⟨by omega⟩ | exact ⟨⟨by omega, by omega⟩⟩ | exact ⟨⟨by omega, by omega, by omega⟩⟩ | exact ⟨fun _ _ => rfl⟩ | exact ⟨by rw [stepX_eq, beX_take (by omega)]⟩ | exact ⟨by rw [wrap_id (by omega) (by omega)]; rfl⟩
        have him : i = moreB s := by omega
        rw [← him] at hG hle
        have hxl := beX_lt ((l.drop (p + 1)).take i) 0 (by omega)
        generalize beX ((l.drop (p + 1)).take i) 0 = x at hG hxl ⊢
        rw [if_neg (by omega)] at hG
        refine vc_ok hΓ mixed 1000 _ [] _ (by kernel_rfl) rfl ?_
        conv => whnf
        refine And.intro (fun hb => ?_) (fun hb => ?_)
        · conv => whnf
          repeat' (first | (refine And.intro (fun _ => ?_) (fun _ => ?_) <;> conv => whnf) | (refine And.intro ?_ ?_ <;> conv => whnf))
          rw [if_pos (by have := of_decide_eq_true hb; omega)] at hG
          rw [hG]; exact Ld.refl _
        have hb2 := of_decide_eq_false hb
        rw [if_neg (by omega)] at hG
        conv => whnf
        refine ⟨x, ⟨AE.of (congrArg (V.int .i64) (wrap_id (by omega) (by omega))), trivial⟩, ⟨trivial⟩, ?_⟩
        intro r hr
        replace hr : r = sizeB x := hr
        rw [← hr] at hG
        conv => whnf
        repeat' (first | (refine And.intro (fun _ => ?_) (fun _ => ?_) <;> conv => whnf) | (refine And.intro ?_ ?_ <;> conv => whnf))
        · rename_i hne
          rw [if_pos (by simp at hne; omega)] at hG
          rw [hG]; exact Ld.refl _
        · rename_i hne
          rw [if_neg (by simp at hne; omega)] at hG
          rw [hG, wrap_id (x := (x : Int)) (by omega) (by omega), him]
          exact Ld.refl _
/- Tokens are read. -/
set_option maxRecDepth 100000
open Go Go.DD
def F122 : FSpec := mkG (fun (a : By) => [a.v]) okB (fun a => a.l) (byV false)
theorem f122_ok : FOk Tryz.prog [] 122 F122 := mkG_ok fun a ⟨ha, hn⟩ => by
  refine CP.by1 ha ?_
  generalize a.l = l at hn
  generalize a.b = b1
  have hΓ := ctxOk Tryz.f122.ntmps [] [] (FL.all .nil) (HL.all .nil)
  refine CP_of_OK hΓ Tryz.func122 (c := bodyOf Tryz.f122) rfl (by decide) rfl rfl (by simp) (vc_ok hΓ mixed 1000 _ [] _ (by kernel_rfl) rfl ?_)
  conv => whnf
  intro b hb
  conv => whnf
  repeat' (first | (refine And.intro (fun _ => ?_) (fun _ => ?_) <;> conv => whnf) | (refine And.intro ?_ ?_ <;> conv => whnf))
  · rename_i hb2
    have h0 := List.eq_nil_of_length_eq_zero (hb hb2)
    subst h0
    exact Ld.emp
  refine Or.inl ?_
  conv => whnf
  repeat' (first | (refine And.intro (fun _ => ?_) (fun _ => ?_) <;> conv => whnf) | (refine And.intro ?_ ?_ <;> conv => whnf))
  all_goals try first | exact ⟨rfl⟩ | exact ⟨⟨rfl, rfl⟩⟩ | exact ⟨⟨rfl, rfl, rfl⟩⟩ | exact ⟨by omega⟩ | exact ⟨⟨by omega, by omega⟩⟩ | exact ⟨⟨by omega, by omega, by omega⟩⟩ | exact ⟨⟨by show (0 + l.length) * 1 ≤ _; omega, by omega⟩⟩ | exact ⟨fun _ _ => own_bf _ _⟩
  show Ld (.imm false 1 (0 + l.length) _) _
  rw [Nat.zero_add]
  exact Ld.imm fun k hk => (if_neg (Nat.not_lt_zero _)).trans (congrArg (bf l) (by omega))
/-- What a parser has: where it is, the tokens that it read, whether they are none. -/
structure PS where
  i : Nat
  ts : List Tk
  bad : Bool
def tkV (t : Tk) : V := .st (.cons (.int .i64 t.kind) (.cons (.int .i64 t.n) (.cons (byV false t.l) .nil)))
def tksV (ts : List Tk) (k : Nat) : V := tkV (lTk ts k)
def psV (b1 : Bool) (b : List UInt8) (s : PS) (j : Nat) : V := .st (.cons (byV b1 b) (.cons (.int .i64 (s.i : Nat)) (.cons (.sl j [] 3 0 s.ts.length s.ts.length) (.cons (.bool s.bad) .nil))))
def psH (b1 : Bool) (b : List UInt8) (s : PS) : Heap := [some (psV b1 b s 1), some (.row 3 s.ts.length (tksV s.ts))]
structure PaA where
  b1 : Bool
  b : List UInt8
  s : PS
  n : Int
def partB (b : List UInt8) (s : PS) (n : Int) : PS := if (b.length : Int) - s.i < n then { s with bad := true } else { s with i := s.i + n.toNat }
def partL (b : List UInt8) (s : PS) (n : Int) : List UInt8 := if (b.length : Int) - s.i < n then [] else (b.drop s.i).take n.toNat
theorem pln_tks (ts : List Tk) (k : Nat) : pln (tksV ts k) := by simp [tksV, tkV, byV, bf, pln, plns]
theorem bf_part (b : List UInt8) {i m k : Nat} (hk : k < m) : bf ((b.drop i).take m) k = bf b (i + k) := by
  simp [bf, List.getD_eq_getElem?_getD, List.getElem?_take, List.getElem?_drop, hk]
def H97 : SpecH := mkHS (fun (x : PaA) => [.ref 0 [], .int .i64 x.n]) (fun x => psH x.b1 x.b x.s) (fun x => x.b.length ≤ 1000000 ∧ x.s.i ≤ x.b.length ∧ 0 ≤ x.n ∧ x.n ≤ 9223372036854775807) (fun x => byV false (partL x.b x.s x.n)) (fun x => psH x.b1 x.b (partB x.b x.s x.n))
theorem c97_ok : CtxOk Tryz.prog (ctx Tryz.f97.ntmps [(122, F122)] []) := ctxOk Tryz.f97.ntmps [(122, F122)] [] (FL.all (.cons f122_ok .nil)) (HL.all .nil)
def S97 : SpecH := fun xs h κ => xs.length = 2 ∧ inlineS Tryz.prog (ctx Tryz.f97.ntmps [(122, F122)] []) (bodyOf Tryz.f97) Tryz.f97.results.toList xs h κ
theorem s97_ok : SpecHOk Tryz.prog [] 97 S97 := inline_ok (c := bodyOf Tryz.f97) (np := 2) c97_ok Tryz.func97 rfl (by decide) rfl (by decide)
theorem h97_ok : SpecHOk Tryz.prog [] 97 H97 := mkHS_ok s97_ok (fun ⟨b1, b, s, n⟩ κ ⟨hb, hi, h0, hn⟩ h => by
  refine ⟨rfl, ?_⟩
  replace hb : b.length ≤ 1000000 := hb
  replace hi : s.i ≤ b.length := hi
  replace h0 : 0 ≤ n := h0
  replace hn : n ≤ 9223372036854775807 := hn
  refine vc_ok (CtxOk.inner c97_ok _) mixed 1000 _ [] _ (by kernel_rfl) rfl ?_
  conv => whnf
  refine And.intro (fun hp => ?_) (fun hp => ?_)
  · have hlt : (b.length : Int) - s.i < n := by
      have := of_decide_eq_true hp
      rwa [wrap_id (by omega) (by omega)] at this
    have e1 : partL b s n = [] := if_pos hlt
    have e2 : partB b s n = { s with bad := true } := if_pos hlt
    replace h : κ (byV false (partL b s n)) (psH b1 b (partB b s n)) := h
    rw [e1, e2] at h
    conv => whnf
    repeat' (first | (refine And.intro (fun _ => ?_) (fun _ => ?_) <;> conv => whnf) | (refine And.intro ?_ ?_ <;> conv => whnf))
    refine ⟨[some 0, some 1], byV false [], psH b1 b { s with bad := true }, ?_⟩
    conv => whnf
    repeat' (refine And.intro ?_ ?_ <;> conv => whnf)
    all_goals try first | exact ⟨rfl⟩ | exact ⟨⟨rfl, rfl⟩⟩ | exact ⟨⟨rfl, rfl, rfl⟩⟩ | exact ⟨by omega⟩ | exact ⟨⟨by omega, by omega⟩⟩ | exact ⟨⟨by omega, by omega, by omega⟩⟩ | exact ⟨fun _ _ => rfl⟩ | exact ⟨fun k _ => leV_refl _ (pln_tks _ _)⟩
    exact h
  · have hge : ¬ (b.length : Int) - s.i < n := by
      have := of_decide_eq_false hp
      rwa [wrap_id (by omega) (by omega)] at this
    have e1 : partL b s n = (b.drop s.i).take n.toNat := if_neg hge
    have e2 : partB b s n = { s with i := s.i + n.toNat } := if_neg hge
    have ew : IntKind.i64.wrap ((s.i : Int) + n) = ((s.i + n.toNat : Nat) : Int) := by rw [wrap_id (by omega) (by omega)]; omega
    replace h : κ (byV false (partL b s n)) (psH b1 b (partB b s n)) := h
    rw [e1, e2] at h
    have hlen : ((b.drop s.i).take n.toNat).length = n.toNat := by simp; omega
    conv => whnf
    repeat' (first | (refine And.intro (fun _ => ?_) (fun _ => ?_) <;> conv => whnf) | (refine And.intro ?_ ?_ <;> conv => whnf))
    · exact ⟨by show (0 : Int) ≤ s.i ∧ (s.i : Int) ≤ IntKind.i64.wrap ((s.i : Int) + n) ∧ IntKind.i64.wrap ((s.i : Int) + n) ≤ b.length; rw [ew]; omega⟩
    refine ⟨.of b1 ((b.drop s.i).take n.toNat), ⟨AE.imm' ?_ ?_, trivial⟩, ⟨trivial, by show ((b.drop s.i).take n.toNat).length ≤ 1000000; omega⟩, ?_⟩
    · show (IntKind.i64.wrap ((s.i : Int) + n)).toNat - (s.i : Int).toNat = ((b.drop s.i).take n.toNat).length
      rw [ew, hlen, Int.toNat_natCast, Int.toNat_natCast]; omega
    · intro k hk
      replace hk : k < ((b.drop s.i).take n.toNat).length := hk
      exact (bf_part b (by omega)).symm
    intro r hr
    replace hr : r = (b.drop s.i).take n.toNat := hr
    rw [← hr] at h
    conv => whnf
    repeat' (first | (refine And.intro (fun _ => ?_) (fun _ => ?_) <;> conv => whnf) | (refine And.intro ?_ ?_ <;> conv => whnf))
    refine ⟨[some 0, some 1], byV false r, psH b1 b { s with i := s.i + n.toNat }, ?_⟩
    conv => whnf
    repeat' (refine And.intro ?_ ?_ <;> conv => whnf)
    all_goals try first | exact ⟨rfl⟩ | exact ⟨⟨rfl, rfl⟩⟩ | exact ⟨⟨rfl, rfl, rfl⟩⟩ | exact ⟨by omega⟩ | exact ⟨⟨by omega, by omega⟩⟩ | exact ⟨⟨by omega, by omega, by omega⟩⟩ | exact ⟨fun _ _ => rfl⟩ | exact ⟨fun k _ => leV_refl _ (pln_tks _ _)⟩ | exact ⟨ew⟩
    exact h
  ) (fun _ => by simp [psH]) (fun _ => by simp [rok, roks, byV]) (fun x u hu => by
    simp [psH] at hu
    rcases hu with rfl | rfl
    · simp [psV, rok, roks, byV]
    · simp only [rok]
      intro k _
      simp [tksV, tkV, byV, noref, norefs])
/- An item is read. -/
set_option maxRecDepth 100000
open Go Go.DD
def pushT (s : PS) (t : Tk) : PS := { s with ts := s.ts ++ [t] }
def pRep (f : PS → PS) : Nat → PS → PS | 0, s => s | n + 1, s => if s.bad then s else pRep f n (f s)
def pBad (s : PS) : PS := { s with bad := true }
def pGo (s : PS) (g : GtR) : PS := { s with i := g.next.toNat }
/-- What stands behind an item's head. -/
def pBody (b : List UInt8) (f : PS → PS) (s : PS) (g : GtR) : PS :=
  if g.major = 0 then pushT s ⟨1, g.n, false, []⟩
  else if g.major = 1 then pushT s ⟨2, g.n, false, []⟩
  else if g.major = 2 then pushT (partB b s g.n) ⟨3, 0, false, partL b s g.n⟩
  else if g.major = 3 then pushT (partB b s g.n) ⟨4, 0, false, partL b s g.n⟩
  else if g.major = 4 then pRep f g.n.toNat (pushT s ⟨5, g.n, false, []⟩)
  else if g.major = 5 then pRep f (2 * min g.n.toNat 65) (pushT s ⟨6, g.n, false, []⟩)
  else pBad s
def pItem (b : List UInt8) : Nat → PS → PS
  | 0, s => pBad s
  | k + 1, s => if s.bad = true ∨ (getR b s.i).err ≠ 0 ∨ 600 ≤ s.ts.length then pBad s else pBody b (pItem b k) (pGo s (getR b s.i)) (getR b s.i)
structure GtOk (b : List UInt8) (g : GtR) : Prop where
  n0 : 0 ≤ g.n
  n1 : g.n ≤ 9223372036854775807
  nx0 : 0 ≤ g.next
  nx1 : g.next ≤ b.length
  m0 : 0 ≤ g.major
theorem getR_ok {b : List UInt8} {i : Nat} (hi : i ≤ b.length) : GtOk b (getR b i) := by
  have hbad : GtOk b getBad := ⟨by decide, by decide, by decide, by simp [getBad], by decide⟩
  unfold getR
  generalize beX _ _ = x
  split
  · exact hbad
  · split
    · exact hbad
    · rename_i h
      split
      · exact hbad
      · rename_i h2
        split
        · exact hbad
        · refine ⟨?_, ?_, ?_, ?_, ?_⟩
          · show (0 : Int) ≤ (x : Int); omega
          · show (x : Int) ≤ 9223372036854775807; omega
          · show (0 : Int) ≤ ((i + 1 + moreB ((b.getD i 0).toNat % 32) : Nat) : Int); omega
          · show ((i + 1 + moreB ((b.getD i 0).toNat % 32) : Nat) : Int) ≤ b.length; omega
          · show (0 : Int) ≤ (((b.getD i 0).toNat / 32 : Nat) : Int); omega
structure PInv (b : List UInt8) (s : PS) : Prop where
  i : s.i ≤ b.length
  ts : s.ts.length ≤ 600
theorem partB_ts (b : List UInt8) (s : PS) (n : Int) : (partB b s n).ts = s.ts := by unfold partB; split <;> rfl
theorem partB_i {b : List UInt8} {s : PS} {n : Int} (h0 : 0 ≤ n) (hi : s.i ≤ b.length) : (partB b s n).i ≤ b.length := by
  unfold partB
  split
  · exact hi
  · show s.i + n.toNat ≤ b.length
    omega
theorem pRep_inv {b : List UInt8} {f : PS → PS} (hf : ∀ s, PInv b s → PInv b (f s)) : ∀ (n : Nat) (s : PS), PInv b s → PInv b (pRep f n s)
  | 0, s, h => h
  | n + 1, s, h => by
    simp only [pRep]
    split
    · exact h
    · exact pRep_inv hf n _ (hf s h)
theorem pushT_inv {b : List UInt8} {s : PS} {t : Tk} (hi : s.i ≤ b.length) (h : s.ts.length < 600) : PInv b (pushT s t) := ⟨hi, by simp [pushT]; omega⟩
theorem pBody_inv {b : List UInt8} {f : PS → PS} {s : PS} {g : GtR} (hf : ∀ s, PInv b s → PInv b (f s)) (hg : GtOk b g) (hi : s.i ≤ b.length) (h : s.ts.length < 600) : PInv b (pBody b f s g) := by
  unfold pBody
  split
  · exact pushT_inv hi h
  split
  · exact pushT_inv hi h
  split
  · exact pushT_inv (partB_i hg.n0 hi) (by rw [partB_ts]; exact h)
  split
  · exact pushT_inv (partB_i hg.n0 hi) (by rw [partB_ts]; exact h)
  split
  · exact pRep_inv hf _ _ (pushT_inv hi h)
  split
  · exact pRep_inv hf _ _ (pushT_inv hi h)
  · exact ⟨hi, by show s.ts.length ≤ 600; omega⟩
theorem pItem_inv (b : List UInt8) : ∀ (k : Nat) (s : PS), PInv b s → PInv b (pItem b k s)
  | 0, s, h => ⟨h.i, h.ts⟩
  | k + 1, s, h => by
    simp only [pItem]
    split
    · exact ⟨h.i, h.ts⟩
    · rename_i hn
      have hg := getR_ok h.i
      exact pBody_inv (pItem_inv b k) hg (by show (getR b s.i).next.toNat ≤ b.length; have := hg.nx1; omega) (by show s.ts.length < 600; omega)
def psH' (b1 : Bool) (b : List UInt8) (s : PS) : Heap := [some (psV b1 b s 2), none, some (.row 3 s.ts.length (tksV s.ts))]
theorem psH'_rok (b1 : Bool) (b : List UInt8) (s : PS) (u : V) (h : some u ∈ psH' b1 b s) : rok u := by
  simp [psH'] at h
  rcases h with rfl | rfl
  · simp [psV, rok, roks, byV]
  · simp only [rok]
    intro k _
    simp [tksV, tkV, byV, noref, norefs]
theorem pRep_bad {f : PS → PS} {s : PS} (h : s.bad = true) : ∀ n, pRep f n s = s
  | 0 => rfl
  | n + 1 => by simp [pRep, h]
theorem tks_lt {ts : List Tk} {t : Tk} {k : Nat} (h : k < ts.length) : tksV (ts ++ [t]) k = tksV ts k := by
  simp [tksV, lTk, List.getD_eq_getElem?_getD, List.getElem?_append_left h]
theorem tks_eq (ts : List Tk) (t : Tk) : tksV (ts ++ [t]) ts.length = tkV t := by
  simp [tksV, lTk, List.getD_eq_getElem?_getD]
theorem leV_app {m : List (Option Nat)} {ts : List Tk} {t : Tk} {F : Nat → V} (h1 : ∀ k, k < ts.length → F k = tksV ts k) (h2 : leV m (F ts.length) (tkV t)) : ∀ k, k < (ts ++ [t]).length → leV m (F k) (tksV (ts ++ [t]) k) := fun k hk => by
  by_cases h : k < ts.length
  · rw [h1 k h, tks_lt h]; exact leV_refl _ (pln_tks _ _)
  · obtain rfl : k = ts.length := by simp at hk; omega
    rw [tks_eq]; exact h2
theorem pln_tkV (t : Tk) : pln (tkV t) := by simp [tkV, byV, bf, pln, plns]
def newT (kind n : Int) : V := .st (.cons (.int .i64 kind) (.cons (.int .i64 n) (.cons .emp .nil)))
theorem leV_newT (m : List (Option Nat)) (kind n : Int) (lent : Bool) : leV m (newT kind n) (tkV ⟨kind, n, lent, []⟩) := by
  simp only [newT, tkV, leV]
  refine ⟨_, rfl, ?_⟩
  simp only [leVs, leV, byV]
  exact ⟨trivial, trivial, .inl (by simp), trivial⟩
theorem leV_is {m : List (Option Nat)} {v v' u : V} (h : v = v') (h' : leV m v' u) : leV m v u := h ▸ h'
structure PiA where
  b1 : Bool
  b : List UInt8
  s : PS
def H60 (k : Nat) : SpecH := mkHS (fun (x : PiA) => [.ref 0 [], .int .i64 (8 - (k : Nat))]) (fun x => psH x.b1 x.b x.s) (fun x => x.b.length ≤ 1000000 ∧ PInv x.b x.s ∧ k ≤ 8) (fun _ => .tup .nil) (fun x => psH' x.b1 x.b (pItem x.b k x.s))
def ex60 : List (Nat × Plan) := [(12, .one 0 (.one 1 (.one 2 (.one 3 (.one 5 (.one 6 (.many (.cons 4 (.one 7 (.one 8 (.one 9 (.one 10 (.one 11 (.one 12 (.one 13 (.done)))))))) (.cons 7 (.one 8 (.many (.cons 4 (.one 9 (.one 10 (.one 11 (.one 12 (.one 13 (.done)))))) (.cons 9 (.one 4 (.one 10 (.one 11 (.one 12 (.one 13 (.done)))))) (.nil))))) (.nil)))))))))), (14, .one 0 (.one 1 (.one 2 (.one 3 (.one 5 (.one 6 (.many (.cons 4 (.one 7 (.one 8 (.one 9 (.one 10 (.one 11 (.one 12 (.one 13 (.done)))))))) (.cons 7 (.one 8 (.many (.cons 4 (.one 9 (.one 10 (.one 11 (.one 12 (.one 13 (.done)))))) (.cons 9 (.one 4 (.one 10 (.one 11 (.one 12 (.one 13 (.done)))))) (.nil))))) (.nil))))))))))]
def S60 (S : SpecH) : SpecH := fun xs h κ => xs.length = 2 ∧ inlineS Tryz.prog (ctxG Tryz.f60.ntmps [(96, F96)] [(97, H97), (60, S)] ex60) (bodyOf Tryz.f60) Tryz.f60.results.toList xs h κ
theorem c60_ok {S : SpecH} (hS : SpecHOk Tryz.prog G 60 S) : CtxOk Tryz.prog (ctxG Tryz.f60.ntmps [(96, F96)] [(97, H97), (60, S)] ex60) := ctxG_ok _ _ _ _ (.cons f96_ok.g .nil) (.cons (hg h97_ok) (.cons hS .nil))
theorem s60_ok {S : SpecH} (hS : SpecHOk Tryz.prog G 60 S) : SpecHOk Tryz.prog G 60 (S60 S) := inline_ok (c := bodyOf Tryz.f60) (np := 2) (c60_ok hS) Tryz.func60 rfl (by decide) rfl (by decide)
theorem h60_zero : SpecHOk Tryz.prog G 60 (H60 0) := mkHS_ok (s60_ok (noS_ok 60)) (fun ⟨b1, b, s⟩ κ ⟨hb, hs, _⟩ h => by
  refine ⟨rfl, ?_⟩
  replace hb : b.length ≤ 1000000 := hb
  replace hs : PInv b s := hs
  replace h : κ (.tup .nil) (psH' b1 b (pBad s)) := h
  refine vc_ok (CtxOk.inner (c60_ok (noS_ok 60)) _) mixed 1000 _ [] _ (by kernel_rfl) rfl ?_
  conv => whnf
  refine ⟨⟨.of b1 b, s.i⟩, ⟨AE.refl _, AE.refl _, trivial⟩, ⟨⟨trivial, hb⟩, hs.i⟩, ?_⟩
  intro g hg
  replace hg : g = getR b s.i := hg
  conv => whnf
  repeat' (first | (refine And.intro (fun hp => ?_) (fun hp => ?_) <;> first | (exfalso; revert hp; simp; done) | conv => whnf) | (refine And.intro ?_ ?_ <;> conv => whnf))
  · refine ⟨[some 0, some 1, some 1], .tup .nil, psH' b1 b (pBad s), ?_⟩
    conv => whnf
    repeat' (refine And.intro ?_ ?_ <;> conv => whnf)
    all_goals try first | exact ⟨rfl⟩ | exact ⟨⟨rfl, rfl⟩⟩ | exact ⟨⟨rfl, rfl, rfl⟩⟩ | exact ⟨by omega⟩ | exact ⟨⟨by omega, by omega⟩⟩ | exact ⟨⟨by omega, by omega, by omega⟩⟩ | exact ⟨fun _ _ => rfl⟩ | exact ⟨fun k _ => leV_refl _ (pln_tks _ _)⟩
    exact h
  · refine ⟨[some 0, some 1, some 1], .tup .nil, psH' b1 b (pBad s), ?_⟩
    conv => whnf
    repeat' (refine And.intro ?_ ?_ <;> conv => whnf)
    all_goals try first | exact ⟨rfl⟩ | exact ⟨⟨rfl, rfl⟩⟩ | exact ⟨⟨rfl, rfl, rfl⟩⟩ | exact ⟨by omega⟩ | exact ⟨⟨by omega, by omega⟩⟩ | exact ⟨⟨by omega, by omega, by omega⟩⟩ | exact ⟨fun _ _ => rfl⟩ | exact ⟨fun k _ => leV_refl _ (pln_tks _ _)⟩
    exact h
  · refine ⟨[some 0, some 1, some 1], .tup .nil, psH' b1 b (pBad s), ?_⟩
    conv => whnf
    repeat' (refine And.intro ?_ ?_ <;> conv => whnf)
    all_goals try first | exact ⟨rfl⟩ | exact ⟨⟨rfl, rfl⟩⟩ | exact ⟨⟨rfl, rfl, rfl⟩⟩ | exact ⟨by omega⟩ | exact ⟨⟨by omega, by omega⟩⟩ | exact ⟨⟨by omega, by omega, by omega⟩⟩ | exact ⟨fun _ _ => rfl⟩ | exact ⟨fun k _ => leV_refl _ (pln_tks _ _)⟩
    exact h
  · refine ⟨[some 0, some 1, some 1], .tup .nil, psH' b1 b (pBad s), ?_⟩
    conv => whnf
    repeat' (refine And.intro ?_ ?_ <;> conv => whnf)
    all_goals try first | exact ⟨rfl⟩ | exact ⟨⟨rfl, rfl⟩⟩ | exact ⟨⟨rfl, rfl, rfl⟩⟩ | exact ⟨by omega⟩ | exact ⟨⟨by omega, by omega⟩⟩ | exact ⟨⟨by omega, by omega, by omega⟩⟩ | exact ⟨fun _ _ => rfl⟩ | exact ⟨fun k _ => leV_refl _ (pln_tks _ _)⟩
    exact h
  ) (fun _ => by simp [psH, psH']) (fun _ => by simp [rok, roks]) (fun x u hu => psH'_rok _ _ _ u hu)
set_option maxHeartbeats 8000000 in
theorem h60_succ (k : Nat) (hS : SpecHOk Tryz.prog G 60 (H60 k)) : SpecHOk Tryz.prog G 60 (H60 (k + 1)) := mkHS_ok (s60_ok hS) (fun ⟨b1, b, s⟩ κ ⟨hb, hs, hk⟩ h => by
  refine ⟨rfl, ?_⟩
  replace hb : b.length ≤ 1000000 := hb
  replace hs : PInv b s := hs
  replace hk : k + 1 ≤ 8 := hk
  replace h : κ (.tup .nil) (psH' b1 b (pItem b (k + 1) s)) := h
  have hgo := getR_ok hs.i
  refine vc_ok (CtxOk.inner (c60_ok hS) _) mixed 1000 _ [] _ (by kernel_rfl) rfl ?_
  conv => whnf
  refine ⟨⟨.of b1 b, s.i⟩, ⟨AE.refl _, AE.refl _, trivial⟩, ⟨⟨trivial, hb⟩, hs.i⟩, ?_⟩
  intro g hg
  replace hg : g = getR b s.i := hg
  rw [← hg] at hgo
  have hbad : (s.bad = true ∨ g.err ≠ 0 ∨ 600 ≤ s.ts.length) → κ (.tup .nil) (psH' b1 b (pBad s)) := fun hc => by
    have e : pItem b (k + 1) s = pBad s := if_pos (by rw [← hg]; exact hc)
    rwa [e] at h
  have hgood : ¬ (s.bad = true ∨ g.err ≠ 0 ∨ 600 ≤ s.ts.length) → κ (.tup .nil) (psH' b1 b (pBody b (pItem b k) (pGo s g) g)) := fun hc => by
    have e : pItem b (k + 1) s = pBody b (pItem b k) (pGo s g) g := by
      show (if _ then _ else _) = _
      rw [← hg, if_neg hc]
    rwa [e] at h
  clear h
  conv => whnf
  repeat' (first | (refine And.intro (fun hp => ?_) (fun hp => ?_) <;> first | (exfalso; revert hp; (intro hp; simp only [decide_eq_true_eq] at hp; omega); done) | conv => whnf) | (refine And.intro ?_ ?_ <;> conv => whnf))
  · replace h := hbad (.inl hp)
    refine ⟨[some 0, some 1, some 1], .tup .nil, psH' b1 b (pBad s), ?_⟩
    conv => whnf
    repeat' (refine And.intro ?_ ?_ <;> conv => whnf)
    all_goals try first | exact ⟨rfl⟩ | exact ⟨⟨rfl, rfl⟩⟩ | exact ⟨⟨rfl, rfl, rfl⟩⟩ | exact ⟨by omega⟩ | exact ⟨⟨by omega, by omega⟩⟩ | exact ⟨⟨by omega, by omega, by omega⟩⟩ | exact ⟨fun _ _ => rfl⟩ | exact ⟨fun k _ => leV_refl _ (pln_tks _ _)⟩
    exact h
  · replace h := hbad (.inr (.inl (by simpa using hp)))
    refine ⟨[some 0, some 1, some 1], .tup .nil, psH' b1 b (pBad s), ?_⟩
    conv => whnf
    repeat' (refine And.intro ?_ ?_ <;> conv => whnf)
    all_goals try first | exact ⟨rfl⟩ | exact ⟨⟨rfl, rfl⟩⟩ | exact ⟨⟨rfl, rfl, rfl⟩⟩ | exact ⟨by omega⟩ | exact ⟨⟨by omega, by omega⟩⟩ | exact ⟨⟨by omega, by omega, by omega⟩⟩ | exact ⟨fun _ _ => rfl⟩ | exact ⟨fun k _ => leV_refl _ (pln_tks _ _)⟩
    exact h
  · replace h := hbad (.inr (.inr (by have h3 : (600 : Int) ≤ s.ts.length := of_decide_eq_true hp; omega)))
    refine ⟨[some 0, some 1, some 1], .tup .nil, psH' b1 b (pBad s), ?_⟩
    conv => whnf
    repeat' (refine And.intro ?_ ?_ <;> conv => whnf)
    all_goals try first | exact ⟨rfl⟩ | exact ⟨⟨rfl, rfl⟩⟩ | exact ⟨⟨rfl, rfl, rfl⟩⟩ | exact ⟨by omega⟩ | exact ⟨⟨by omega, by omega⟩⟩ | exact ⟨⟨by omega, by omega, by omega⟩⟩ | exact ⟨fun _ _ => rfl⟩ | exact ⟨fun k _ => leV_refl _ (pln_tks _ _)⟩
    exact h
  all_goals (try exact trivial)
  all_goals (try exact ⟨by omega⟩)
  rename_i e1 e2 e3 e4
  have hn3 : ¬ (600 : Int) ≤ s.ts.length := of_decide_eq_false e3
  have h := hgood (fun hc => hc.elim (fun q => by rw [show s.bad = false from e1] at q; cases q) fun q => q.elim (fun q => by simp at e2; exact q e2) fun q => by omega)
  have hm : g.major = 0 := by simpa using hp
  have e : pBody b (pItem b k) (pGo s g) g = pRep (pItem b k) (0) (pushT (pGo s g) ⟨1, g.n, false, []⟩) := by simp only [pBody, hm]; rfl
  rw [e] at h
  have hinv : PInv b (pushT (pGo s g) ⟨1, g.n, false, []⟩) := pushT_inv (by show g.next.toNat ≤ b.length; have := hgo.nx1; omega) (by show s.ts.length < 600; omega)
  refine Or.inl ?_
  conv => whnf
  repeat' (first | (refine And.intro (fun _ => ?_) (fun _ => ?_) <;> conv => whnf) | (refine And.intro ?_ ?_ <;> conv => whnf))
  all_goals try first | exact ⟨rfl⟩ | exact ⟨⟨rfl, rfl⟩⟩ | exact ⟨⟨rfl, rfl, rfl⟩⟩ | exact ⟨by omega⟩ | exact ⟨⟨by omega, by omega⟩⟩ | exact ⟨⟨by omega, by omega, by omega⟩⟩ | exact ⟨⟨by show (s.ts.length + 1) * 40 ≤ _; omega, by show s.ts.length + 1 ≤ _; omega⟩⟩
  have hnext : g.next = (((pushT (pGo s g) ⟨1, g.n, false, []⟩).i : Nat) : Int) := by show g.next = ((g.next.toNat : Nat) : Int); have := hgo.nx0; omega
  have hN : (0 : Int) = (((0) : Nat) : Int) := rfl
  have hlen : s.ts.length + 1 = (pushT (pGo s g) ⟨1, g.n, false, []⟩).ts.length := by simp [pushT, pGo]
  have h1 : κ (.tup .nil) (psH' b1 b (pRep (pItem b k) (0) (pushT (pGo s g) ⟨1, g.n, false, []⟩))) := h
  have hI : PInv b (pushT (pGo s g) ⟨1, g.n, false, []⟩) := hinv
  generalize hs0 : (pushT (pGo s g) ⟨1, g.n, false, []⟩) = s0 at h1 hI hlen hnext
  obtain ⟨N, hNN⟩ : ∃ N : Nat, N = (0) := ⟨_, rfl⟩
  replace h1 : κ (.tup .nil) (psH' b1 b (pRep (pItem b k) N s0)) := by rw [hNN]; exact h1
  replace hN := hN.trans (congrArg (fun q : Nat => (q : Int)) hNN.symm)
  have hN' : (N : Int) ≤ 9223372036854775807 := by have := hgo.n1; have := hgo.n0; omega
  refine OK_weakC [some 0, some 1, some 3] [(0, .ref 0 []), (1, .int .i64 (8 - ((k + 1 : Nat) : Int))), (8, .int .i64 ((N : Nat) : Int)), (9, .int .i64 0)] (psH' b1 b s0) ?_
  conv => whnf
  repeat' (first | (refine And.intro (fun _ => ?_) (fun _ => ?_) <;> conv => whnf) | (refine And.intro ?_ ?_ <;> conv => whnf))
  all_goals try first | exact ⟨rfl⟩ | exact ⟨⟨rfl, rfl⟩⟩ | exact ⟨⟨rfl, rfl, rfl⟩⟩ | exact ⟨by omega⟩ | exact ⟨⟨by omega, by omega⟩⟩ | exact ⟨⟨by omega, by omega, by omega⟩⟩ | exact ⟨fun _ _ => rfl⟩ | exact ⟨hnext⟩ | exact ⟨⟨rfl, hlen, hlen⟩⟩ | exact ⟨hlen⟩ | exact ⟨hN⟩ | exact ⟨by subst hs0; rfl⟩
  · subst hs0
    exact ⟨leV_app (ts := s.ts) (fun k hk => if_pos hk) (leV_is ((if_neg (Nat.lt_irrefl _)).trans (by simp only [Nat.sub_self]; rfl)) (leV_newT _ 1 g.n false))⟩
  rotate_left
  rename_i e1 e2 e3 e4 m0
  have hn3 : ¬ (600 : Int) ≤ s.ts.length := of_decide_eq_false e3
  have h := hgood (fun hc => hc.elim (fun q => by rw [show s.bad = false from e1] at q; cases q) fun q => q.elim (fun q => by simp at e2; exact q e2) fun q => by omega)
  have hm : g.major = 1 := by simpa using hp
  have e : pBody b (pItem b k) (pGo s g) g = pRep (pItem b k) (0) (pushT (pGo s g) ⟨2, g.n, false, []⟩) := by simp only [pBody, hm]; rfl
  rw [e] at h
  have hinv : PInv b (pushT (pGo s g) ⟨2, g.n, false, []⟩) := pushT_inv (by show g.next.toNat ≤ b.length; have := hgo.nx1; omega) (by show s.ts.length < 600; omega)
  refine Or.inl ?_
  conv => whnf
  repeat' (first | (refine And.intro (fun _ => ?_) (fun _ => ?_) <;> conv => whnf) | (refine And.intro ?_ ?_ <;> conv => whnf))
  all_goals try first | exact ⟨rfl⟩ | exact ⟨⟨rfl, rfl⟩⟩ | exact ⟨⟨rfl, rfl, rfl⟩⟩ | exact ⟨by omega⟩ | exact ⟨⟨by omega, by omega⟩⟩ | exact ⟨⟨by omega, by omega, by omega⟩⟩ | exact ⟨⟨by show (s.ts.length + 1) * 40 ≤ _; omega, by show s.ts.length + 1 ≤ _; omega⟩⟩
  have hnext : g.next = (((pushT (pGo s g) ⟨2, g.n, false, []⟩).i : Nat) : Int) := by show g.next = ((g.next.toNat : Nat) : Int); have := hgo.nx0; omega
  have hN : (0 : Int) = (((0) : Nat) : Int) := rfl
  have hlen : s.ts.length + 1 = (pushT (pGo s g) ⟨2, g.n, false, []⟩).ts.length := by simp [pushT, pGo]
  have h1 : κ (.tup .nil) (psH' b1 b (pRep (pItem b k) (0) (pushT (pGo s g) ⟨2, g.n, false, []⟩))) := h
  have hI : PInv b (pushT (pGo s g) ⟨2, g.n, false, []⟩) := hinv
  generalize hs0 : (pushT (pGo s g) ⟨2, g.n, false, []⟩) = s0 at h1 hI hlen hnext
  obtain ⟨N, hNN⟩ : ∃ N : Nat, N = (0) := ⟨_, rfl⟩
  replace h1 : κ (.tup .nil) (psH' b1 b (pRep (pItem b k) N s0)) := by rw [hNN]; exact h1
  replace hN := hN.trans (congrArg (fun q : Nat => (q : Int)) hNN.symm)
  have hN' : (N : Int) ≤ 9223372036854775807 := by have := hgo.n1; have := hgo.n0; omega
  refine OK_weakC [some 0, some 1, some 3] [(0, .ref 0 []), (1, .int .i64 (8 - ((k + 1 : Nat) : Int))), (8, .int .i64 ((N : Nat) : Int)), (9, .int .i64 0)] (psH' b1 b s0) ?_
  conv => whnf
  repeat' (first | (refine And.intro (fun _ => ?_) (fun _ => ?_) <;> conv => whnf) | (refine And.intro ?_ ?_ <;> conv => whnf))
  all_goals try first | exact ⟨rfl⟩ | exact ⟨⟨rfl, rfl⟩⟩ | exact ⟨⟨rfl, rfl, rfl⟩⟩ | exact ⟨by omega⟩ | exact ⟨⟨by omega, by omega⟩⟩ | exact ⟨⟨by omega, by omega, by omega⟩⟩ | exact ⟨fun _ _ => rfl⟩ | exact ⟨hnext⟩ | exact ⟨⟨rfl, hlen, hlen⟩⟩ | exact ⟨hlen⟩ | exact ⟨hN⟩ | exact ⟨by subst hs0; rfl⟩
  · subst hs0
    exact ⟨leV_app (ts := s.ts) (fun k hk => if_pos hk) (leV_is ((if_neg (Nat.lt_irrefl _)).trans (by simp only [Nat.sub_self]; rfl)) (leV_newT _ 2 g.n false))⟩
  rotate_left
  rename_i e1 e2 e3 e4 m0 m1
  have hn3 : ¬ (600 : Int) ≤ s.ts.length := of_decide_eq_false e3
  have h := hgood (fun hc => hc.elim (fun q => by rw [show s.bad = false from e1] at q; cases q) fun q => q.elim (fun q => by simp at e2; exact q e2) fun q => by omega)
  have hm : g.major = 2 := by simpa using hp
  have e : pBody b (pItem b k) (pGo s g) g = pRep (pItem b k) 0 (pushT (partB b (pGo s g) g.n) ⟨3, 0, false, partL b (pGo s g) g.n⟩) := by simp only [pBody, hm]; rfl
  rw [e] at h
  have hi2 : (pGo s g).i ≤ b.length := by show g.next.toNat ≤ b.length; have := hgo.nx1; omega
  have hinv : PInv b (pushT (partB b (pGo s g) g.n) ⟨3, 0, false, partL b (pGo s g) g.n⟩) := pushT_inv (partB_i hgo.n0 hi2) (by rw [partB_ts]; show s.ts.length < 600; omega)
  refine ⟨⟨b1, b, pGo s g, g.n⟩, [some 0, some 1], ?_⟩
  conv => whnf
  repeat' (first | (refine And.intro (fun _ => ?_) (fun _ => ?_) <;> conv => whnf) | (refine And.intro ?_ ?_ <;> conv => whnf))
  all_goals try first | exact ⟨rfl⟩ | exact ⟨⟨rfl, rfl⟩⟩ | exact ⟨⟨rfl, rfl, rfl⟩⟩ | exact ⟨by omega⟩ | exact ⟨⟨by omega, by omega⟩⟩ | exact ⟨⟨by omega, by omega, by omega⟩⟩ | exact ⟨fun _ _ => rfl⟩ | exact ⟨fun k _ => leV_refl _ (pln_tks _ _)⟩ | exact ⟨⟨hb, hi2, hgo.n0, hgo.n1⟩⟩ | exact ⟨(Int.toNat_of_nonneg hgo.nx0).symm⟩
  all_goals (try exact trivial)
  refine Or.inl ?_
  conv => whnf
  repeat' (first | (refine And.intro (fun _ => ?_) (fun _ => ?_) <;> conv => whnf) | (refine And.intro ?_ ?_ <;> conv => whnf))
  all_goals try first | exact ⟨rfl⟩ | exact ⟨⟨rfl, rfl⟩⟩ | exact ⟨⟨rfl, rfl, rfl⟩⟩ | exact ⟨by omega⟩ | exact ⟨⟨by omega, by omega⟩⟩ | exact ⟨⟨by omega, by omega, by omega⟩⟩ | exact ⟨⟨by show ((partB b (pGo s g) g.n).ts.length + 1) * 40 ≤ _; rw [partB_ts]; show (s.ts.length + 1) * 40 ≤ _; omega, by show (partB b (pGo s g) g.n).ts.length + 1 ≤ _; rw [partB_ts]; show s.ts.length + 1 ≤ _; omega⟩⟩ | exact ⟨congrArg List.length (partB_ts b (pGo s g) g.n).symm⟩ | exact ⟨⟨by show (s.ts.length + 1) * 40 ≤ _; omega, by show s.ts.length + 1 ≤ _; omega⟩⟩
  have hnext : (((partB b (pGo s g) g.n).i : Nat) : Int) = (((pushT (partB b (pGo s g) g.n) ⟨3, 0, false, partL b (pGo s g) g.n⟩).i : Nat) : Int) := rfl
  have hN : (0 : Int) = (((0 : Nat)) : Int) := rfl
  have hsub : ∀ q : Nat, (partB b (pGo s g) g.n).ts.length - s.ts.length = 0 := fun _ => by rw [partB_ts]; exact Nat.sub_self _
  have hlen : (partB b (pGo s g) g.n).ts.length + 1 = (pushT (partB b (pGo s g) g.n) ⟨3, 0, false, partL b (pGo s g) g.n⟩).ts.length := by simp [pushT]
  have h1 : κ (.tup .nil) (psH' b1 b (pRep (pItem b k) (0) (pushT (partB b (pGo s g) g.n) ⟨3, 0, false, partL b (pGo s g) g.n⟩))) := h
  have hI : PInv b (pushT (partB b (pGo s g) g.n) ⟨3, 0, false, partL b (pGo s g) g.n⟩) := hinv
  generalize hs0 : (pushT (partB b (pGo s g) g.n) ⟨3, 0, false, partL b (pGo s g) g.n⟩) = s0 at h1 hI hlen hnext
  obtain ⟨N, hNN⟩ : ∃ N : Nat, N = (0) := ⟨_, rfl⟩
  replace h1 : κ (.tup .nil) (psH' b1 b (pRep (pItem b k) N s0)) := by rw [hNN]; exact h1
  replace hN := hN.trans (congrArg (fun q : Nat => (q : Int)) hNN.symm)
  have hN' : (N : Int) ≤ 9223372036854775807 := by have := hgo.n1; have := hgo.n0; omega
  refine OK_weakC [some 0, some 1, some 5] [(0, .ref 0 []), (1, .int .i64 (8 - ((k + 1 : Nat) : Int))), (8, .int .i64 ((N : Nat) : Int)), (9, .int .i64 0)] (psH' b1 b s0) ?_
  conv => whnf
  repeat' (first | (refine And.intro (fun _ => ?_) (fun _ => ?_) <;> conv => whnf) | (refine And.intro ?_ ?_ <;> conv => whnf))
  all_goals try first | exact ⟨rfl⟩ | exact ⟨⟨rfl, rfl⟩⟩ | exact ⟨⟨rfl, rfl, rfl⟩⟩ | exact ⟨by omega⟩ | exact ⟨⟨by omega, by omega⟩⟩ | exact ⟨⟨by omega, by omega, by omega⟩⟩ | exact ⟨fun _ _ => rfl⟩ | exact ⟨hnext⟩ | exact ⟨⟨rfl, hlen, hlen⟩⟩ | exact ⟨hlen⟩ | exact ⟨hN⟩ | exact ⟨by subst hs0; rfl⟩
  · subst hs0
    exact ⟨leV_app (ts := (partB b (pGo s g) g.n).ts) (fun k hk => if_pos hk) (leV_is (v' := tkV ⟨3, 0, false, partL b (pGo s g) g.n⟩) ((if_neg (Nat.lt_irrefl _)).trans (by simp only [Nat.sub_self]; rfl)) (leV_refl _ (pln_tkV _)))⟩
  rotate_left
  rename_i e1 e2 e3 e4 m0 m1
  have hn3 : ¬ (600 : Int) ≤ s.ts.length := of_decide_eq_false e3
  have h := hgood (fun hc => hc.elim (fun q => by rw [show s.bad = false from e1] at q; cases q) fun q => q.elim (fun q => by simp at e2; exact q e2) fun q => by omega)
  have hm : g.major = 2 := by simpa using hp
  have e : pBody b (pItem b k) (pGo s g) g = pRep (pItem b k) 0 (pushT (partB b (pGo s g) g.n) ⟨3, 0, false, partL b (pGo s g) g.n⟩) := by simp only [pBody, hm]; rfl
  rw [e] at h
  have hi2 : (pGo s g).i ≤ b.length := by show g.next.toNat ≤ b.length; have := hgo.nx1; omega
  have hinv : PInv b (pushT (partB b (pGo s g) g.n) ⟨3, 0, false, partL b (pGo s g) g.n⟩) := pushT_inv (partB_i hgo.n0 hi2) (by rw [partB_ts]; show s.ts.length < 600; omega)
  refine ⟨⟨b1, b, pGo s g, g.n⟩, [some 0, some 1], ?_⟩
  conv => whnf
  repeat' (first | (refine And.intro (fun _ => ?_) (fun _ => ?_) <;> conv => whnf) | (refine And.intro ?_ ?_ <;> conv => whnf))
  all_goals try first | exact ⟨rfl⟩ | exact ⟨⟨rfl, rfl⟩⟩ | exact ⟨⟨rfl, rfl, rfl⟩⟩ | exact ⟨by omega⟩ | exact ⟨⟨by omega, by omega⟩⟩ | exact ⟨⟨by omega, by omega, by omega⟩⟩ | exact ⟨fun _ _ => rfl⟩ | exact ⟨fun k _ => leV_refl _ (pln_tks _ _)⟩ | exact ⟨⟨hb, hi2, hgo.n0, hgo.n1⟩⟩ | exact ⟨(Int.toNat_of_nonneg hgo.nx0).symm⟩
  all_goals (try exact trivial)
  refine Or.inl ?_
  conv => whnf
  repeat' (first | (refine And.intro (fun _ => ?_) (fun _ => ?_) <;> conv => whnf) | (refine And.intro ?_ ?_ <;> conv => whnf))
  all_goals try first | exact ⟨rfl⟩ | exact ⟨⟨rfl, rfl⟩⟩ | exact ⟨⟨rfl, rfl, rfl⟩⟩ | exact ⟨by omega⟩ | exact ⟨⟨by omega, by omega⟩⟩ | exact ⟨⟨by omega, by omega, by omega⟩⟩ | exact ⟨⟨by show ((partB b (pGo s g) g.n).ts.length + 1) * 40 ≤ _; rw [partB_ts]; show (s.ts.length + 1) * 40 ≤ _; omega, by show (partB b (pGo s g) g.n).ts.length + 1 ≤ _; rw [partB_ts]; show s.ts.length + 1 ≤ _; omega⟩⟩ | exact ⟨congrArg List.length (partB_ts b (pGo s g) g.n).symm⟩ | exact ⟨⟨by show (s.ts.length + 1) * 40 ≤ _; omega, by show s.ts.length + 1 ≤ _; omega⟩⟩
  have hnext : (((partB b (pGo s g) g.n).i : Nat) : Int) = (((pushT (partB b (pGo s g) g.n) ⟨3, 0, false, partL b (pGo s g) g.n⟩).i : Nat) : Int) := rfl
  have hN : (0 : Int) = (((0 : Nat)) : Int) := rfl
  have hsub : ∀ q : Nat, (partB b (pGo s g) g.n).ts.length - s.ts.length = 0 := fun _ => by rw [partB_ts]; exact Nat.sub_self _
  have hlen : (partB b (pGo s g) g.n).ts.length + 1 = (pushT (partB b (pGo s g) g.n) ⟨3, 0, false, partL b (pGo s g) g.n⟩).ts.length := by simp [pushT]
  have h1 : κ (.tup .nil) (psH' b1 b (pRep (pItem b k) (0) (pushT (partB b (pGo s g) g.n) ⟨3, 0, false, partL b (pGo s g) g.n⟩))) := h
  have hI : PInv b (pushT (partB b (pGo s g) g.n) ⟨3, 0, false, partL b (pGo s g) g.n⟩) := hinv
  generalize hs0 : (pushT (partB b (pGo s g) g.n) ⟨3, 0, false, partL b (pGo s g) g.n⟩) = s0 at h1 hI hlen hnext
  obtain ⟨N, hNN⟩ : ∃ N : Nat, N = (0) := ⟨_, rfl⟩
  replace h1 : κ (.tup .nil) (psH' b1 b (pRep (pItem b k) N s0)) := by rw [hNN]; exact h1
  replace hN := hN.trans (congrArg (fun q : Nat => (q : Int)) hNN.symm)
  have hN' : (N : Int) ≤ 9223372036854775807 := by have := hgo.n1; have := hgo.n0; omega
  refine OK_weakC [some 0, some 1, some 5] [(0, .ref 0 []), (1, .int .i64 (8 - ((k + 1 : Nat) : Int))), (8, .int .i64 ((N : Nat) : Int)), (9, .int .i64 0)] (psH' b1 b s0) ?_
  conv => whnf
  repeat' (first | (refine And.intro (fun _ => ?_) (fun _ => ?_) <;> conv => whnf) | (refine And.intro ?_ ?_ <;> conv => whnf))
  all_goals try first | exact ⟨rfl⟩ | exact ⟨⟨rfl, rfl⟩⟩ | exact ⟨⟨rfl, rfl, rfl⟩⟩ | exact ⟨by omega⟩ | exact ⟨⟨by omega, by omega⟩⟩ | exact ⟨⟨by omega, by omega, by omega⟩⟩ | exact ⟨fun _ _ => rfl⟩ | exact ⟨hnext⟩ | exact ⟨⟨rfl, hlen, hlen⟩⟩ | exact ⟨hlen⟩ | exact ⟨hN⟩ | exact ⟨by subst hs0; rfl⟩
  · subst hs0
    exact ⟨leV_app (ts := (partB b (pGo s g) g.n).ts) (fun k hk => if_pos hk) (leV_is (v' := tkV ⟨3, 0, false, partL b (pGo s g) g.n⟩) ((if_neg (Nat.lt_irrefl _)).trans (by simp only [Nat.sub_self]; rfl)) (leV_refl _ (pln_tkV _)))⟩
  rotate_left
  refine Or.inl ?_
  conv => whnf
  repeat' (first | (refine And.intro (fun _ => ?_) (fun _ => ?_) <;> conv => whnf) | (refine And.intro ?_ ?_ <;> conv => whnf))
  all_goals try first | exact ⟨rfl⟩ | exact ⟨⟨rfl, rfl⟩⟩ | exact ⟨⟨rfl, rfl, rfl⟩⟩ | exact ⟨by omega⟩ | exact ⟨⟨by omega, by omega⟩⟩ | exact ⟨⟨by omega, by omega, by omega⟩⟩ | exact ⟨⟨by show ((partB b (pGo s g) g.n).ts.length + 1) * 40 ≤ _; rw [partB_ts]; show (s.ts.length + 1) * 40 ≤ _; omega, by show (partB b (pGo s g) g.n).ts.length + 1 ≤ _; rw [partB_ts]; show s.ts.length + 1 ≤ _; omega⟩⟩ | exact ⟨congrArg List.length (partB_ts b (pGo s g) g.n).symm⟩ | exact ⟨⟨by show (s.ts.length + 1) * 40 ≤ _; omega, by show s.ts.length + 1 ≤ _; omega⟩⟩
  have hnext : (((partB b (pGo s g) g.n).i : Nat) : Int) = (((pushT (partB b (pGo s g) g.n) ⟨3, 0, false, partL b (pGo s g) g.n⟩).i : Nat) : Int) := rfl
  have hN : (0 : Int) = (((0 : Nat)) : Int) := rfl
  have hsub : ∀ q : Nat, (partB b (pGo s g) g.n).ts.length - s.ts.length = 0 := fun _ => by rw [partB_ts]; exact Nat.sub_self _
  have hlen : (partB b (pGo s g) g.n).ts.length + 1 = (pushT (partB b (pGo s g) g.n) ⟨3, 0, false, partL b (pGo s g) g.n⟩).ts.length := by simp [pushT]
  have h1 : κ (.tup .nil) (psH' b1 b (pRep (pItem b k) (0) (pushT (partB b (pGo s g) g.n) ⟨3, 0, false, partL b (pGo s g) g.n⟩))) := h
  have hI : PInv b (pushT (partB b (pGo s g) g.n) ⟨3, 0, false, partL b (pGo s g) g.n⟩) := hinv
  generalize hs0 : (pushT (partB b (pGo s g) g.n) ⟨3, 0, false, partL b (pGo s g) g.n⟩) = s0 at h1 hI hlen hnext
  obtain ⟨N, hNN⟩ : ∃ N : Nat, N = (0) := ⟨_, rfl⟩
  replace h1 : κ (.tup .nil) (psH' b1 b (pRep (pItem b k) N s0)) := by rw [hNN]; exact h1
  replace hN := hN.trans (congrArg (fun q : Nat => (q : Int)) hNN.symm)
  have hN' : (N : Int) ≤ 9223372036854775807 := by have := hgo.n1; have := hgo.n0; omega
  refine OK_weakC [some 0, some 1, some 5] [(0, .ref 0 []), (1, .int .i64 (8 - ((k + 1 : Nat) : Int))), (8, .int .i64 ((N : Nat) : Int)), (9, .int .i64 0)] (psH' b1 b s0) ?_
  conv => whnf
  repeat' (first | (refine And.intro (fun _ => ?_) (fun _ => ?_) <;> conv => whnf) | (refine And.intro ?_ ?_ <;> conv => whnf))
  all_goals try first | exact ⟨rfl⟩ | exact ⟨⟨rfl, rfl⟩⟩ | exact ⟨⟨rfl, rfl, rfl⟩⟩ | exact ⟨by omega⟩ | exact ⟨⟨by omega, by omega⟩⟩ | exact ⟨⟨by omega, by omega, by omega⟩⟩ | exact ⟨fun _ _ => rfl⟩ | exact ⟨hnext⟩ | exact ⟨⟨rfl, hlen, hlen⟩⟩ | exact ⟨hlen⟩ | exact ⟨hN⟩ | exact ⟨by subst hs0; rfl⟩
  · subst hs0
    exact ⟨leV_app (ts := (partB b (pGo s g) g.n).ts) (fun k hk => if_pos hk) (leV_is (v' := tkV ⟨3, 0, false, partL b (pGo s g) g.n⟩) ((if_neg (Nat.lt_irrefl _)).trans (by simp only [Nat.sub_self]; rfl)) (leV_refl _ (pln_tkV _)))⟩
  rotate_left
  rename_i e1 e2 e3 e4 m0 m1 m2
  have hn3 : ¬ (600 : Int) ≤ s.ts.length := of_decide_eq_false e3
  have h := hgood (fun hc => hc.elim (fun q => by rw [show s.bad = false from e1] at q; cases q) fun q => q.elim (fun q => by simp at e2; exact q e2) fun q => by omega)
  have hm : g.major = 3 := by simpa using hp
  have e : pBody b (pItem b k) (pGo s g) g = pRep (pItem b k) 0 (pushT (partB b (pGo s g) g.n) ⟨4, 0, false, partL b (pGo s g) g.n⟩) := by simp only [pBody, hm]; rfl
  rw [e] at h
  have hi2 : (pGo s g).i ≤ b.length := by show g.next.toNat ≤ b.length; have := hgo.nx1; omega
  have hinv : PInv b (pushT (partB b (pGo s g) g.n) ⟨4, 0, false, partL b (pGo s g) g.n⟩) := pushT_inv (partB_i hgo.n0 hi2) (by rw [partB_ts]; show s.ts.length < 600; omega)
  refine ⟨⟨b1, b, pGo s g, g.n⟩, [some 0, some 1], ?_⟩
  conv => whnf
  repeat' (first | (refine And.intro (fun _ => ?_) (fun _ => ?_) <;> conv => whnf) | (refine And.intro ?_ ?_ <;> conv => whnf))
  all_goals try first | exact ⟨rfl⟩ | exact ⟨⟨rfl, rfl⟩⟩ | exact ⟨⟨rfl, rfl, rfl⟩⟩ | exact ⟨by omega⟩ | exact ⟨⟨by omega, by omega⟩⟩ | exact ⟨⟨by omega, by omega, by omega⟩⟩ | exact ⟨fun _ _ => rfl⟩ | exact ⟨fun k _ => leV_refl _ (pln_tks _ _)⟩ | exact ⟨⟨hb, hi2, hgo.n0, hgo.n1⟩⟩ | exact ⟨(Int.toNat_of_nonneg hgo.nx0).symm⟩
  all_goals (try exact trivial)
  refine Or.inl ?_
  conv => whnf
  repeat' (first | (refine And.intro (fun _ => ?_) (fun _ => ?_) <;> conv => whnf) | (refine And.intro ?_ ?_ <;> conv => whnf))
  all_goals try first | exact ⟨rfl⟩ | exact ⟨⟨rfl, rfl⟩⟩ | exact ⟨⟨rfl, rfl, rfl⟩⟩ | exact ⟨by omega⟩ | exact ⟨⟨by omega, by omega⟩⟩ | exact ⟨⟨by omega, by omega, by omega⟩⟩ | exact ⟨⟨by show ((partB b (pGo s g) g.n).ts.length + 1) * 40 ≤ _; rw [partB_ts]; show (s.ts.length + 1) * 40 ≤ _; omega, by show (partB b (pGo s g) g.n).ts.length + 1 ≤ _; rw [partB_ts]; show s.ts.length + 1 ≤ _; omega⟩⟩ | exact ⟨congrArg List.length (partB_ts b (pGo s g) g.n).symm⟩ | exact ⟨⟨by show (s.ts.length + 1) * 40 ≤ _; omega, by show s.ts.length + 1 ≤ _; omega⟩⟩
  have hnext : (((partB b (pGo s g) g.n).i : Nat) : Int) = (((pushT (partB b (pGo s g) g.n) ⟨4, 0, false, partL b (pGo s g) g.n⟩).i : Nat) : Int) := rfl
  have hN : (0 : Int) = (((0 : Nat)) : Int) := rfl
  have hsub : ∀ q : Nat, (partB b (pGo s g) g.n).ts.length - s.ts.length = 0 := fun _ => by rw [partB_ts]; exact Nat.sub_self _
  have hlen : (partB b (pGo s g) g.n).ts.length + 1 = (pushT (partB b (pGo s g) g.n) ⟨4, 0, false, partL b (pGo s g) g.n⟩).ts.length := by simp [pushT]
  have h1 : κ (.tup .nil) (psH' b1 b (pRep (pItem b k) (0) (pushT (partB b (pGo s g) g.n) ⟨4, 0, false, partL b (pGo s g) g.n⟩))) := h
  have hI : PInv b (pushT (partB b (pGo s g) g.n) ⟨4, 0, false, partL b (pGo s g) g.n⟩) := hinv
  generalize hs0 : (pushT (partB b (pGo s g) g.n) ⟨4, 0, false, partL b (pGo s g) g.n⟩) = s0 at h1 hI hlen hnext
  obtain ⟨N, hNN⟩ : ∃ N : Nat, N = (0) := ⟨_, rfl⟩
  replace h1 : κ (.tup .nil) (psH' b1 b (pRep (pItem b k) N s0)) := by rw [hNN]; exact h1
  replace hN := hN.trans (congrArg (fun q : Nat => (q : Int)) hNN.symm)
  have hN' : (N : Int) ≤ 9223372036854775807 := by have := hgo.n1; have := hgo.n0; omega
  refine OK_weakC [some 0, some 1, some 5] [(0, .ref 0 []), (1, .int .i64 (8 - ((k + 1 : Nat) : Int))), (8, .int .i64 ((N : Nat) : Int)), (9, .int .i64 0)] (psH' b1 b s0) ?_
  conv => whnf
  repeat' (first | (refine And.intro (fun _ => ?_) (fun _ => ?_) <;> conv => whnf) | (refine And.intro ?_ ?_ <;> conv => whnf))
  all_goals try first | exact ⟨rfl⟩ | exact ⟨⟨rfl, rfl⟩⟩ | exact ⟨⟨rfl, rfl, rfl⟩⟩ | exact ⟨by omega⟩ | exact ⟨⟨by omega, by omega⟩⟩ | exact ⟨⟨by omega, by omega, by omega⟩⟩ | exact ⟨fun _ _ => rfl⟩ | exact ⟨hnext⟩ | exact ⟨⟨rfl, hlen, hlen⟩⟩ | exact ⟨hlen⟩ | exact ⟨hN⟩ | exact ⟨by subst hs0; rfl⟩
  · subst hs0
    exact ⟨leV_app (ts := (partB b (pGo s g) g.n).ts) (fun k hk => if_pos hk) (leV_is (v' := tkV ⟨4, 0, false, partL b (pGo s g) g.n⟩) ((if_neg (Nat.lt_irrefl _)).trans (by simp only [Nat.sub_self]; rfl)) (leV_refl _ (pln_tkV _)))⟩
  rotate_left
  rename_i e1 e2 e3 e4 m0 m1 m2
  have hn3 : ¬ (600 : Int) ≤ s.ts.length := of_decide_eq_false e3
  have h := hgood (fun hc => hc.elim (fun q => by rw [show s.bad = false from e1] at q; cases q) fun q => q.elim (fun q => by simp at e2; exact q e2) fun q => by omega)
  have hm : g.major = 3 := by simpa using hp
  have e : pBody b (pItem b k) (pGo s g) g = pRep (pItem b k) 0 (pushT (partB b (pGo s g) g.n) ⟨4, 0, false, partL b (pGo s g) g.n⟩) := by simp only [pBody, hm]; rfl
  rw [e] at h
  have hi2 : (pGo s g).i ≤ b.length := by show g.next.toNat ≤ b.length; have := hgo.nx1; omega
  have hinv : PInv b (pushT (partB b (pGo s g) g.n) ⟨4, 0, false, partL b (pGo s g) g.n⟩) := pushT_inv (partB_i hgo.n0 hi2) (by rw [partB_ts]; show s.ts.length < 600; omega)
  refine ⟨⟨b1, b, pGo s g, g.n⟩, [some 0, some 1], ?_⟩
  conv => whnf
  repeat' (first | (refine And.intro (fun _ => ?_) (fun _ => ?_) <;> conv => whnf) | (refine And.intro ?_ ?_ <;> conv => whnf))
  all_goals try first | exact ⟨rfl⟩ | exact ⟨⟨rfl, rfl⟩⟩ | exact ⟨⟨rfl, rfl, rfl⟩⟩ | exact ⟨by omega⟩ | exact ⟨⟨by omega, by omega⟩⟩ | exact ⟨⟨by omega, by omega, by omega⟩⟩ | exact ⟨fun _ _ => rfl⟩ | exact ⟨fun k _ => leV_refl _ (pln_tks _ _)⟩ | exact ⟨⟨hb, hi2, hgo.n0, hgo.n1⟩⟩ | exact ⟨(Int.toNat_of_nonneg hgo.nx0).symm⟩
  all_goals (try exact trivial)
  refine Or.inl ?_
  conv => whnf
  repeat' (first | (refine And.intro (fun _ => ?_) (fun _ => ?_) <;> conv => whnf) | (refine And.intro ?_ ?_ <;> conv => whnf))
  all_goals try first | exact ⟨rfl⟩ | exact ⟨⟨rfl, rfl⟩⟩ | exact ⟨⟨rfl, rfl, rfl⟩⟩ | exact ⟨by omega⟩ | exact ⟨⟨by omega, by omega⟩⟩ | exact ⟨⟨by omega, by omega, by omega⟩⟩ | exact ⟨⟨by show ((partB b (pGo s g) g.n).ts.length + 1) * 40 ≤ _; rw [partB_ts]; show (s.ts.length + 1) * 40 ≤ _; omega, by show (partB b (pGo s g) g.n).ts.length + 1 ≤ _; rw [partB_ts]; show s.ts.length + 1 ≤ _; omega⟩⟩ | exact ⟨congrArg List.length (partB_ts b (pGo s g) g.n).symm⟩ | exact ⟨⟨by show (s.ts.length + 1) * 40 ≤ _; omega, by show s.ts.length + 1 ≤ _; omega⟩⟩
  have hnext : (((partB b (pGo s g) g.n).i : Nat) : Int) = (((pushT (partB b (pGo s g) g.n) ⟨4, 0, false, partL b (pGo s g) g.n⟩).i : Nat) : Int) := rfl
  have hN : (0 : Int) = (((0 : Nat)) : Int) := rfl
  have hsub : ∀ q : Nat, (partB b (pGo s g) g.n).ts.length - s.ts.length = 0 := fun _ => by rw [partB_ts]; exact Nat.sub_self _
  have hlen : (partB b (pGo s g) g.n).ts.length + 1 = (pushT (partB b (pGo s g) g.n) ⟨4, 0, false, partL b (pGo s g) g.n⟩).ts.length := by simp [pushT]
  have h1 : κ (.tup .nil) (psH' b1 b (pRep (pItem b k) (0) (pushT (partB b (pGo s g) g.n) ⟨4, 0, false, partL b (pGo s g) g.n⟩))) := h
  have hI : PInv b (pushT (partB b (pGo s g) g.n) ⟨4, 0, false, partL b (pGo s g) g.n⟩) := hinv
  generalize hs0 : (pushT (partB b (pGo s g) g.n) ⟨4, 0, false, partL b (pGo s g) g.n⟩) = s0 at h1 hI hlen hnext
  obtain ⟨N, hNN⟩ : ∃ N : Nat, N = (0) := ⟨_, rfl⟩
  replace h1 : κ (.tup .nil) (psH' b1 b (pRep (pItem b k) N s0)) := by rw [hNN]; exact h1
  replace hN := hN.trans (congrArg (fun q : Nat => (q : Int)) hNN.symm)
  have hN' : (N : Int) ≤ 9223372036854775807 := by have := hgo.n1; have := hgo.n0; omega
  refine OK_weakC [some 0, some 1, some 5] [(0, .ref 0 []), (1, .int .i64 (8 - ((k + 1 : Nat) : Int))), (8, .int .i64 ((N : Nat) : Int)), (9, .int .i64 0)] (psH' b1 b s0) ?_
  conv => whnf
  repeat' (first | (refine And.intro (fun _ => ?_) (fun _ => ?_) <;> conv => whnf) | (refine And.intro ?_ ?_ <;> conv => whnf))
  all_goals try first | exact ⟨rfl⟩ | exact ⟨⟨rfl, rfl⟩⟩ | exact ⟨⟨rfl, rfl, rfl⟩⟩ | exact ⟨by omega⟩ | exact ⟨⟨by omega, by omega⟩⟩ | exact ⟨⟨by omega, by omega, by omega⟩⟩ | exact ⟨fun _ _ => rfl⟩ | exact ⟨hnext⟩ | exact ⟨⟨rfl, hlen, hlen⟩⟩ | exact ⟨hlen⟩ | exact ⟨hN⟩ | exact ⟨by subst hs0; rfl⟩
  · subst hs0
    exact ⟨leV_app (ts := (partB b (pGo s g) g.n).ts) (fun k hk => if_pos hk) (leV_is (v' := tkV ⟨4, 0, false, partL b (pGo s g) g.n⟩) ((if_neg (Nat.lt_irrefl _)).trans (by simp only [Nat.sub_self]; rfl)) (leV_refl _ (pln_tkV _)))⟩
  rotate_left
  refine Or.inl ?_
  conv => whnf
  repeat' (first | (refine And.intro (fun _ => ?_) (fun _ => ?_) <;> conv => whnf) | (refine And.intro ?_ ?_ <;> conv => whnf))
  all_goals try first | exact ⟨rfl⟩ | exact ⟨⟨rfl, rfl⟩⟩ | exact ⟨⟨rfl, rfl, rfl⟩⟩ | exact ⟨by omega⟩ | exact ⟨⟨by omega, by omega⟩⟩ | exact ⟨⟨by omega, by omega, by omega⟩⟩ | exact ⟨⟨by show ((partB b (pGo s g) g.n).ts.length + 1) * 40 ≤ _; rw [partB_ts]; show (s.ts.length + 1) * 40 ≤ _; omega, by show (partB b (pGo s g) g.n).ts.length + 1 ≤ _; rw [partB_ts]; show s.ts.length + 1 ≤ _; omega⟩⟩ | exact ⟨congrArg List.length (partB_ts b (pGo s g) g.n).symm⟩ | exact ⟨⟨by show (s.ts.length + 1) * 40 ≤ _; omega, by show s.ts.length + 1 ≤ _; omega⟩⟩
  have hnext : (((partB b (pGo s g) g.n).i : Nat) : Int) = (((pushT (partB b (pGo s g) g.n) ⟨4, 0, false, partL b (pGo s g) g.n⟩).i : Nat) : Int) := rfl
  have hN : (0 : Int) = (((0 : Nat)) : Int) := rfl
  have hsub : ∀ q : Nat, (partB b (pGo s g) g.n).ts.length - s.ts.length = 0 := fun _ => by rw [partB_ts]; exact Nat.sub_self _
  have hlen : (partB b (pGo s g) g.n).ts.length + 1 = (pushT (partB b (pGo s g) g.n) ⟨4, 0, false, partL b (pGo s g) g.n⟩).ts.length := by simp [pushT]
  have h1 : κ (.tup .nil) (psH' b1 b (pRep (pItem b k) (0) (pushT (partB b (pGo s g) g.n) ⟨4, 0, false, partL b (pGo s g) g.n⟩))) := h
  have hI : PInv b (pushT (partB b (pGo s g) g.n) ⟨4, 0, false, partL b (pGo s g) g.n⟩) := hinv
  generalize hs0 : (pushT (partB b (pGo s g) g.n) ⟨4, 0, false, partL b (pGo s g) g.n⟩) = s0 at h1 hI hlen hnext
  obtain ⟨N, hNN⟩ : ∃ N : Nat, N = (0) := ⟨_, rfl⟩
  replace h1 : κ (.tup .nil) (psH' b1 b (pRep (pItem b k) N s0)) := by rw [hNN]; exact h1
  replace hN := hN.trans (congrArg (fun q : Nat => (q : Int)) hNN.symm)
  have hN' : (N : Int) ≤ 9223372036854775807 := by have := hgo.n1; have := hgo.n0; omega
  refine OK_weakC [some 0, some 1, some 5] [(0, .ref 0 []), (1, .int .i64 (8 - ((k + 1 : Nat) : Int))), (8, .int .i64 ((N : Nat) : Int)), (9, .int .i64 0)] (psH' b1 b s0) ?_
  conv => whnf
  repeat' (first | (refine And.intro (fun _ => ?_) (fun _ => ?_) <;> conv => whnf) | (refine And.intro ?_ ?_ <;> conv => whnf))
  all_goals try first | exact ⟨rfl⟩ | exact ⟨⟨rfl, rfl⟩⟩ | exact ⟨⟨rfl, rfl, rfl⟩⟩ | exact ⟨by omega⟩ | exact ⟨⟨by omega, by omega⟩⟩ | exact ⟨⟨by omega, by omega, by omega⟩⟩ | exact ⟨fun _ _ => rfl⟩ | exact ⟨hnext⟩ | exact ⟨⟨rfl, hlen, hlen⟩⟩ | exact ⟨hlen⟩ | exact ⟨hN⟩ | exact ⟨by subst hs0; rfl⟩
  · subst hs0
    exact ⟨leV_app (ts := (partB b (pGo s g) g.n).ts) (fun k hk => if_pos hk) (leV_is (v' := tkV ⟨4, 0, false, partL b (pGo s g) g.n⟩) ((if_neg (Nat.lt_irrefl _)).trans (by simp only [Nat.sub_self]; rfl)) (leV_refl _ (pln_tkV _)))⟩
  rotate_left
  rename_i e1 e2 e3 e4 m0 m1 m2 m3
  have hn3 : ¬ (600 : Int) ≤ s.ts.length := of_decide_eq_false e3
  have h := hgood (fun hc => hc.elim (fun q => by rw [show s.bad = false from e1] at q; cases q) fun q => q.elim (fun q => by simp at e2; exact q e2) fun q => by omega)
  have hm : g.major = 4 := by simpa using hp
  have e : pBody b (pItem b k) (pGo s g) g = pRep (pItem b k) (g.n.toNat) (pushT (pGo s g) ⟨5, g.n, false, []⟩) := by simp only [pBody, hm]; rfl
  rw [e] at h
  have hinv : PInv b (pushT (pGo s g) ⟨5, g.n, false, []⟩) := pushT_inv (by show g.next.toNat ≤ b.length; have := hgo.nx1; omega) (by show s.ts.length < 600; omega)
  refine Or.inl ?_
  conv => whnf
  repeat' (first | (refine And.intro (fun _ => ?_) (fun _ => ?_) <;> conv => whnf) | (refine And.intro ?_ ?_ <;> conv => whnf))
  all_goals try first | exact ⟨rfl⟩ | exact ⟨⟨rfl, rfl⟩⟩ | exact ⟨⟨rfl, rfl, rfl⟩⟩ | exact ⟨by omega⟩ | exact ⟨⟨by omega, by omega⟩⟩ | exact ⟨⟨by omega, by omega, by omega⟩⟩ | exact ⟨⟨by show (s.ts.length + 1) * 40 ≤ _; omega, by show s.ts.length + 1 ≤ _; omega⟩⟩
  have hnext : g.next = (((pushT (pGo s g) ⟨5, g.n, false, []⟩).i : Nat) : Int) := by show g.next = ((g.next.toNat : Nat) : Int); have := hgo.nx0; omega
  have hN : g.n = (((g.n.toNat) : Nat) : Int) := (Int.toNat_of_nonneg hgo.n0).symm
  have hlen : s.ts.length + 1 = (pushT (pGo s g) ⟨5, g.n, false, []⟩).ts.length := by simp [pushT, pGo]
  have h1 : κ (.tup .nil) (psH' b1 b (pRep (pItem b k) (g.n.toNat) (pushT (pGo s g) ⟨5, g.n, false, []⟩))) := h
  have hI : PInv b (pushT (pGo s g) ⟨5, g.n, false, []⟩) := hinv
  generalize hs0 : (pushT (pGo s g) ⟨5, g.n, false, []⟩) = s0 at h1 hI hlen hnext
  obtain ⟨N, hNN⟩ : ∃ N : Nat, N = (g.n.toNat) := ⟨_, rfl⟩
  replace h1 : κ (.tup .nil) (psH' b1 b (pRep (pItem b k) N s0)) := by rw [hNN]; exact h1
  replace hN := hN.trans (congrArg (fun q : Nat => (q : Int)) hNN.symm)
  have hN' : (N : Int) ≤ 9223372036854775807 := by have := hgo.n1; have := hgo.n0; omega
  refine OK_weakC [some 0, some 1, some 3] [(0, .ref 0 []), (1, .int .i64 (8 - ((k + 1 : Nat) : Int))), (8, .int .i64 ((N : Nat) : Int)), (9, .int .i64 0)] (psH' b1 b s0) ?_
  conv => whnf
  repeat' (first | (refine And.intro (fun _ => ?_) (fun _ => ?_) <;> conv => whnf) | (refine And.intro ?_ ?_ <;> conv => whnf))
  all_goals try first | exact ⟨rfl⟩ | exact ⟨⟨rfl, rfl⟩⟩ | exact ⟨⟨rfl, rfl, rfl⟩⟩ | exact ⟨by omega⟩ | exact ⟨⟨by omega, by omega⟩⟩ | exact ⟨⟨by omega, by omega, by omega⟩⟩ | exact ⟨fun _ _ => rfl⟩ | exact ⟨hnext⟩ | exact ⟨⟨rfl, hlen, hlen⟩⟩ | exact ⟨hlen⟩ | exact ⟨hN⟩ | exact ⟨by subst hs0; rfl⟩
  · subst hs0
    exact ⟨leV_app (ts := s.ts) (fun k hk => if_pos hk) (leV_is ((if_neg (Nat.lt_irrefl _)).trans (by simp only [Nat.sub_self]; rfl)) (leV_newT _ 5 g.n false))⟩
  rotate_left
  rename_i e1 e2 e3 e4 m0 m1 m2 m3 m4
  have hn3 : ¬ (600 : Int) ≤ s.ts.length := of_decide_eq_false e3
  have h := hgood (fun hc => hc.elim (fun q => by rw [show s.bad = false from e1] at q; cases q) fun q => q.elim (fun q => by simp at e2; exact q e2) fun q => by omega)
  have hm : g.major = 5 := by simpa using hp
  have e : pBody b (pItem b k) (pGo s g) g = pRep (pItem b k) (2 * min g.n.toNat 65) (pushT (pGo s g) ⟨6, g.n, false, []⟩) := by simp only [pBody, hm]; rfl
  rw [e] at h
  have hinv : PInv b (pushT (pGo s g) ⟨6, g.n, false, []⟩) := pushT_inv (by show g.next.toNat ≤ b.length; have := hgo.nx1; omega) (by show s.ts.length < 600; omega)
  refine Or.inl ?_
  conv => whnf
  repeat' (first | (refine And.intro (fun _ => ?_) (fun _ => ?_) <;> conv => whnf) | (refine And.intro ?_ ?_ <;> conv => whnf))
  all_goals try first | exact ⟨rfl⟩ | exact ⟨⟨rfl, rfl⟩⟩ | exact ⟨⟨rfl, rfl, rfl⟩⟩ | exact ⟨by omega⟩ | exact ⟨⟨by omega, by omega⟩⟩ | exact ⟨⟨by omega, by omega, by omega⟩⟩ | exact ⟨⟨by show (s.ts.length + 1) * 40 ≤ _; omega, by show s.ts.length + 1 ≤ _; omega⟩⟩
  have hnext : g.next = (((pushT (pGo s g) ⟨6, g.n, false, []⟩).i : Nat) : Int) := by show g.next = ((g.next.toNat : Nat) : Int); have := hgo.nx0; omega
  have hN : IntKind.i64.wrap (2 * min g.n 65) = (((2 * min g.n.toNat 65) : Nat) : Int) := (by have := hgo.n0; rw [wrap_id (by omega) (by omega)]; omega)
  have hlen : s.ts.length + 1 = (pushT (pGo s g) ⟨6, g.n, false, []⟩).ts.length := by simp [pushT, pGo]
  have h1 : κ (.tup .nil) (psH' b1 b (pRep (pItem b k) (2 * min g.n.toNat 65) (pushT (pGo s g) ⟨6, g.n, false, []⟩))) := h
  have hI : PInv b (pushT (pGo s g) ⟨6, g.n, false, []⟩) := hinv
  generalize hs0 : (pushT (pGo s g) ⟨6, g.n, false, []⟩) = s0 at h1 hI hlen hnext
  obtain ⟨N, hNN⟩ : ∃ N : Nat, N = (2 * min g.n.toNat 65) := ⟨_, rfl⟩
  replace h1 : κ (.tup .nil) (psH' b1 b (pRep (pItem b k) N s0)) := by rw [hNN]; exact h1
  replace hN := hN.trans (congrArg (fun q : Nat => (q : Int)) hNN.symm)
  have hN' : (N : Int) ≤ 9223372036854775807 := by have := hgo.n1; have := hgo.n0; omega
  refine OK_weakC [some 0, some 1, some 3] [(0, .ref 0 []), (1, .int .i64 (8 - ((k + 1 : Nat) : Int))), (8, .int .i64 ((N : Nat) : Int)), (9, .int .i64 0)] (psH' b1 b s0) ?_
  conv => whnf
  repeat' (first | (refine And.intro (fun _ => ?_) (fun _ => ?_) <;> conv => whnf) | (refine And.intro ?_ ?_ <;> conv => whnf))
  all_goals try first | exact ⟨rfl⟩ | exact ⟨⟨rfl, rfl⟩⟩ | exact ⟨⟨rfl, rfl, rfl⟩⟩ | exact ⟨by omega⟩ | exact ⟨⟨by omega, by omega⟩⟩ | exact ⟨⟨by omega, by omega, by omega⟩⟩ | exact ⟨fun _ _ => rfl⟩ | exact ⟨hnext⟩ | exact ⟨⟨rfl, hlen, hlen⟩⟩ | exact ⟨hlen⟩ | exact ⟨hN⟩ | exact ⟨by subst hs0; rfl⟩
  · subst hs0
    exact ⟨leV_app (ts := s.ts) (fun k hk => if_pos hk) (leV_is ((if_neg (Nat.lt_irrefl _)).trans (by simp only [Nat.sub_self]; rfl)) (leV_newT _ 6 g.n false))⟩
  rotate_left
  · rename_i e1 e2 e3 e4 m0 m1 m2 m3 m4
    have hn3 : ¬ (600 : Int) ≤ s.ts.length := of_decide_eq_false e3
    have h := hgood (fun hc => hc.elim (fun q => by rw [show s.bad = false from e1] at q; cases q) fun q => q.elim (fun q => by simp at e2; exact q e2) fun q => by omega)
    have q0 : g.major ≠ 0 := by simpa using m0
    have q1 : g.major ≠ 1 := by simpa using m1
    have q2 : g.major ≠ 2 := by simpa using m2
    have q3 : g.major ≠ 3 := by simpa using m3
    have q4 : g.major ≠ 4 := by simpa using m4
    have q5 : g.major ≠ 5 := by simpa using hp
    have e : pBody b (pItem b k) (pGo s g) g = pRep (pItem b k) 0 (pBad (pGo s g)) := by simp only [pBody, q0, q1, q2, q3, q4, q5, if_false]; rfl
    rw [e] at h
    have hinv : PInv b (pBad (pGo s g)) := ⟨by show g.next.toNat ≤ b.length; have := hgo.nx1; omega, by show s.ts.length ≤ 600; omega⟩
    have hnext : g.next = (((pBad (pGo s g)).i : Nat) : Int) := by show g.next = ((g.next.toNat : Nat) : Int); have := hgo.nx0; omega
    have hN := hnext
    have hlen : s.ts.length = (pBad (pGo s g)).ts.length := rfl
    have h1 : κ (.tup .nil) (psH' b1 b (pBad (pGo s g))) := h
    generalize hs0 : pBad (pGo s g) = s0 at h1 hlen hnext
    refine OK_loopC (ι := Unit) (fun _ => [(0, .ref 0 []), (1, .int .i64 (8 - ((k + 1 : Nat) : Int))), (8, .int .i64 0), (9, .int .i64 0)]) (fun _ => psH b1 b s0) (fun _ => True) (fun _ => 0) () [some 0, some 1] ?_ (fun x hx => vc_ok (CtxOk.inner (c60_ok hS) _) mixed 1000 _ [] _ (by kernel_rfl) rfl ?_)
    · subst hs0
      conv => whnf
      repeat' (first | (refine And.intro (fun _ => ?_) (fun _ => ?_) <;> conv => whnf) | (refine And.intro ?_ ?_ <;> conv => whnf))
      all_goals try first | exact ⟨rfl⟩ | exact ⟨⟨rfl, rfl⟩⟩ | exact ⟨⟨rfl, rfl, rfl⟩⟩ | exact ⟨by omega⟩ | exact ⟨⟨by omega, by omega⟩⟩ | exact ⟨⟨by omega, by omega, by omega⟩⟩ | exact ⟨fun _ _ => rfl⟩ | exact ⟨hnext⟩ | exact ⟨trivial⟩ | exact ⟨fun k _ => leV_refl _ (pln_tks _ _)⟩
    · conv => whnf
      repeat' (first | (refine And.intro (fun hp => ?_) (fun hp => ?_) <;> first | (exfalso; revert hp; simp; done) | conv => whnf) | (refine And.intro ?_ ?_ <;> conv => whnf))
      refine ⟨[some 0, some 1, some 1], .tup .nil, psH' b1 b s0, ?_⟩
      conv => whnf
      repeat' (refine And.intro ?_ ?_ <;> conv => whnf)
      all_goals try first | exact ⟨rfl⟩ | exact ⟨⟨rfl, rfl⟩⟩ | exact ⟨⟨rfl, rfl, rfl⟩⟩ | exact ⟨by omega⟩ | exact ⟨⟨by omega, by omega⟩⟩ | exact ⟨⟨by omega, by omega, by omega⟩⟩ | exact ⟨fun _ _ => rfl⟩ | exact ⟨fun k _ => leV_refl _ (pln_tks _ _)⟩
      exact h1
  all_goals
    refine OK_loopC (ι := Nat × PS) (fun x => [(0, .ref 0 []), (1, .int .i64 (8 - ((k + 1 : Nat) : Int))), (8, .int .i64 ((N : Nat) : Int)), (9, .int .i64 (x.1 : Nat))]) (fun x => psH' b1 b x.2) (fun x => x.1 ≤ N ∧ PInv b x.2 ∧ pRep (pItem b k) (N - x.1) x.2 = pRep (pItem b k) N s0) (fun x => N - x.1) (0, s0) [some 0, some 1, some 2] ?_ (fun x hx => vc_ok (CtxOk.inner (c60_ok hS) _) mixed 1000 _ [] _ (by kernel_rfl) rfl ?_)
    · conv => whnf
      repeat' (first | (refine And.intro (fun _ => ?_) (fun _ => ?_) <;> conv => whnf) | (refine And.intro ?_ ?_ <;> conv => whnf))
      all_goals try first | exact ⟨rfl⟩ | exact ⟨⟨rfl, rfl⟩⟩ | exact ⟨⟨rfl, rfl, rfl⟩⟩ | exact ⟨by omega⟩ | exact ⟨⟨by omega, by omega⟩⟩ | exact ⟨⟨by omega, by omega, by omega⟩⟩ | exact ⟨fun _ _ => rfl⟩ | exact ⟨⟨Nat.zero_le _, hI, rfl⟩⟩ | exact ⟨fun k _ => leV_refl _ (pln_tks _ _)⟩
    · obtain ⟨hx1, hx2, hx3⟩ := hx
      conv => whnf
      repeat' (first | (refine And.intro (fun _ => ?_) (fun _ => ?_) <;> conv => whnf) | (refine And.intro ?_ ?_ <;> conv => whnf))
      · rename_i c1 c2
        replace c2 : x.2.bad = false := by simpa using c2
        replace c1 : x.1 < N := by have := of_decide_eq_true c1; omega
        have ew : IntKind.i64.wrap (8 - ((k + 1 : Nat) : Int) + 1) = 8 - (k : Int) := by rw [wrap_id (by omega) (by omega)]; omega
        have hstep : pRep (pItem b k) (N - (x.1 + 1)) (pItem b k x.2) = pRep (pItem b k) N s0 := by
          rw [← hx3, show N - x.1 = (N - (x.1 + 1)) + 1 by omega]
          simp only [pRep, c2, Bool.false_eq_true, if_false]
        refine ⟨⟨b1, b, x.2⟩, [some 0, some 2], ?_⟩
        conv => whnf
        repeat' (first | (refine And.intro (fun _ => ?_) (fun _ => ?_) <;> conv => whnf) | (refine And.intro ?_ ?_ <;> conv => whnf))
        all_goals try first | exact ⟨rfl⟩ | exact ⟨⟨rfl, rfl⟩⟩ | exact ⟨⟨rfl, rfl, rfl⟩⟩ | exact ⟨by omega⟩ | exact ⟨⟨by omega, by omega⟩⟩ | exact ⟨⟨by omega, by omega, by omega⟩⟩ | exact ⟨fun _ _ => rfl⟩ | exact ⟨ew⟩ | exact ⟨fun k _ => leV_refl _ (pln_tks _ _)⟩ | exact ⟨⟨hb, hx2, by omega⟩⟩
        refine ⟨(x.1 + 1, pItem b k x.2), [some 0, some 1, some 5], ?_⟩
        conv => whnf
        repeat' (first | (refine And.intro (fun _ => ?_) (fun _ => ?_) <;> conv => whnf) | (refine And.intro ?_ ?_ <;> conv => whnf))
        all_goals try first | exact ⟨rfl⟩ | exact ⟨⟨rfl, rfl⟩⟩ | exact ⟨⟨rfl, rfl, rfl⟩⟩ | exact ⟨by omega⟩ | exact ⟨⟨by omega, by omega⟩⟩ | exact ⟨⟨by omega, by omega, by omega⟩⟩ | exact ⟨fun _ _ => rfl⟩ | exact ⟨fun k _ => leV_refl _ (pln_tks _ _)⟩ | exact ⟨by rw [wrap_id (by omega) (by omega)]; rfl⟩ | exact ⟨⟨⟨by show x.1 + 1 ≤ N; omega, pItem_inv b k x.2 hx2, hstep⟩, by show N - (x.1 + 1) < N - x.1; omega⟩⟩
      · rename_i c1 c2
        replace c2 : x.2.bad = true := by simpa using c2
        rw [← hx3, pRep_bad c2] at h1
        refine ⟨[some 0, some 1, some 2], .tup .nil, psH' b1 b x.2, ?_⟩
        conv => whnf
        repeat' (refine And.intro ?_ ?_ <;> conv => whnf)
        all_goals try first | exact ⟨rfl⟩ | exact ⟨⟨rfl, rfl⟩⟩ | exact ⟨⟨rfl, rfl, rfl⟩⟩ | exact ⟨by omega⟩ | exact ⟨⟨by omega, by omega⟩⟩ | exact ⟨⟨by omega, by omega, by omega⟩⟩ | exact ⟨fun _ _ => rfl⟩ | exact ⟨fun k _ => leV_refl _ (pln_tks _ _)⟩
        exact h1
      · rename_i c1
        replace c1 : N - x.1 = 0 := by have := of_decide_eq_false c1; omega
        rw [← hx3, c1] at h1
        refine ⟨[some 0, some 1, some 2], .tup .nil, psH' b1 b x.2, ?_⟩
        conv => whnf
        repeat' (refine And.intro ?_ ?_ <;> conv => whnf)
        all_goals try first | exact ⟨rfl⟩ | exact ⟨⟨rfl, rfl⟩⟩ | exact ⟨⟨rfl, rfl, rfl⟩⟩ | exact ⟨by omega⟩ | exact ⟨⟨by omega, by omega⟩⟩ | exact ⟨⟨by omega, by omega, by omega⟩⟩ | exact ⟨fun _ _ => rfl⟩ | exact ⟨fun k _ => leV_refl _ (pln_tks _ _)⟩
        exact h1
  ) (fun _ => by simp [psH, psH']) (fun _ => by simp [rok, roks]) (fun x u hu => psH'_rok _ _ _ u hu)
theorem h60_ok : ∀ k, SpecHOk Tryz.prog G 60 (H60 k)
  | 0 => h60_zero
  | k + 1 => h60_succ k (h60_ok k)
/- Decode. -/
set_option maxRecDepth 100000
open Go Go.DD
def F62 : FSpec := mkG (fun (a : By × By) => [a.1.v, a.2.v]) (fun a => okB a.1 ∧ a.2.ok) (fun a => decide (a.1.l = a.2.l)) .bool
theorem f62_ok : FOk Tryz.prog [] 62 F62 := mkG_ok fun a ⟨⟨ha, hn⟩, hb⟩ => by
  refine CP.by1 ha (CP.by2 hb ?_)
  generalize a.1.l = l at hn
  generalize a.2.l = m
  generalize a.1.b = b1
  generalize a.2.b = b2
  have hΓ := ctxOk Tryz.f62.ntmps [] [] (FL.all .nil) (HL.all .nil)
  refine CP_of_OK hΓ Tryz.func62 (c := bodyOf Tryz.f62) rfl (by decide) rfl rfl (by simp) (vc_ok hΓ mixed 1000 _ [] _ (by kernel_rfl) rfl ?_)
  conv => whnf
  repeat' (first | (refine And.intro (fun _ => ?_) (fun _ => ?_) <;> conv => whnf) | (refine And.intro ?_ ?_ <;> conv => whnf))
  all_goals try first | exact ⟨rfl⟩ | exact ⟨⟨rfl, rfl⟩⟩ | exact ⟨⟨rfl, rfl, rfl⟩⟩ | exact ⟨by omega⟩ | exact ⟨⟨by omega, by omega⟩⟩ | exact ⟨⟨by omega, by omega, by omega⟩⟩ | exact ⟨fun k _ => isU8_bf _ k⟩
  rw [bytesOf_bf, bytesOf_bf]
  exact Ld.of (congrArg V.bool (boolEq (by simp)))
def flatT (t : Tk) : Tk := { t with lent := false }
def encT (ts : List Tk) : List UInt8 × Int := enc ⟨true, ts.length, fun k => flatT (lTk ts k)⟩
def parR (b : List UInt8) : PS := pItem b 7 ⟨0, [], false⟩
def decR (b : List UInt8) : List Tk × Int :=
  if 32768 < b.length then ([], 3)
  else if (parR b).bad = true ∨ (parR b).i ≠ b.length then ([], 3)
  else if (encT (parR b).ts).2 ≠ 0 ∨ (encT (parR b).ts).1 ≠ b then ([], 3)
  else ((parR b).ts, 0)
def decV (r : List Tk × Int) : V := .tup (.cons (.imm false 3 r.1.length (tksV r.1)) (.cons (.int .i64 r.2) .nil))
theorem noref_tks (ts : List Tk) (k : Nat) : noref (tksV ts k) := by simp [tksV, tkV, byV, bf, noref, norefs]
theorem own_tks (ts : List Tk) (k : Nat) : DD.own (tksV ts k) := by
  simp only [tksV, tkV, byV, DD.own, DD.owns]
  exact ⟨trivial, trivial, fun q _ => own_bf _ _, trivial⟩
def F26 : FSpec := mkG (fun (a : By) => [a.v]) (fun a => okB a ∧ ∀ t, t ∈ (parR a.l).ts → tokOk t) (fun a => decR a.l) decV
theorem f26_ok : FOk Tryz.prog G 26 F26 := mkG_ok fun a ⟨⟨ha, hn⟩, ht⟩ => by
  refine CP.by1 ha ?_
  generalize a.l = l at hn ht
  generalize a.b = b1
  have hΓ := ctxG_ok Tryz.f26.ntmps [(61, F61c), (62, F62)] [(60, H60 7)] [] (.cons (f61c_ok) (.cons (f62_ok.g) .nil)) (.cons (h60_ok 7) .nil)
  refine CP_of_OK hΓ Tryz.func26 (c := bodyOf Tryz.f26) rfl (by decide) rfl rfl (by simp) (vc_ok hΓ mixed 1000 _ [] _ (by kernel_rfl) rfl ?_)
  have hbad : ∀ r : List Tk × Int, r = ([], 3) → Ld (.tup (.cons .emp (.cons (.int .i64 3) .nil))) (decV r) := fun r hr => hr ▸ Ld.two Ld.emp (by simp) rfl (by simp) rfl
  conv => whnf
  repeat' (first | (refine And.intro (fun _ => ?_) (fun _ => ?_) <;> conv => whnf) | (refine And.intro ?_ ?_ <;> conv => whnf))
  · rename_i h1
    exact hbad _ (if_pos (by have := of_decide_eq_true h1; omega))
  rename_i h1
  have h1' : ¬ 32768 < l.length := by have := of_decide_eq_false h1; omega
  refine ⟨⟨b1, l, ⟨0, [], false⟩⟩, [some 0, none], ?_⟩
  have hP : PInv l ⟨0, [], false⟩ := ⟨Nat.zero_le _, Nat.zero_le _⟩
  have hQ := pItem_inv l 7 _ hP
  have hR : parR l = pItem l 7 ⟨0, [], false⟩ := rfl
  have hD : decR l = if (parR l).bad = true ∨ (parR l).i ≠ l.length then ([], 3) else if (encT (parR l).ts).2 ≠ 0 ∨ (encT (parR l).ts).1 ≠ l then ([], 3) else ((parR l).ts, 0) := if_neg h1'
  rw [hR] at hD ht
  generalize hp0 : pItem l 7 ⟨0, [], false⟩ = p at hD ht hQ
  conv => whnf
  repeat' (first | (refine And.intro (fun hp => ?_) (fun hp => ?_) <;> first | (exfalso; revert hp; simp; done) | conv => whnf) | (refine And.intro ?_ ?_ <;> conv => whnf))
  all_goals try first | exact ⟨rfl⟩ | exact ⟨⟨rfl, rfl⟩⟩ | exact ⟨⟨rfl, rfl, rfl⟩⟩ | exact ⟨by omega⟩ | exact ⟨⟨by omega, by omega⟩⟩ | exact ⟨⟨by omega, by omega, by omega⟩⟩ | exact ⟨fun _ _ => rfl⟩ | exact ⟨⟨hn, hP, by decide⟩⟩ | exact ⟨⟨rfl, rfl⟩⟩ | exact ⟨fun k _ => noref_tks _ _⟩
  · have h2 : p.bad = true := by rw [← hp0]; exact hp
    exact hbad _ (hD.trans (if_pos (.inl h2)))
  · have h2 : ((p.i : Nat) : Int) ≠ l.length := by rw [← hp0]; simpa using hp
    exact hbad _ (hD.trans (if_pos (.inr (by omega))))
  rename_i h2
  replace h2 : p.bad = false := by rw [← hp0]; exact h2
  have h3 : p.i = l.length := by
    have : ((p.i : Nat) : Int) = l.length := by rw [← hp0]; simpa using hp
    omega
  rw [if_neg (fun h => h.elim (fun h => by rw [h2] at h; cases h) fun h => h h3)] at hD
  refine ⟨⟨true, p.ts.length, fun k => flatT (lTk p.ts k)⟩, ⟨AE.imm' (by rw [← hp0]) fun k _ => ?_, trivial⟩, ⟨fun k hk => ?_⟩, ?_⟩
  · rw [← hp0, Nat.zero_add]; rfl
  · have hm : lTk p.ts k ∈ p.ts := by
      have hk : k < p.ts.length := hk
      simp [lTk, List.getD_eq_getElem?_getD, List.getElem?_eq_getElem hk]
    have := ht _ hm
    exact ⟨this.1, this.2.1, this.2.2⟩
  intro e he
  replace he : e = encT p.ts := he
  rw [← he] at hD
  have hle : e.1.length ≤ 32768 := by rw [he]; exact enc_len _
  conv => whnf
  repeat' (first | (refine And.intro (fun _ => ?_) (fun _ => ?_) <;> conv => whnf) | (refine And.intro ?_ ?_ <;> conv => whnf))
  · rename_i h4
    exact hbad _ (hD.trans (if_pos (.inl (by simpa using h4))))
  rename_i h4
  replace h4 : e.2 = 0 := by simpa using h4
  refine ⟨(.of false e.1, .of b1 l), ⟨AE.refl _, AE.refl _, trivial⟩, ⟨⟨trivial, by show e.1.length ≤ 1000000; omega⟩, trivial⟩, ?_⟩
  intro q hq
  replace hq : q = decide (e.1 = l) := hq
  conv => whnf
  repeat' (first | (refine And.intro (fun _ => ?_) (fun _ => ?_) <;> conv => whnf) | (refine And.intro ?_ ?_ <;> conv => whnf))
  · rename_i h5
    exact hbad _ (hD.trans (if_pos (.inr (by rw [hq] at h5; simpa using h5))))
  all_goals try first | exact ⟨rfl⟩ | exact ⟨⟨rfl, rfl⟩⟩ | exact ⟨⟨rfl, rfl, rfl⟩⟩ | exact ⟨by omega⟩ | exact ⟨⟨by omega, by omega⟩⟩ | exact ⟨⟨by omega, by omega, by omega⟩⟩ | exact ⟨fun k _ => own_tks _ _⟩
  rename_i h5
  have h6 : e.1 = l := by rw [hq] at h5; simpa using h5
  rw [if_neg (fun h => h.elim (fun h => h h4) fun h => h h6)] at hD
  rw [hD]
  show Ld (.tup (.cons (.imm false 3 (pItem l 7 ⟨0, [], false⟩).ts.length fun k => tksV (pItem l 7 ⟨0, [], false⟩).ts (0 + k)) _)) _
  rw [hp0]
  exact Ld.two (Ld.imm fun k _ => by rw [Nat.zero_add]) (by simp) rfl (by simp) rfl
/- What heads are read as: in plain lists. -/
set_option maxRecDepth 100000
open Go Go.DD
theorem or_byte {x : Nat} (c : UInt8) : x * 256 ||| c.toNat = x * 256 + c.toNat := by
  have h := Nat.two_pow_add_eq_or_of_lt (i := 8) (b := c.toNat) c.toNat_lt x
  rw [Nat.mul_comm x 256]
  exact h.symm
theorem stepX_lt {x : Nat} {c : UInt8} (h : x * 256 < 2 ^ 64) : stepX x c = x * 256 + c.toNat := by
  rw [stepX, Nat.mod_eq_of_lt h, or_byte]
theorem beX_beU {n k : Nat} (hk : k ≤ 8) (hn : n < 2 ^ (8 * k)) : ∀ i, i ≤ k → beX (beU n k i) 0 = n / 2 ^ (8 * (k - i))
  | 0, _ => by
    rw [Nat.sub_zero, Nat.div_eq_of_lt hn]; rfl
  | i + 1, hi => by
    have ih := beX_beU hk hn i (by omega)
    rw [beU, beX_snoc, ih]
    have h1 : n / 2 ^ (8 * (k - i)) = n / 2 ^ (8 * (k - (i + 1))) / 256 := by
      rw [Nat.div_div_eq_div_mul, show k - i = (k - (i + 1)) + 1 by omega, Nat.mul_add, Nat.pow_add]
    have h2 : n < 2 ^ 64 := Nat.lt_of_lt_of_le hn (Nat.pow_le_pow_right (by decide) (by omega))
    generalize hq : n / 2 ^ (8 * (k - (i + 1))) = q at h1 ⊢
    have h3 : q ≤ n := hq ▸ Nat.div_le_self _ _
    have h4 : k - 1 - i = k - (i + 1) := by omega
    rw [h1, stepX_lt (by omega), h4, hq, UInt8.toNat_ofNat']
    omega
theorem sizeB_facts {n : Nat} (h : n < 2 ^ 64) : (sizeB n).2 ≤ 27 ∧ moreB (sizeB n).2 = (sizeB n).1 ∧ (sizeB n).1 ≤ 8 ∧ ((sizeB n).2 < 24 → (sizeB n).2 = n) ∧ (24 ≤ (sizeB n).2 → n < 2 ^ (8 * (sizeB n).1)) := by
  unfold sizeB
  split
  · rename_i h1
    exact ⟨by simp only []; omega, if_pos h1, by simp only []; omega, fun _ => rfl, fun h => by simp only [] at h; omega⟩
  · split
    · rename_i h1; exact ⟨by decide, by decide, by decide, fun h => by simp only [] at h; omega, fun _ => h1⟩
    · split
      · rename_i h1; exact ⟨by decide, by decide, by decide, fun h => by simp only [] at h; omega, fun _ => h1⟩
      · split
        · rename_i h1; exact ⟨by decide, by decide, by decide, fun h => by simp only [] at h; omega, fun _ => h1⟩
        · exact ⟨by decide, by decide, by decide, fun h => by simp only [] at h; omega, fun _ => h⟩
theorem headL_len (m n : Nat) : (headL m n).length = 1 + (sizeB n).1 := by
  simp only [headL, List.length_cons, beU_length]; omega
theorem drop_getD {b l : List UInt8} {i : Nat} (h : b.drop i = l) (k : Nat) : b.getD (i + k) 0 = l.getD k 0 := by
  rw [← h]; simp [List.getD_eq_getElem?_getD]
theorem getR_head {b r : List UInt8} {i m n : Nat} (hm : m < 8) (hn : n ≤ 9223372036854775807) (h : b.drop i = headL m n ++ r) : getR b i = ⟨(m : Nat), (n : Nat), ((i + (headL m n).length : Nat) : Int), 0⟩ := by
  obtain ⟨f1, f2, f3, f4, f5⟩ := sizeB_facts (n := n) (by omega)
  have hlen := congrArg List.length h
  rw [List.length_drop, List.length_append, headL_len] at hlen
  have hc : (b.getD i 0).toNat = m * 32 + (sizeB n).2 := by
    have := drop_getD h 0
    rw [Nat.add_zero] at this
    rw [this]
    show (UInt8.ofNat (m * 32 + (sizeB n).2)).toNat = _
    rw [UInt8.toNat_ofNat']; omega
  have hs : (b.getD i 0).toNat % 32 = (sizeB n).2 := by omega
  have hd : (b.getD i 0).toNat / 32 = m := by omega
  have hb : (b.drop (i + 1)).take (sizeB n).1 = beU n (sizeB n).1 (sizeB n).1 := by
    have : b.drop (i + 1) = beU n (sizeB n).1 (sizeB n).1 ++ r := by
      rw [← List.drop_drop, h]; rfl
    rw [this]
    conv => lhs; arg 1; rw [← beU_length n (sizeB n).1 (sizeB n).1]
    exact List.take_left
  have hx : beX ((b.drop (i + 1)).take (moreB ((b.getD i 0).toNat % 32))) (if (b.getD i 0).toNat % 32 < 24 then (b.getD i 0).toNat % 32 else 0) = n := by
    rw [hs, f2, hb]
    by_cases h24 : (sizeB n).2 < 24
    · have h0 : (sizeB n).1 = 0 := by rw [← f2]; exact if_pos h24
      rw [if_pos h24, h0, f4 h24]; rfl
    · rw [if_neg h24, beX_beU f3 (f5 (by omega)) _ (Nat.le_refl _), Nat.sub_self]
      simp
  unfold getR
  rw [hx, hs, hd, f2, if_neg (by omega), if_neg (by omega), if_neg (by omega), if_neg (by omega), headL_len]
  congr 2
  omega
theorem getR_cut {b : List UInt8} {i m n j : Nat} (hm : m < 8) (hn : n ≤ 9223372036854775807) (hi : i ≤ b.length) (hj : j < (headL m n).length) (h : b.drop i = (headL m n).take j) : getR b i = getBad := by
  obtain ⟨f1, f2, f3, f4, f5⟩ := sizeB_facts (n := n) (by omega)
  have hlen := congrArg List.length h
  rw [List.length_drop, List.length_take, headL_len] at hlen
  rw [headL_len] at hj
  unfold getR
  by_cases h0 : i = b.length
  · rw [if_pos (.inl h0)]
  · have hj0 : 0 < j := by omega
    have hc : (b.getD i 0).toNat = m * 32 + (sizeB n).2 := by
      have := drop_getD h 0
      rw [Nat.add_zero] at this
      rw [this]
      obtain ⟨q, rfl⟩ : ∃ q, j = q + 1 := ⟨j - 1, by omega⟩
      show (UInt8.ofNat (m * 32 + (sizeB n).2)).toNat = _
      rw [UInt8.toNat_ofNat']; omega
    have hs : (b.getD i 0).toNat % 32 = (sizeB n).2 := by omega
    rw [hs, f2, if_neg (by omega), if_pos (by omega)]
/- What an item's bytes, and less than those, are decoded to: in plain lists. -/
set_option maxRecDepth 100000
open Go Go.DD
/-- A token that stands alone, of a number that fits. -/
structure FlatN (t : Tk) : Prop where
  flat : FlatT t
  n : t.n ≤ 9223372036854775807
/-- A token's head: its major number, and what it says. -/
def hdM (t : Tk) : Nat := if t.kind = 1 then 0 else if t.kind = 4 then 3 else 2
def hdN (t : Tk) : Nat := if t.kind = 1 then t.n.toNat else t.l.length
theorem itemB_split {t : Tk} (h : FlatT t) : itemB t = headL (hdM t) (hdN t) ++ t.l := by
  unfold itemB hdM hdN
  rcases h.kind with ⟨h1, _, h2⟩ | ⟨h1, _⟩ | ⟨h1, _, _⟩
  · simp [h1, h2]
  · simp [h1]
  · simp [h1]
theorem hd_ok {t : Tk} (h : FlatN t) : hdM t < 8 ∧ hdN t ≤ 9223372036854775807 := by
  have := h.n
  have := h.flat.len
  unfold hdM hdN
  constructor
  · split
    · omega
    · split <;> omega
  · split <;> omega
theorem pItem_bad {b : List UInt8} {k : Nat} {s : PS} (h : (getR b s.i).err ≠ 0) : pItem b (k + 1) s = pBad s := if_pos (.inr (.inl h))
theorem pItem_go {b : List UInt8} {k : Nat} {s : PS} (h1 : s.bad = false) (h2 : (getR b s.i).err = 0) (h3 : s.ts.length < 600) : pItem b (k + 1) s = pBody b (pItem b k) (pGo s (getR b s.i)) (getR b s.i) :=
  if_neg (fun h => h.elim (fun h => by rw [h1] at h; cases h) fun h => h.elim (fun h => h h2) fun h => by omega)
/-- A whole item. -/
theorem pItem_whole {b r : List UInt8} {k : Nat} {s : PS} {t : Tk} (ht : FlatN t) (hs : s.bad = false) (hn : s.ts.length < 600) (h : b.drop s.i = itemB t ++ r) : pItem b (k + 1) s = ⟨s.i + (itemB t).length, s.ts ++ [flatT t], false⟩ := by
  obtain ⟨q1, q2⟩ := hd_ok ht
  rw [itemB_split ht.flat, List.append_assoc] at h
  have hg := getR_head q1 q2 h
  rw [pItem_go hs (by rw [hg]) hn, hg]
  have hlen := congrArg List.length h
  simp only [List.length_drop, List.length_append] at hlen
  have hp1 : 1 ≤ (headL (hdM t) (hdN t)).length := by rw [headL_len]; omega
  have hsi : s.i ≤ b.length := by omega
  have hdrop : b.drop (s.i + (headL (hdM t) (hdN t)).length) = t.l ++ r := by
    rw [← List.drop_drop, h]; exact List.drop_left
  rw [itemB_split ht.flat, List.length_append]
  rcases ht.flat.kind with ⟨h1, h0, h2⟩ | ⟨h1, h2⟩ | ⟨h1, h2, h3⟩
  · have e1 : hdM t = 0 := if_pos h1
    have e2 : hdN t = t.n.toNat := if_pos h1
    rw [e1, e2] at hlen hdrop ⊢
    have e3 : ((t.n.toNat : Nat) : Int) = t.n := by omega
    have e4 : ∀ q : Nat, (q : Int).toNat = q := fun q => Int.toNat_natCast q
    show (⟨(((s.i + (headL 0 t.n.toNat).length : Nat) : Int)).toNat, s.ts ++ [⟨1, ((t.n.toNat : Nat) : Int), false, []⟩], s.bad⟩ : PS) = _
    rw [e3, e4, hs, h2]
    cases t
    simp only at h0 h1 h2
    subst h1 h2
    rfl
  · have e1 : hdM t = 2 := by simp [hdM, h1]
    have e2 : hdN t = t.l.length := by simp [hdN, h1]
    rw [e1, e2] at hlen hdrop ⊢
    have hp : partB b (pGo s ⟨((2 : Nat) : Int), ((t.l.length : Nat) : Int), ((s.i + (headL 2 t.l.length).length : Nat) : Int), 0⟩) ((t.l.length : Nat) : Int) = ⟨s.i + (headL 2 t.l.length).length + t.l.length, s.ts, s.bad⟩ := by
      unfold partB pGo
      rw [if_neg (by simp only [Int.toNat_natCast]; omega)]
      simp only [Int.toNat_natCast]
    have hl : partL b (pGo s ⟨((2 : Nat) : Int), ((t.l.length : Nat) : Int), ((s.i + (headL 2 t.l.length).length : Nat) : Int), 0⟩) ((t.l.length : Nat) : Int) = t.l := by
      unfold partL pGo
      rw [if_neg (by simp only [Int.toNat_natCast]; omega)]
      simp only [Int.toNat_natCast, hdrop, List.take_left]
    show pushT (partB _ _ _) ⟨3, 0, false, partL _ _ _⟩ = _
    rw [hp, hl]
    cases t
    simp only at h1 h2
    subst h1 h2
    simp only [pushT, flatT, hs, Nat.add_assoc]
  · have e1 : hdM t = 3 := by simp [hdM, h1]
    have e2 : hdN t = t.l.length := by simp [hdN, h1]
    rw [e1, e2] at hlen hdrop ⊢
    have hp : partB b (pGo s ⟨((3 : Nat) : Int), ((t.l.length : Nat) : Int), ((s.i + (headL 3 t.l.length).length : Nat) : Int), 0⟩) ((t.l.length : Nat) : Int) = ⟨s.i + (headL 3 t.l.length).length + t.l.length, s.ts, s.bad⟩ := by
      unfold partB pGo
      rw [if_neg (by simp only [Int.toNat_natCast]; omega)]
      simp only [Int.toNat_natCast]
    have hl : partL b (pGo s ⟨((3 : Nat) : Int), ((t.l.length : Nat) : Int), ((s.i + (headL 3 t.l.length).length : Nat) : Int), 0⟩) ((t.l.length : Nat) : Int) = t.l := by
      unfold partL pGo
      rw [if_neg (by simp only [Int.toNat_natCast]; omega)]
      simp only [Int.toNat_natCast, hdrop, List.take_left]
    show pushT (partB _ _ _) ⟨4, 0, false, partL _ _ _⟩ = _
    rw [hp, hl]
    cases t
    simp only at h1 h2
    subst h1 h2
    simp only [pushT, flatT, hs, Nat.add_assoc]
def TokOks (s : PS) : Prop := ∀ t, t ∈ s.ts → tokOk t
theorem tokOk_flat {t : Tk} (h : FlatN t) : tokOk (flatT t) := by
  refine ⟨?_, by have := h.flat.len; show t.l.length ≤ 100000; omega, h.n⟩
  show t.kind ≠ 6
  rcases h.flat.kind with ⟨h1, _⟩ | ⟨h1, _⟩ | ⟨h1, _⟩ <;> omega
/-- Less than a whole item. -/
theorem pItem_cut {b : List UInt8} {k j : Nat} {s : PS} {t : Tk} (ht : FlatN t) (hs : s.bad = false) (hn : s.ts.length < 600) (hi : s.i ≤ b.length) (hj : j < (itemB t).length) (h : b.drop s.i = (itemB t).take j) (hk : TokOks s) :
    (pItem b (k + 1) s).bad = true ∧ TokOks (pItem b (k + 1) s) := by
  obtain ⟨q1, q2⟩ := hd_ok ht
  rw [itemB_split ht.flat] at h hj
  by_cases hjh : j < (headL (hdM t) (hdN t)).length
  · have h1 : b.drop s.i = (headL (hdM t) (hdN t)).take j := by
      rw [h, List.take_append_of_le_length (by omega)]
    rw [pItem_bad (by rw [getR_cut q1 q2 hi hjh h1]; decide)]
    exact ⟨rfl, hk⟩
  · have h1 : b.drop s.i = headL (hdM t) (hdN t) ++ t.l.take (j - (headL (hdM t) (hdN t)).length) := by
      rw [h, List.take_append, List.take_of_length_le (by omega)]
    rw [List.length_append] at hj
    have hg := getR_head q1 q2 h1
    rw [pItem_go hs (by rw [hg]) hn, hg]
    have hlen := congrArg List.length h1
    simp only [List.length_drop, List.length_append, List.length_take] at hlen
    have key : ∀ (M : Nat) (K : Int), (K = 3 ∨ K = 4) → (b.length : Int) - ((s.i + (headL M t.l.length).length : Nat) : Int) < ((t.l.length : Nat) : Int) →
        (pushT (partB b (pGo s ⟨((M : Nat) : Int), ((t.l.length : Nat) : Int), ((s.i + (headL M t.l.length).length : Nat) : Int), 0⟩) ((t.l.length : Nat) : Int)) ⟨K, 0, false, partL b (pGo s ⟨((M : Nat) : Int), ((t.l.length : Nat) : Int), ((s.i + (headL M t.l.length).length : Nat) : Int), 0⟩) ((t.l.length : Nat) : Int)⟩).bad = true ∧
        TokOks (pushT (partB b (pGo s ⟨((M : Nat) : Int), ((t.l.length : Nat) : Int), ((s.i + (headL M t.l.length).length : Nat) : Int), 0⟩) ((t.l.length : Nat) : Int)) ⟨K, 0, false, partL b (pGo s ⟨((M : Nat) : Int), ((t.l.length : Nat) : Int), ((s.i + (headL M t.l.length).length : Nat) : Int), 0⟩) ((t.l.length : Nat) : Int)⟩) := fun M K hK hlt => by
      have e1 : partB b (pGo s ⟨((M : Nat) : Int), ((t.l.length : Nat) : Int), ((s.i + (headL M t.l.length).length : Nat) : Int), 0⟩) ((t.l.length : Nat) : Int) = { (pGo s ⟨((M : Nat) : Int), ((t.l.length : Nat) : Int), ((s.i + (headL M t.l.length).length : Nat) : Int), 0⟩) with bad := true } := if_pos (by simp only [pGo, Int.toNat_natCast]; exact hlt)
      have e2 : partL b (pGo s ⟨((M : Nat) : Int), ((t.l.length : Nat) : Int), ((s.i + (headL M t.l.length).length : Nat) : Int), 0⟩) ((t.l.length : Nat) : Int) = [] := if_pos (by simp only [pGo, Int.toNat_natCast]; exact hlt)
      rw [e1, e2]
      refine ⟨rfl, fun u hu => ?_⟩
      simp only [pushT, pGo, List.mem_append, List.mem_singleton] at hu
      rcases hu with hu | rfl
      · exact hk u hu
      · refine ⟨by show K ≠ 6; omega, by simp, by show (0 : Int) ≤ _; decide⟩
    rcases ht.flat.kind with ⟨h2, h0, h3⟩ | ⟨h2, h3⟩ | ⟨h2, h3, h4⟩
    · rw [h3] at hj; simp at hj; omega
    · have e1 : hdM t = 2 := by simp [hdM, h2]
      have e2 : hdN t = t.l.length := by simp [hdN, h2]
      rw [e1, e2] at hlen hj hjh ⊢
      exact key 2 3 (.inl rfl) (by omega)
    · have e1 : hdM t = 3 := by simp [hdM, h2]
      have e2 : hdN t = t.l.length := by simp [hdN, h2]
      rw [e1, e2] at hlen hj hjh ⊢
      exact key 3 4 (.inr rfl) (by omega)
/- What a row's bytes, and less than those, are decoded to. -/
set_option maxRecDepth 100000
open Go Go.DD
theorem pRep_whole {b : List UInt8} {k : Nat} : ∀ (ts : List Tk) (s : PS) (r : List UInt8), (∀ t, t ∈ ts → FlatN t) → s.bad = false → s.ts.length + ts.length ≤ 600 → b.drop s.i = ts.flatMap itemB ++ r →
    pRep (pItem b (k + 1)) ts.length s = ⟨s.i + (ts.flatMap itemB).length, s.ts ++ ts.map flatT, false⟩
  | [], s, r, _, hs, _, _ => by
    simp only [List.length_nil, pRep, List.flatMap_nil, Nat.add_zero, List.map_nil, List.append_nil]
    cases s; simp only at hs; rw [hs]
  | t :: ts, s, r, ht, hs, hn, h => by
    simp only [List.flatMap_cons, List.append_assoc] at h
    simp only [List.length_cons] at hn
    have h1 := pItem_whole (k := k) (ht t (by simp)) hs (by omega) h
    simp only [List.length_cons, pRep, hs, Bool.false_eq_true, if_false, h1]
    rw [pRep_whole ts _ r (fun u hu => ht u (by simp [hu])) rfl (by simp only [List.length_append, List.length_cons, List.length_nil]; omega) (by show b.drop (s.i + (itemB t).length) = _; rw [← List.drop_drop, h]; exact List.drop_left)]
    simp only [List.flatMap_cons, List.length_append, Nat.add_assoc, List.map_cons, List.append_assoc, List.singleton_append]
theorem pRep_cut {b : List UInt8} {k : Nat} : ∀ (ts : List Tk) (s : PS) (j : Nat), (∀ t, t ∈ ts → FlatN t) → s.bad = false → s.ts.length + ts.length ≤ 600 → s.i ≤ b.length → TokOks s → j < (ts.flatMap itemB).length → b.drop s.i = (ts.flatMap itemB).take j →
    (pRep (pItem b (k + 1)) ts.length s).bad = true ∧ TokOks (pRep (pItem b (k + 1)) ts.length s)
  | [], s, j, _, _, _, _, _, hj, _ => by simp at hj
  | t :: ts, s, j, ht, hs, hn, hi, hk, hj, h => by
    simp only [List.flatMap_cons] at h hj
    simp only [List.length_cons] at hn
    simp only [List.length_cons, pRep, hs, Bool.false_eq_true, if_false]
    by_cases hjt : j < (itemB t).length
    · rw [List.take_append_of_le_length (by omega)] at h
      obtain ⟨h1, h2⟩ := pItem_cut (k := k) (ht t (by simp)) hs (by omega) hi hjt h hk
      rw [pRep_bad h1]
      exact ⟨h1, h2⟩
    · rw [List.take_append, List.take_of_length_le (by omega)] at h
      have h1 := pItem_whole (k := k) (ht t (by simp)) hs (by omega) h
      rw [h1]
      have hlen := congrArg List.length h
      simp only [List.length_drop, List.length_append] at hlen
      rw [List.length_append] at hj
      have hpos : 1 ≤ (itemB t).length := by
        rw [itemB_split (ht t (by simp)).flat, List.length_append, headL_len]; omega
      refine pRep_cut ts _ (j - (itemB t).length) (fun u hu => ht u (by simp [hu])) rfl (by simp only [List.length_append, List.length_cons, List.length_nil]; omega) (by show s.i + (itemB t).length ≤ b.length; omega) (fun u hu => ?_) (by omega) (by show b.drop (s.i + (itemB t).length) = _; rw [← List.drop_drop, h]; exact List.drop_left)
      simp only [List.mem_append, List.mem_singleton] at hu
      rcases hu with hu | rfl
      · exact hk u hu
      · exact tokOk_flat (ht t (by simp))
/-- A row's bytes. -/
def rowB (ts : List Tk) : List UInt8 := headL 4 ts.length ++ ts.flatMap itemB
def rowT (ts : List Tk) : List Tk := ⟨5, (ts.length : Nat), false, []⟩ :: ts.map flatT
structure Rw10 (ts : List Tk) : Prop where
  flat : ∀ t, t ∈ ts → FlatN t
  len : ts.length ≤ 10
theorem items_len : ∀ {ts : List Tk}, (∀ t, t ∈ ts → FlatN t) → (ts.flatMap itemB).length ≤ 2009 * ts.length
  | [], _ => by simp
  | t :: ts, h => by
    have h1 := items_len (ts := ts) fun u hu => h u (by simp [hu])
    have h2 := itemB_len (h t (by simp)).flat
    have h3 := (h t (by simp)).flat.len
    simp only [List.flatMap_cons, List.length_append, List.length_cons]
    omega
theorem rowB_len {ts : List Tk} (h : Rw10 ts) : (rowB ts).length ≤ 30000 ∧ 1 ≤ (rowB ts).length := by
  have h1 := items_len h.flat
  have h2 := h.len
  have h3 := headL_length 4 ts.length
  have h4 := headL_len 4 ts.length
  simp only [rowB, List.length_append]
  omega
theorem parR_head {b : List UInt8} {ts : List Tk} {r : List UInt8} (h : Rw10 ts) (hb : b = headL 4 ts.length ++ r) : parR b = pRep (pItem b 6) ts.length ⟨(headL 4 ts.length).length, [⟨5, (ts.length : Nat), false, []⟩], false⟩ := by
  have h10 := h.len
  have hg : getR b 0 = ⟨((4 : Nat) : Int), ((ts.length : Nat) : Int), ((0 + (headL 4 ts.length).length : Nat) : Int), 0⟩ := getR_head (by decide) (by omega) (by rw [List.drop_zero, hb])
  show pItem b (6 + 1) ⟨0, [], false⟩ = _
  rw [pItem_go rfl (by rw [hg]) (by simp), hg]
  show pRep (pItem b 6) ((ts.length : Nat) : Int).toNat (pushT (pGo _ _) _) = _
  simp only [pushT, pGo, Int.toNat_natCast, Nat.zero_add, List.nil_append]
theorem parR_whole {ts : List Tk} (h : Rw10 ts) : parR (rowB ts) = ⟨(rowB ts).length, rowT ts, false⟩ := by
  rw [parR_head h (b := rowB ts) (r := ts.flatMap itemB) rfl]
  have h10 := h.len
  rw [pRep_whole (b := rowB ts) (k := 5) ts _ [] h.flat rfl (by simp only [List.length_cons, List.length_nil]; omega) (by show (rowB ts).drop (headL 4 ts.length).length = _; rw [List.append_nil]; exact List.drop_left)]
  simp only [rowB, rowT, List.length_append, List.singleton_append]
theorem parR_cut {ts : List Tk} {q : Nat} (h : Rw10 ts) (hq : q < (rowB ts).length) : (parR ((rowB ts).take q)).bad = true ∧ TokOks (parR ((rowB ts).take q)) := by
  have h10 := h.len
  by_cases hh : q < (headL 4 ts.length).length
  · have e : (rowB ts).take q = (headL 4 ts.length).take q := List.take_append_of_le_length (by omega)
    have hg : getR ((rowB ts).take q) 0 = getBad := getR_cut (m := 4) (n := ts.length) (by decide) (by omega) (Nat.zero_le _) hh (by rw [List.drop_zero, e])
    show (pItem _ (6 + 1) ⟨0, [], false⟩).bad = true ∧ TokOks (pItem _ (6 + 1) ⟨0, [], false⟩)
    rw [pItem_bad (by rw [hg]; decide)]
    exact ⟨rfl, fun t ht => by cases ht⟩
  · have e : (rowB ts).take q = headL 4 ts.length ++ (ts.flatMap itemB).take (q - (headL 4 ts.length).length) := by
      rw [rowB, List.take_append, List.take_of_length_le (by omega)]
    rw [parR_head h e]
    simp only [rowB, List.length_append] at hq
    refine pRep_cut (k := 5) ts _ (q - (headL 4 ts.length).length) h.flat rfl (by simp only [List.length_cons, List.length_nil]; omega) (by rw [e]; simp only [List.length_append]; omega) (fun t ht => ?_) (by omega) (by show List.drop (headL 4 ts.length).length _ = _; rw [e]; exact List.drop_left)
    simp only [List.mem_singleton] at ht
    subst ht
    exact ⟨by show (5 : Int) ≠ 6; decide, by show (0 : Nat) ≤ 100000; decide, by show ((ts.length : Nat) : Int) ≤ _; omega⟩
theorem dec_cut {ts : List Tk} {q : Nat} (h : Rw10 ts) (hq : q < (rowB ts).length) : (decR ((rowB ts).take q)).2 ≠ 0 ∧ ∀ t, t ∈ (parR ((rowB ts).take q)).ts → tokOk t := by
  obtain ⟨h1, h2⟩ := parR_cut h hq
  refine ⟨?_, h2⟩
  unfold decR
  split
  · decide
  · rw [if_pos (.inl h1)]; decide
theorem flatT_flat {t : Tk} (h : FlatT t) : FlatT (flatT t) := ⟨h.len, h.kind⟩
theorem itemB_flatT (t : Tk) : itemB (flatT t) = itemB t := rfl
theorem enc_row {ts : List Tk} (h : Rw10 ts) : encT (rowT ts) = (rowB ts, 0) := by
  have hmap : (ts.map flatT).flatMap itemB = ts.flatMap itemB := by
    rw [List.flatMap_map]; rfl
  have h1 := arrL_eq (ts.map flatT) (fun t ht => by
    obtain ⟨u, hu, rfl⟩ := List.mem_map.1 ht
    exact flatT_flat (h.flat u hu).flat) (by rw [List.length_map]; exact h.len)
  rw [List.length_map, hmap] at h1
  have e : encT (rowT ts) = enc ⟨true, (lToks (ts.map flatT)).n + 1, arrTk (lToks (ts.map flatT)).n (lToks (ts.map flatT)).ts⟩ := by
    have ef : (fun k => flatT (lTk (rowT ts) k)) = arrTk (lToks (ts.map flatT)).n (lToks (ts.map flatT)).ts := by
      funext k
      cases k with
      | zero => simp [lToks, arrTk, rowT, lTk, flatT]
      | succ k =>
        show flatT (lTk (rowT ts) (k + 1)) = lTk (ts.map flatT) k
        have e1 : lTk (rowT ts) (k + 1) = lTk (ts.map flatT) k := rfl
        rw [e1]
        by_cases hk : k < ts.length
        · simp [lTk, List.getD_eq_getElem?_getD, hk, flatT]
        · simp [lTk, List.getD_eq_getElem?_getD, Nat.le_of_not_lt hk, flatT]
    show enc ⟨true, (rowT ts).length, fun k => flatT (lTk (rowT ts) k)⟩ = _
    rw [ef]
    simp [rowT, lToks]
  have h2 : (encT (rowT ts)).1 = rowB ts := by rw [e]; exact h1
  have h3 : (encT (rowT ts)).2 = 0 := by
    have hne : (encT (rowT ts)).1 ≠ [] := by
      rw [h2]
      intro hc
      have := (rowB_len h).2
      rw [hc] at this
      simp at this
    unfold encT at hne ⊢
    unfold enc at hne ⊢
    split at hne
    · exact absurd rfl hne
    · split at hne
      · exact absurd rfl hne
      · rename_i a1 a2
        rw [if_neg a1, if_neg a2]
  exact Prod.ext h2 h3
theorem dec_whole {ts : List Tk} (h : Rw10 ts) : decR (rowB ts) = (rowT ts, 0) ∧ ∀ t, t ∈ (parR (rowB ts)).ts → tokOk t := by
  have hp := parR_whole h
  have hl := (rowB_len h).1
  constructor
  · unfold decR
    rw [if_neg (by omega), hp, if_neg (fun h => h.elim (fun h => by cases h) fun h => h rfl)]
    show (if (encT (rowT ts)).2 ≠ 0 ∨ (encT (rowT ts)).1 ≠ rowB ts then _ else _) = _
    rw [enc_row h, if_neg (fun h => h.elim (fun h => h rfl) fun h => h rfl)]
  · rw [hp]
    intro t ht
    have h10 := h.len
    simp only [rowT, List.mem_cons, List.mem_map] at ht
    rcases ht with rfl | ⟨u, hu, rfl⟩
    · exact ⟨by show (5 : Int) ≠ 6; decide, by show (0 : Nat) ≤ 100000; decide, by show ((ts.length : Nat) : Int) ≤ _; omega⟩
    · exact tokOk_flat (h.flat u hu)
end Go.Proofs.YtimaobccedeafaaGreatDoor
