/- Part of the claim: Z61, Z62. -/
import Derived.Test.YtimaobccedeafaaGreatDoorZG
/- A state tells the frontier: in plain lists. -/
namespace Go.Proofs.YtimaobccedeafaaGreatDoor
set_option linter.unusedVariables false
set_option linter.unusedSimpArgs false
set_option maxRecDepth 100000
open Go Go.DD
/-- A feed that a set may have. -/
structure OkF (f : Fd) : Prop where
  pre : preF f
  look : (lookF f).2 = true
theorem OkF.n {f : Fd} (h : OkF f) : f.n ≤ 200 := (look_ents h.look).1
theorem OkF.lastN {f : Fd} (h : OkF f) : lastF f = ((lastR f).1, (lastR f).2, 0) ∧ (lastR f).1 = ((f.n : Nat) : Int) ∧ (lastR f).2.length = 32 := by
  have h0 := lastR_eq h.look
  have h1 := lastF_ok h.look
  have e1 : (lastR f).1 = ((f.n : Nat) : Int) := (congrArg Prod.fst h0).symm.trans (congrArg Prod.fst h1)
  have e2 : (lastR f).2 = (lookF f).1 := (congrArg (fun x => x.2.1) h0).symm.trans (congrArg (fun x => x.2.1) h1)
  exact ⟨h0, e1, by rw [e2]; exact lookF_length f⟩
theorem feedB_shut {f : Fd} (h : OkF f) (hs : f.shut = true) (r : List UInt8) : feedB f ++ r = headL 4 2 ++ (headL 0 (5 : Int).toNat ++ (headL 2 f.author.length ++ (f.author ++ r))) := by
  rw [feedB_eq h.pre.1 h.look]
  have e : feedT f = [numT 5, bytT true f.author] := if_pos hs
  rw [e]
  simp only [List.flatMap_cons, List.flatMap_nil, List.append_assoc, item_num, item_byt, List.length_cons, List.length_nil, List.nil_append, List.append_nil]
theorem feedB_open {f : Fd} (h : OkF f) (hs : f.shut = false) (r : List UInt8) : feedB f ++ r = headL 4 4 ++ (headL 0 (6 : Int).toNat ++ (headL 2 f.author.length ++ (f.author ++ (headL 0 (lastR f).1.toNat ++ (headL 2 (lastR f).2.length ++ ((lastR f).2 ++ r)))))) := by
  rw [feedB_eq h.pre.1 h.look]
  have e : feedT f = [numT 6, bytT true f.author, numT (lastR f).1, bytT true (lastR f).2] := by
    rw [feedT, if_neg (by simp [hs]), h.lastN.1]
  rw [e]
  simp only [List.flatMap_cons, List.flatMap_nil, List.append_assoc, item_num, item_byt, List.length_cons, List.length_nil, List.nil_append, List.append_nil]
theorem cellB_head {c : Ce} (h : OkCe c) (r : List UInt8) : ∃ t, cellB c ++ r = headL 4 7 ++ t := ⟨_, by rw [cellB_eq h, List.append_assoc]⟩
theorem feedB_head {f : Fd} (h : OkF f) (r : List UInt8) : ∃ t, feedB f ++ r = headL 4 (if f.shut then 2 else 4) ++ t := by
  cases hs : f.shut with
  | true => exact ⟨_, feedB_shut h hs r⟩
  | false => exact ⟨_, feedB_open h hs r⟩
theorem headL_ne (m n : Nat) (r : List UInt8) : headL m n ++ r ≠ [] := by simp [headL]
theorem feedB_inj {f g : Fd} (hf : OkF f) (hg : OkF g) {r s : List UInt8} (h : feedB f ++ r = feedB g ++ s) : headR f = headR g ∧ r = s := by
  have l1 := hf.pre.1
  have l2 := hg.pre.1
  obtain ⟨_, n1, k1⟩ := hf.lastN
  obtain ⟨_, n2, k2⟩ := hg.lastN
  have m1 := hf.n
  have m2 := hg.n
  cases hs : f.shut with
  | true => cases hs' : g.shut with
    | true =>
      rw [feedB_shut hf hs, feedB_shut hg hs'] at h
      have h1 := (headL_inj (by decide) (by decide) (by decide) h).2
      have h2 := (headL_inj (by decide) (by decide) (by decide) h1).2
      obtain ⟨h3, h4⟩ := byt_inj (by decide) (by omega) (by omega) h2
      exact ⟨by simp only [headR, hs, hs', if_pos, h3], h4⟩
    | false =>
      rw [feedB_shut hf hs, feedB_open hg hs'] at h
      exact absurd (headL_inj (by decide) (by decide) (by decide) h).1 (by decide)
  | false => cases hs' : g.shut with
    | true =>
      rw [feedB_open hf hs, feedB_shut hg hs'] at h
      exact absurd (headL_inj (by decide) (by decide) (by decide) h).1 (by decide)
    | false =>
      rw [feedB_open hf hs, feedB_open hg hs'] at h
      have h1 := (headL_inj (by decide) (by decide) (by decide) h).2
      have h2 := (headL_inj (by decide) (by decide) (by decide) h1).2
      obtain ⟨h3, h4⟩ := byt_inj (by decide) (by omega) (by omega) h2
      obtain ⟨h5, h6⟩ := num_inj (by omega) (by omega) (by omega) (by omega) h4
      obtain ⟨h7, h8⟩ := byt_inj (by decide) (by omega) (by omega) h6
      exact ⟨by simp [headR, hs, hs', h3, h5, h7], h8⟩
theorem feed_cell {f : Fd} {c : Ce} (hf : OkF f) (hc : OkCe c) {r s : List UInt8} (h : feedB f ++ r = cellB c ++ s) : False := by
  obtain ⟨t, ht⟩ := feedB_head hf r
  obtain ⟨u, hu⟩ := cellB_head hc s
  rw [ht, hu] at h
  have h1 := (headL_inj (by decide) (by split <;> decide) (by decide) h).1
  split at h1 <;> omega
theorem feed_nil {f : Fd} (hf : OkF f) {r : List UInt8} (h : feedB f ++ r = []) : False := by
  obtain ⟨t, ht⟩ := feedB_head hf r
  rw [ht] at h
  exact headL_ne _ _ _ h
/-- The feeds' bytes, the first ahead. -/
def fB : List Fd → List UInt8 | [] => [] | f :: l => feedB f ++ fB l
def cB : List Ce → List UInt8 | [] => [] | c :: l => cellB c ++ cB l
theorem fB_app : ∀ (l m : List Fd), fB (l ++ m) = fB l ++ fB m
  | [], m => rfl
  | f :: l, m => by simp only [fB, List.cons_append, List.append_assoc, fB_app l m]
theorem cB_app : ∀ (l m : List Ce), cB (l ++ m) = cB l ++ cB m
  | [], m => rfl
  | f :: l, m => by simp only [cB, List.cons_append, List.append_assoc, cB_app l m]
def fdL (n : Nat) (l : Nat → Fd) : List Fd := (List.range n).map l
theorem fdL_succ (n : Nat) (l : Nat → Fd) : fdL (n + 1) l = fdL n l ++ [l n] := by simp [fdL, List.range_succ]
theorem feedsB_eq (l : Nat → Fd) : ∀ n, feedsB l n = fB (fdL n l)
  | 0 => rfl
  | n + 1 => by rw [feedsB, fdL_succ, fB_app, feedsB_eq l n]; simp [fB]
theorem cellsB_eq (cs : List Ce) : ∀ n, n ≤ cs.length → cellsB cs n = cB (cs.take n)
  | 0, _ => by simp [cellsB, cB]
  | n + 1, h => by
    rw [cellsB, cellsB_eq cs n (by omega), List.take_add_one, cB_app, List.getElem?_eq_getElem (by omega)]
    simp [cB, gce, List.getD_eq_getElem?_getD, List.getElem?_eq_getElem (show n < cs.length by omega)]
theorem cells_all (cs : List Ce) : cellsB cs cs.length = cB cs := by rw [cellsB_eq cs _ (Nat.le_refl _), List.take_length]
theorem cB_feed {cs : List Ce} {f : Fd} {r : List UInt8} (hf : OkF f) (hc : ∀ c, c ∈ cs → OkCe c) (h : feedB f ++ r = cB cs) : False := by
  cases cs with
  | nil => exact feed_nil hf h
  | cons c l => exact feed_cell hf (hc c (by simp)) (show feedB f ++ r = cellB c ++ cB l from h)
theorem heads_inj {cs ds : List Ce} (hc : ∀ c, c ∈ cs → OkCe c) (hd : ∀ c, c ∈ ds → OkCe c) : ∀ (l m : List Fd), (∀ f, f ∈ l → OkF f) → (∀ f, f ∈ m → OkF f) → fB l ++ cB cs = fB m ++ cB ds → l.map headR = m.map headR ∧ cB cs = cB ds
  | [], [], _, _, h => ⟨rfl, h⟩
  | [], g :: m, _, hm, h => by
    refine (cB_feed (hm g (by simp)) hc (r := fB m ++ cB ds) ?_).elim
    rw [← List.append_assoc]; exact h.symm
  | f :: l, [], hl, _, h => by
    refine (cB_feed (hl f (by simp)) hd (r := fB l ++ cB cs) ?_).elim
    rw [← List.append_assoc]; exact h
  | f :: l, g :: m, hl, hm, h => by
    simp only [fB, List.append_assoc] at h
    obtain ⟨h1, h2⟩ := feedB_inj (hl f (by simp)) (hm g (by simp)) h
    obtain ⟨h3, h4⟩ := heads_inj hc hd l m (fun x hx => hl x (by simp [hx])) (fun x hx => hm x (by simp [hx])) h2
    exact ⟨by simp only [List.map_cons, h1, h3], h4⟩
theorem okF_of {a : Fds} (ha : tyL a) (h : feedsOk a.n a.l = true) : ∀ f, f ∈ fdL a.n a.l → OkF f := fun f hf => by
  obtain ⟨k, hk, rfl⟩ := List.mem_map.1 hf
  have hk' := List.mem_range.1 hk
  exact ⟨ha k hk', (feedsOk_look h).2.2 k hk'⟩
theorem state_fB {a : Fds} (h : feedsOk a.n a.l = true) : (stateR a).1 = fB (fdL a.n a.l) ++ cB (viewL a.n a.l) := by
  rw [stateR, if_pos h]
  show feedsB a.l a.n ++ cellsB _ _ = _
  rw [feedsB_eq, cells_all]
theorem allB_iff {f : Nat → Bool} {n : Nat} : allB f n = true ↔ ∀ k, k < n → f k = true := by
  simp [allB, List.all_eq_true]
/-- Equal states: equal frontiers. -/
theorem state_tells {a b : Fds} (ha : tyL a) (hb : tyL b) (h1 : feedsOk a.n a.l = true) (h2 : feedsOk b.n b.l = true) (h : (stateR a).1 = (stateR b).1) : a.n = b.n ∧ ∀ k, k < a.n → headR (a.l k) = headR (b.l k) := by
  rw [state_fB h1, state_fB h2] at h
  have h3 := (heads_inj (fun c hc => viewL_mem ha hc) (fun c hc => viewL_mem hb hc) _ _ (okF_of ha h1) (okF_of hb h2) h).1
  have h4 : a.n = b.n := by
    have := congrArg List.length h3
    simpa [fdL] using this
  refine ⟨h4, fun k hk => ?_⟩
  have := congrArg (·[k]?) h3
  simpa [fdL, List.getElem?_map, List.getElem?_range hk, List.getElem?_range (h4 ▸ hk)] using this
theorem eqH_iff {a b : Hd} : eqH a b = true ↔ a = b := by
  cases a; cases b
  simp [eqH, and_assoc]
theorem eqHs_iff {n m : Nat} {g h : Nat → Hd} : eqHs n g m h = true ↔ n = m ∧ ∀ k, k < n → g k = h k := by
  simp [eqHs, allB_iff, eqH_iff]
/-- Same sets: equal frontiers. -/
theorem same_heads {x : SmA} (ha : tyL x.a) (hb : tyL x.b) (h : sameR x = true) : feedsOk x.a.n x.a.l = true ∧ feedsOk x.b.n x.b.l = true ∧ x.a.n = x.b.n ∧ ∀ k, k < x.a.n → headR (x.a.l k) = headR (x.b.l k) := by
  simp only [sameR, Bool.and_eq_true, decide_eq_true_eq, allB_iff] at h
  obtain ⟨⟨⟨h1, h2⟩, h3⟩, h4⟩ := h
  refine ⟨h1, h2, h3, fun k hk => ?_⟩
  have hs := h4 k hk
  have ok1 := (feedsOk_look h1).2.2 k hk
  have ok2 := (feedsOk_look h2).2.2 k (h3 ▸ hk)
  have p1 := ha k hk
  have p2 := hb k (h3 ▸ hk)
  generalize x.a.l k = f at hs ok1 p1
  generalize x.b.l k = g at hs ok2 p2
  simp only [sameFd, Bool.and_eq_true, Bool.or_eq_true, decide_eq_true_eq, allB_iff] at hs
  obtain ⟨⟨e1, e2⟩, e3⟩ := hs
  cases hsh : f.shut with
  | true => simp only [headR, ← e2, hsh, if_pos, e1]
  | false =>
    rcases e3 with e3 | ⟨e3, e4⟩
    · rw [hsh] at e3; cases e3
    · have e5 : lastR f = lastR g := by
        unfold lastR
        rw [← e3]
        by_cases h0 : f.n = 0
        · rw [if_pos h0, if_pos h0]
        · rw [if_neg h0, if_neg h0]
          have h6 := e4 (f.n - 1) (by omega)
          rw [alikeE_eq (p1.2.1 _ (by omega)) ((look_ents ok1).2 _ (by omega)) (p2.2.1 _ (by omega)) ((look_ents ok2).2 _ (by omega)), eqE_iff] at h6
          rw [h6]
      simp [headR, ← e2, hsh, e1, e5]
end Go.Proofs.YtimaobccedeafaaGreatDoor

/- StateTells. -/
namespace Go.Proofs.YtimaobccedeafaaGreatDoor
set_option linter.unusedVariables false
set_option linter.unusedSimpArgs false
set_option maxRecDepth 100000
open Go Go.DD
theorem stateR_err {a : Fds} : (stateR a).2 = if feedsOk a.n a.l then 0 else 1 := by
  unfold stateR; split <;> rfl
theorem wfH_of {f : Fd} (h : preF f) (hl : (lookF f).2 = true) : wfH (headR f) := by
  have hk := (OkF.lastN ⟨h, hl⟩).2.2
  cases hs : f.shut with
  | true => rw [headR, if_pos hs]; exact ⟨h.1, by simp [z32]⟩
  | false => rw [headR, if_neg (by simp [hs])]; exact ⟨h.1, hk⟩
def F5 : FSpec := mkG (fun (x : SmA) => [fdsV x.a.b x.a.n x.a.l, fdsV x.b.b x.b.n x.b.l]) (fun x => tyL x.a ∧ tyL x.b) (fun _ => true) .bool
theorem f5_ok : FOk Tryz.prog G 5 F5 := mkG_ok fun ⟨a, b⟩ ⟨ta, tb⟩ => by
  replace ta : tyL a := ta
  replace tb : tyL b := tb
  show CP _ _ _ [fdsV a.b a.n a.l, fdsV b.b b.n b.l] fun v => Ld v (.bool true)
  have hΓ := ctxG_ok Tryz.f5.ntmps [(9, F9c), (11, F11), (13, F13), (16, F16), (17, F17), (18, F71), (22, F22), (23, F23)] [] [] (.cons (f9c_ok.g) (.cons (f11_ok) (.cons (f13_ok) (.cons (f16_ok) (.cons (f17_ok) (.cons (f18_ok.g) (.cons (f22_ok.g) (.cons (f23_ok) .nil)))))))) .nil
  refine CP_of_OK hΓ Tryz.func5 (c := bodyOf Tryz.f5) rfl (by decide) rfl rfl (by simp) (vc_ok hΓ mixed 1000 _ [] _ (by kernel_rfl) rfl ?_)
  conv => whnf
  refine ⟨a, ⟨AE.refl _, trivial⟩, ⟨trivial⟩, ?_⟩
  intro r hr
  replace hr : r = heavy18 a.n a.l := hr
  conv => whnf
  repeat' (first | (refine And.intro (fun _ => ?_) (fun _ => ?_) <;> conv => whnf) | (refine And.intro ?_ ?_ <;> conv => whnf))
  · exact Ld.refl _
  rename_i g1
  replace g1 : r = false := g1
  rw [g1] at hr
  refine ⟨b, ⟨AE.refl _, trivial⟩, ⟨trivial⟩, ?_⟩
  intro q hq
  replace hq : q = heavy18 b.n b.l := hq
  conv => whnf
  repeat' (first | (refine And.intro (fun _ => ?_) (fun _ => ?_) <;> conv => whnf) | (refine And.intro ?_ ?_ <;> conv => whnf))
  · exact Ld.refl _
  rename_i g2
  replace g2 : q = false := g2
  rw [g2] at hq
  obtain ⟨la1, la2⟩ := light hr.symm ta
  obtain ⟨lb1, lb2⟩ := light hq.symm tb
  refine ⟨a, ⟨AE.refl _, trivial⟩, ⟨fun k hk => (la2 k hk).set⟩, ?_⟩
  intro u hu
  replace hu : u = feedsOk a.n a.l := hu
  conv => whnf
  repeat' (first | (refine And.intro (fun _ => ?_) (fun _ => ?_) <;> conv => whnf) | (refine And.intro ?_ ?_ <;> conv => whnf))
  · exact Ld.refl _
  rename_i g3
  replace g3 : u = true := by simpa using g3
  rw [g3] at hu
  refine ⟨b, ⟨AE.refl _, trivial⟩, ⟨fun k hk => (lb2 k hk).set⟩, ?_⟩
  intro w hw
  replace hw : w = feedsOk b.n b.l := hw
  conv => whnf
  repeat' (first | (refine And.intro (fun _ => ?_) (fun _ => ?_) <;> conv => whnf) | (refine And.intro ?_ ?_ <;> conv => whnf))
  · exact Ld.refl _
  rename_i g4
  replace g4 : w = true := by simpa using g4
  rw [g4] at hw
  refine ⟨a, ⟨AE.refl _, trivial⟩, ⟨ta⟩, ?_⟩
  intro s hs
  replace hs : s = stateR a := hs
  have s2 : s.2 = 0 := by rw [hs, stateR_err, if_pos hu.symm]
  conv => whnf
  repeat' (first | (refine And.intro (fun _ => ?_) (fun _ => ?_) <;> conv => whnf) | (refine And.intro ?_ ?_ <;> conv => whnf))
  refine ⟨b, ⟨AE.refl _, trivial⟩, ⟨tb⟩, ?_⟩
  intro t ht
  replace ht : t = stateR b := ht
  have t2 : t.2 = 0 := by rw [ht, stateR_err, if_pos hw.symm]
  conv => whnf
  repeat' (first | (refine And.intro (fun hp => ?_) (fun hp => ?_) <;> first | (exfalso; revert hp; simp [s2, t2]; done) | conv => whnf) | (refine And.intro ?_ ?_ <;> conv => whnf))
  refine ⟨a, ⟨AE.refl _, trivial⟩, ⟨ta, hu.symm⟩, ?_⟩
  intro h1 e1
  obtain rfl : h1 = (a.n, fun k => headR (a.l k)) := e1
  conv => whnf
  repeat' (first | (refine And.intro (fun _ => ?_) (fun _ => ?_) <;> conv => whnf) | (refine And.intro ?_ ?_ <;> conv => whnf))
  refine ⟨b, ⟨AE.refl _, trivial⟩, ⟨tb, hw.symm⟩, ?_⟩
  intro h2 e2
  obtain rfl : h2 = (b.n, fun k => headR (b.l k)) := e2
  conv => whnf
  repeat' (first | (refine And.intro (fun _ => ?_) (fun _ => ?_) <;> conv => whnf) | (refine And.intro ?_ ?_ <;> conv => whnf))
  refine ⟨⟨false, a.n, fun k => headR (a.l k), false, b.n, fun k => headR (b.l k)⟩, ⟨AE.refl _, AE.refl _, trivial⟩, ⟨by show a.n ≤ 1000000; omega, fun k hk => wfH_of (ta k hk) ((feedsOk_look hu.symm).2.2 k hk), fun k hk => wfH_of (tb k hk) ((feedsOk_look hw.symm).2.2 k hk)⟩, ?_⟩
  intro e he
  replace he : e = eqHs a.n (fun k => headR (a.l k)) b.n (fun k => headR (b.l k)) := he
  conv => whnf
  repeat' (first | (refine And.intro (fun _ => ?_) (fun _ => ?_) <;> conv => whnf) | (refine And.intro ?_ ?_ <;> conv => whnf))
  · refine ⟨(), trivial, ⟨trivial⟩, ?_⟩
    intro z hz
    obtain rfl : z = true := hz
    conv => whnf
    repeat' (first | (refine And.intro (fun _ => ?_) (fun _ => ?_) <;> conv => whnf) | (refine And.intro ?_ ?_ <;> conv => whnf))
    exact Ld.refl _
  rename_i g5
  replace g5 : e = false := g5
  have hne : ¬ (a.n = b.n ∧ ∀ k, k < a.n → headR (a.l k) = headR (b.l k)) := fun hh => by
    rw [g5] at he
    have := eqHs_iff.2 hh
    rw [← he] at this
    cases this
  refine ⟨(.of false s.1, .of false t.1), ⟨AE.refl _, AE.refl _, trivial⟩, ⟨⟨trivial, by rw [hs]; exact stateR_len ta⟩, trivial⟩, ?_⟩
  intro y hy
  replace hy : y = false := hy.trans (decide_eq_false fun hh => hne (state_tells ta tb hu.symm hw.symm (by rw [← hs, ← ht]; exact hh)))
  conv => whnf
  repeat' (first | (refine And.intro (fun hp => ?_) (fun hp => ?_) <;> first | (exfalso; revert hp; simp [hy]; done) | conv => whnf) | (refine And.intro ?_ ?_ <;> conv => whnf))
  refine ⟨⟨a, b⟩, ⟨AE.refl _, AE.refl _, trivial⟩, ⟨ta, tb⟩, ?_⟩
  intro v hv
  replace hv : v = false := hv.trans (Bool.eq_false_iff.2 fun hh => hne ⟨(same_heads ta tb hh).2.2.1, (same_heads ta tb hh).2.2.2⟩)
  conv => whnf
  repeat' (first | (refine And.intro (fun hp => ?_) (fun hp => ?_) <;> first | (exfalso; revert hp; simp [hv]; done) | conv => whnf) | (refine And.intro ?_ ?_ <;> conv => whnf))
  refine ⟨(), trivial, ⟨trivial⟩, ?_⟩
  intro z hz
  obtain rfl : z = true := hz
  conv => whnf
  repeat' (first | (refine And.intro (fun _ => ?_) (fun _ => ?_) <;> conv => whnf) | (refine And.intro ?_ ?_ <;> conv => whnf))
  exact Ld.refl _
end Go.Proofs.YtimaobccedeafaaGreatDoor
