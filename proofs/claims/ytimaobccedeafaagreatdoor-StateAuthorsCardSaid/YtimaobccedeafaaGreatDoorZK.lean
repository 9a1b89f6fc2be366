/- Part of the claim: Z67. -/
import Derived.Test.YtimaobccedeafaaGreatDoorZJ
/- StateAuthors. -/
namespace Go.Proofs.YtimaobccedeafaaGreatDoor
set_option linter.unusedVariables false
set_option linter.unusedSimpArgs false
set_option maxRecDepth 100000
open Go Go.DD
theorem findN_no {l : Nat → Fd} {author : List UInt8} : ∀ (n i : Nat), findN l author n i < 0 → ∀ k, k < n → (l (i + k)).author ≠ author
  | 0, _, _, _, hk => absurd hk (Nat.not_lt_zero _)
  | n + 1, i, h, k, hk => by
    simp only [findN] at h
    split at h
    · omega
    · rename_i hne
      cases k with
      | zero => exact hne
      | succ k =>
        have := findN_no n (i + 1) h k (by omega)
        rwa [show i + 1 + k = i + (k + 1) by omega] at this
/-- With one more at a place. -/
def insF (l : Nat → Fd) (i : Nat) (f : Fd) (k : Nat) : Fd := if k < i then l k else if k = i then f else l (k - 1)
theorem noneE_ent0 : noneE ent0 = true := by decide
theorem look_new (author : List UInt8) : (lookF (newFd author)).2 = true := by
  show ((folR author (fun _ => ent0) 0).2 && (noneE ent0 && noneE ent0)) = true
  rw [noneE_ent0]
  rfl
theorem feedsOk_ins {n i : Nat} {l : Nat → Fd} {author : List UInt8} (h : feedsOk n l = true) (hn : n < 8) (hi : i ≤ n) (h1 : ∀ k, k < i → cmpB (l k).author author < 0) (h2 : i < n → cmpB author (l i).author < 0) :
    feedsOk (n + 1) (insF l i (newFd author)) = true := by
  rw [feedsOk_iff] at h ⊢
  obtain ⟨h3, h4, h5⟩ := h
  refine ⟨by omega, fun k hk => ?_, fun k h0 hk => ?_⟩
  · unfold insF
    split
    · exact h4 _ (by omega)
    · split
      · exact look_new _
      · exact h4 _ (by omega)
  · unfold insF
    by_cases k1 : k < i
    · rw [if_pos (by omega), if_pos k1]
      exact h5 k h0 (by omega)
    · rw [if_neg k1]
      by_cases k2 : k = i
      · subst k2
        rw [if_pos (by omega), if_pos rfl]
        exact h1 _ (by omega)
      · rw [if_neg k2, if_neg (by omega)]
        by_cases k3 : k - 1 = i
        · rw [if_pos k3, k3]
          exact h2 (by omega)
        · rw [if_neg k3]
          exact h5 (k - 1) (by omega) (by omega)
theorem preE_ent0 : preE ent0 := ⟨⟨by decide, by decide, by decide⟩, by decide⟩
theorem preF_new {author : List UInt8} (h : author.length = 32) : preF (newFd author) := ⟨h, fun k hk => absurd hk (Nat.not_lt_zero _), preE_ent0, preE_ent0⟩
theorem less_fd {l : Nat → Fd} {i : Nat} {author : List UInt8} (h1 : (l i).author.length = 32) (h2 : author.length = 32) (x : Bool)
    (h : Op.bytesLess (bytesOf (32 - Int.toNat 0) fun k => bf (l i).author (Int.toNat 0 + k)) (bytesOf (32 - Int.toNat 0) fun k => bf author (Int.toNat 0 + k)) = x) : decide (cmpB (l i).author author < 0) = x := by
  have e1 : (bytesOf (32 - Int.toNat 0) fun k => bf (l i).author (Int.toNat 0 + k)) = (l i).author := sub32 h1
  have e2 : (bytesOf (32 - Int.toNat 0) fun k => bf author (Int.toNat 0 + k)) = author := sub32 h2
  rw [e1, e2, less_eq] at h
  exact h
theorem takeF {f : Nat → V} {lo n : Nat} {q : Bool} (h : anyRef f lo n = q) : ∃ F, F = f ∧ anyRef F lo n = q := ⟨f, rfl, h⟩
theorem RE.emp {b : Bool} {sz : Nat} {f : Nat → V} : RE .emp (.imm b sz 0 f) where
  size := rfl
  r := fun E c o h => by
    simp only [R] at h ⊢
    obtain ⟨a, h⟩ := h
    exact ⟨a, 0, h, Nat.le_refl _, .inl trivial⟩
theorem RE.ff : RE .ff (.bool false) := ⟨rfl, fun _ _ _ h => h⟩
theorem RE_zero (n : Nat) : RE (.row 1 n fun _ => .int .u8 0) (arrV n (List.replicate n 0)) := RE.row fun k _ => RE.of (bf_rep n k).symm
theorem RE_zV : RE zV (entV ent0) := RE.st ⟨RE_zero 32, RE.refl _, RE_zero 32, RE.refl _, RE.st ⟨RE.refl _, RE.refl _, RE.emp, trivial⟩, RE_zero 64, trivial⟩
theorem RE_new (author : List UInt8) : RE (newV author) (fdV (newFd author)) := RE.st ⟨RE.refl _, RE.emp, RE.ff, RE.st ⟨RE_zV, RE_zV, trivial⟩, trivial⟩
theorem noref_new (author : List UInt8) : noref (newV author) := by simp [newV, zV, arrV, bf, noref, norefs]
theorem AE.immR {b : Bool} {sz n m : Nat} {f g : Nat → V} (hn : n = m) (h : ∀ k, k < m → RE (f k) (g k)) : AE (.imm b sz n f) (.imm b sz m g) := by
  subst hn
  exact fun E x hT => ⟨hT.1, (RE.imm h).r _ _ _ hT.2⟩
/-- Not shut any more. -/
def openF (f : Fd) : Fd := { f with shut := false, pf := ⟨ent0, ent0⟩ }
theorem look_open {f : Fd} (h : (lookF f).2 = true) : (lookF (openF f)).2 = true := by
  simp only [lookF, Bool.and_eq_true] at h
  show ((folR f.author f.es f.n).2 && (noneE ent0 && noneE ent0)) = true
  rw [noneE_ent0, h.1]
  rfl
theorem preF_open {f : Fd} (h : preF f) : preF (openF f) := ⟨h.1, h.2.1, preE_ent0, preE_ent0⟩
def opV2 (f : Fd) : V := .st (.cons (arrV 32 f.author) (.cons (.imm false 133 f.n fun k => entV (f.es k)) (.cons .ff (.cons (.st (.cons zV (.cons zV .nil))) .nil))))
theorem RE_open (f : Fd) : RE (opV2 f) (fdV (openF f)) := RE.st ⟨RE.refl _, RE.refl _, RE.ff, RE.st ⟨RE_zV, RE_zV, trivial⟩, trivial⟩
theorem noref_open (f : Fd) : noref (opV2 f) := by simp [opV2, zV, entV, opV, byV, arrV, bf, noref, norefs]
structure AuA where
  a : Fds
  k : Int
  author : List UInt8
def F6 : FSpec := mkG (fun (x : AuA) => [fdsV x.a.b x.a.n x.a.l, .int .i64 x.k, arrV 32 x.author]) (fun x => tyL x.a ∧ x.author.length = 32) (fun _ => true) .bool
theorem f6_ok : FOk Tryz.prog G 6 F6 := mkG_ok fun ⟨a, k0, author⟩ ⟨ta, hau⟩ => by
  replace ta : tyL a := ta
  replace hau : author.length = 32 := hau
  show CP _ _ _ [fdsV a.b a.n a.l, .int .i64 k0, arrV 32 author] fun v => Ld v (.bool true)
  have hΓ := ctxG_ok Tryz.f6.ntmps [(9, F9c), (11, F11), (13, F13), (16, F16), (17, F17), (18, F71), (24, F24)] [(10, H10)] [] (.cons (f9c_ok.g) (.cons (f11_ok) (.cons (f13_ok) (.cons (f16_ok) (.cons (f17_ok) (.cons (f18_ok.g) (.cons (f24_ok.g) .nil))))))) (.cons (hg h10_ok) .nil)
  refine CP_of_OK hΓ Tryz.func6 (c := bodyOf Tryz.f6) rfl (by decide) rfl rfl (by simp) (vc_ok hΓ mixed 1000 _ [] _ (by kernel_rfl) rfl ?_)
  conv => whnf
  refine ⟨a, ⟨AE.refl _, trivial⟩, ⟨trivial⟩, ?_⟩
  intro r hr
  replace hr : r = heavy18 a.n a.l := hr
  conv => whnf
  repeat' (first | (refine And.intro (fun _ => ?_) (fun _ => ?_) <;> conv => whnf) | (refine And.intro ?_ ?_ <;> conv => whnf))
  · exact Ld.refl _
  rename_i g1
  replace g1 : r = false := g1
  rw [g1] at hr
  obtain ⟨la1, la2⟩ := light hr.symm ta
  refine ⟨a, ⟨AE.refl _, trivial⟩, ⟨fun k hk => (la2 k hk).set⟩, ?_⟩
  intro u hu
  replace hu : u = feedsOk a.n a.l := hu
  conv => whnf
  refine And.intro (fun _ => ?_) (fun g3 => ?_)
  · conv => whnf
    repeat' (first | (refine And.intro (fun _ => ?_) (fun _ => ?_) <;> conv => whnf) | (refine And.intro ?_ ?_ <;> conv => whnf))
    exact Ld.refl _
  replace g3 : u = true := by simpa using g3
  rw [g3] at hu
  obtain ⟨kk, hkk, ek⟩ := pick_of k0 (feedsOk_look hu.symm).1 (show a.n ≤ 1000 by omega)
  conv => whnf
  repeat' (first | (refine And.intro (fun _ => ?_) (fun _ => ?_) <;> conv => whnf) | (refine And.intro ?_ ?_ <;> conv => whnf))
  · exact Ld.refl _
  · exact ⟨fun k _ => by trivial⟩
  rename_i g4
  replace g4 : ¬ (8 : Int) ≤ a.n := of_decide_eq_false g4
  refine ⟨⟨a, author⟩, ⟨AE.refl _, AE.refl _, trivial⟩, ⟨hau, fun k hk => (ta k hk).1, by show a.n ≤ 1000000; omega⟩, ?_⟩
  intro f hf
  replace hf : f = findR a.l a.n author := hf
  conv => whnf
  repeat' (first | (refine And.intro (fun _ => ?_) (fun _ => ?_) <;> conv => whnf) | (refine And.intro ?_ ?_ <;> conv => whnf))
  · exact Ld.refl _
  rename_i g5
  replace g5 : ¬ (0 : Int) ≤ f := of_decide_eq_false g5
  have hno : ∀ k, k < a.n → (a.l k).author ≠ author := fun k hk => by
    have := findN_no a.n 0 (show findR a.l a.n author < 0 by rw [← hf]; omega) k hk
    rwa [Nat.zero_add] at this
  refine OK_loopC (ι := Nat) (fun i => [(0, fdsV a.b a.n a.l), (1, .int .i64 k0), (5, .ref 0 []), (7, .int .i64 (i : Nat))]) (fun i => [some (arrV 32 author)]) (fun i => i ≤ a.n ∧ ∀ k, k < i → cmpB (a.l k).author author < 0) (fun i => a.n - i) 0 [some 0] ?_ (fun i hi => vc_ok hΓ mixed 1000 _ [] _ (by kernel_rfl) rfl ?_)
  · conv => whnf
    repeat' (first | (refine And.intro (fun _ => ?_) (fun _ => ?_) <;> conv => whnf) | (refine And.intro ?_ ?_ <;> conv => whnf))
    all_goals try first | exact ⟨rfl⟩ | exact ⟨⟨rfl, rfl⟩⟩ | exact ⟨⟨rfl, rfl, rfl⟩⟩ | exact ⟨by omega⟩ | exact ⟨⟨by omega, by omega⟩⟩ | exact ⟨⟨by omega, by omega, by omega⟩⟩ | exact ⟨fun k _ => leV_refl _ (by simp [arrV, pln, bf])⟩ | exact ⟨Nat.zero_le _, fun k h => absurd h (Nat.not_lt_zero _)⟩ | exact ⟨fun _ _ => rfl⟩
  · obtain ⟨hi, hlt⟩ := hi
    conv => whnf
    repeat' (first | (refine And.intro (fun _ => ?_) (fun _ => ?_) <;> conv => whnf) | (refine And.intro ?_ ?_ <;> conv => whnf))
    all_goals (try simp only [decide_eq_true_eq, decide_eq_false_iff_not, Int.toNat_natCast, Nat.zero_add, Int.ofNat_lt] at *)
    all_goals try first | exact ⟨rfl⟩ | exact ⟨⟨rfl, rfl⟩⟩ | exact ⟨⟨rfl, rfl, rfl⟩⟩ | exact ⟨by omega⟩ | exact ⟨⟨by omega, by omega⟩⟩ | exact ⟨⟨by omega, by omega, by omega⟩⟩ | exact ⟨by decide⟩ | exact ⟨fun k _ => isU8_bf _ _⟩
    · rename_i hl hin
      have hl2 := of_decide_eq_true (less_fd (ta i hin).1 hau _ hl)
      refine ⟨i + 1, [some 0], ?_⟩
      conv => whnf
      repeat' (refine And.intro ?_ ?_ <;> conv => whnf)
      all_goals try first | exact ⟨rfl⟩ | exact ⟨⟨rfl, rfl⟩⟩ | exact ⟨⟨rfl, rfl, rfl⟩⟩ | exact ⟨by omega⟩ | exact ⟨⟨by omega, by omega⟩⟩ | exact ⟨⟨by omega, by omega, by omega⟩⟩ | exact ⟨fun k _ => leV_refl _ (by simp [arrV, pln, bf])⟩ | exact ⟨fun _ _ => rfl⟩ | exact ⟨⟨⟨by omega, fun k hk => if h : k = i then h ▸ hl2 else hlt k (by omega)⟩, by omega⟩⟩
      · exact ⟨by rw [wrap_id (by omega) (by omega)]; rfl⟩
    · rename_i hl hin
      have hl2 := of_decide_eq_false (less_fd (ta i hin).1 hau _ hl)
      have hgt : i < a.n → cmpB author (a.l i).author < 0 := fun _ => by
        have h0 : cmpB (a.l i).author author ≠ 0 := fun h => hno i hin (cmpB_zero.1 h)
        rw [cmpB_swap]
        omega
      refine vc_ok hΓ mixed 1000 _ [] _ (by kernel_rfl) rfl ?_
      conv => whnf
      refine And.intro ⟨by omega⟩ ?_
      conv => whnf
      refine ⟨⟨a.b, i, a.l⟩, [], ?_⟩
      conv => whnf
      repeat' (first | (refine And.intro (fun _ => ?_) (fun _ => ?_) <;> conv => whnf) | (refine And.intro ?_ ?_ <;> conv => whnf))
      all_goals try first | exact ⟨rfl⟩ | exact ⟨⟨rfl, rfl⟩⟩ | exact ⟨⟨rfl, rfl, rfl⟩⟩ | exact ⟨by omega⟩ | exact ⟨⟨by omega, by omega⟩⟩ | exact ⟨⟨by omega, by omega, by omega⟩⟩ | exact ⟨by rw [Int.toNat_natCast]; rfl⟩ | exact ⟨fun k _ => congrArg (fun q => fdV (a.l q)) (Nat.zero_add k)⟩ | exact ⟨by show i ≤ 10000; omega, fun k hk => (la2 k (Nat.lt_of_lt_of_le hk hi)).2⟩
      refine Or.inl ?_
      conv => whnf
      repeat' (first | (refine And.intro (fun _ => ?_) (fun _ => ?_) <;> conv => whnf) | (refine And.intro ?_ ?_ <;> conv => whnf))
      all_goals try first | exact ⟨rfl⟩ | exact ⟨⟨rfl, rfl⟩⟩ | exact ⟨⟨rfl, rfl, rfl⟩⟩ | exact ⟨by omega⟩ | exact ⟨⟨by omega, by omega⟩⟩ | exact ⟨⟨by omega, by omega, by omega⟩⟩ | exact ⟨⟨by show (i + 1) * 448 ≤ _; omega, by show i + 1 ≤ _; omega⟩⟩
      refine ⟨⟨a.b, a.n - i, fun k => a.l (i + k)⟩, [], ?_⟩
      conv => whnf
      repeat' (first | (refine And.intro (fun _ => ?_) (fun _ => ?_) <;> conv => whnf) | (refine And.intro ?_ ?_ <;> conv => whnf))
      all_goals try first | exact ⟨rfl⟩ | exact ⟨⟨rfl, rfl⟩⟩ | exact ⟨⟨rfl, rfl, rfl⟩⟩ | exact ⟨by omega⟩ | exact ⟨⟨by omega, by omega⟩⟩ | exact ⟨⟨by omega, by omega, by omega⟩⟩ | exact ⟨by rw [Int.toNat_natCast, Int.toNat_natCast]⟩ | exact ⟨fun k _ => rfl⟩ | exact ⟨by show a.n - i ≤ 10000; omega, fun k hk => (la2 _ (show i + k < a.n from by have : k < a.n - i := hk; omega)).2⟩
      refine Or.inl ?_
      conv => whnf
      repeat' (first | (refine And.intro (fun _ => ?_) (fun _ => ?_) <;> conv => whnf) | (refine And.intro ?_ ?_ <;> conv => whnf))
      all_goals try first | exact ⟨rfl⟩ | exact ⟨⟨rfl, rfl⟩⟩ | exact ⟨⟨rfl, rfl, rfl⟩⟩ | exact ⟨by omega⟩ | exact ⟨⟨by omega, by omega⟩⟩ | exact ⟨⟨by omega, by omega, by omega⟩⟩ | exact ⟨⟨by show (i + 1 + (a.n - i)) * 448 ≤ _; omega, by show i + 1 + (a.n - i) ≤ _; omega⟩⟩
      refine ⟨a, ⟨AE.refl _, trivial⟩, ⟨ta⟩, ?_⟩
      intro s1 hs1
      replace hs1 : s1 = stateR a := hs1
      conv => whnf
      repeat' (first | (refine And.intro (fun _ => ?_) (fun _ => ?_) <;> conv => whnf) | (refine And.intro ?_ ?_ <;> conv => whnf))
      generalize hq : anyRef _ _ _ = q
      obtain ⟨F, hF, hq⟩ := takeF hq
      rw [← hF]
      have f1 : ∀ k, k < i → F k = fdV (a.l k) := fun k hk => by rw [hF]; exact (if_pos (show k < i + 1 by omega)).trans (if_pos hk)
      have f2 : F i = newV author := by rw [hF]; exact (if_pos (Nat.lt_succ_self i)).trans ((if_neg (Nat.lt_irrefl i)).trans (by rw [Nat.sub_self]; rfl))
      have f3 : ∀ k, i < k → F k = fdV (a.l (k - 1)) := fun k hk => by rw [hF]; exact (if_neg (show ¬ k < i + 1 by omega)).trans (congrArg (fun q => fdV (a.l q)) (show i + (0 + (k - (i + 1))) = k - 1 by omega))
      clear hF
      have f4 : ∀ k, hasRef (F k) = false ∧ noref (F k) := fun k => by
        by_cases h1 : k < i
        · rw [f1 k h1]; exact ⟨rfl, noref_fdV _⟩
        · by_cases h2 : k = i
          · subst h2; rw [f2]; exact ⟨rfl, noref_new _⟩
          · rw [f3 k (by omega)]; exact ⟨rfl, noref_fdV _⟩
      have f5 : ∀ k, RE (F k) (fdV (insF a.l i (newFd author) k)) := fun k => by
        unfold insF
        by_cases h1 : k < i
        · rw [f1 k h1, if_pos h1]; exact RE.refl _
        · rw [if_neg h1]
          by_cases h2 : k = i
          · subst h2; rw [f2, if_pos rfl]; exact RE_new _
          · rw [f3 k (by omega), if_neg h2]; exact RE.refl _
      have hAE : AE (.imm true 300 (i + 1 + (a.n - i)) fun k => F (0 + k)) (fdsV true (a.n + 1) (insF a.l i (newFd author))) := AE.immR (by omega) fun k _ => by rw [Nat.zero_add]; exact f5 k
      have cb : feedsOk (a.n + 1) (insF a.l i (newFd author)) = true := feedsOk_ins hu.symm (by omega) hi hlt hgt
      have ca : tyL ⟨true, a.n + 1, insF a.l i (newFd author)⟩ := fun k hk => by
        replace hk : k < a.n + 1 := hk
        show preF (insF a.l i (newFd author) k)
        unfold insF
        split
        · exact ta _ (by omega)
        · split
          · exact preF_new hau
          · exact ta _ (by omega)
      have nsame : sameR ⟨a, ⟨true, a.n + 1, insF a.l i (newFd author)⟩⟩ = false := Bool.eq_false_iff.2 fun hh => by
        have h1 : a.n = a.n + 1 := (same_heads ta ca hh).2.2.1
        omega
      obtain rfl : q = false := by rw [← hq]; exact anyRef_no (fun k => (f4 k).1) _ _
      clear hq
      conv => whnf
      repeat' (first | (refine And.intro (fun _ => ?_) (fun _ => ?_) <;> conv => whnf) | (refine And.intro ?_ ?_ <;> conv => whnf))
      all_goals try first | exact ⟨rfl⟩ | exact ⟨⟨rfl, rfl⟩⟩ | exact ⟨⟨rfl, rfl, rfl⟩⟩ | exact ⟨by omega⟩ | exact ⟨⟨by omega, by omega⟩⟩ | exact ⟨⟨by omega, by omega, by omega⟩⟩ | exact ⟨fun k _ => (f4 _).2⟩
      refine ⟨⟨true, a.n + 1, insF a.l i (newFd author)⟩, ⟨hAE, trivial⟩, ⟨ca⟩, ?_⟩
      intro s2 hs2
      have e1 : s1.2 = 0 := by rw [hs1, stateR_err, if_pos hu.symm]
      have e2 : s2.2 = 0 := by rw [hs2, stateR_err]; exact if_pos cb
      have nstate : ¬ s1.1 = s2.1 := fun hh => by
        have h1 : a.n = a.n + 1 := (state_tells ta ca hu.symm cb (by rw [← hs1, hh, hs2])).1
        omega
      conv => whnf
      repeat' (first | (refine And.intro (fun hp => ?_) (fun hp => ?_) <;> first | (exfalso; revert hp; simp [e1, e2]; done) | conv => whnf) | (refine And.intro ?_ ?_ <;> conv => whnf))
      generalize hq : anyRef _ _ _ = q
      obtain rfl : q = false := by rw [← hq]; exact anyRef_no (fun k => (f4 k).1) _ _
      clear hq
      conv => whnf
      repeat' (first | (refine And.intro (fun hp => ?_) (fun hp => ?_) <;> first | (exfalso; revert hp; simp [e1, e2]; done) | conv => whnf) | (refine And.intro ?_ ?_ <;> conv => whnf))
      all_goals try first | exact ⟨rfl⟩ | exact ⟨⟨rfl, rfl⟩⟩ | exact ⟨⟨rfl, rfl, rfl⟩⟩ | exact ⟨by omega⟩ | exact ⟨⟨by omega, by omega⟩⟩ | exact ⟨⟨by omega, by omega, by omega⟩⟩ | exact ⟨fun k _ => (f4 _).2⟩
      refine ⟨⟨a, ⟨true, a.n + 1, insF a.l i (newFd author)⟩⟩, ⟨AE.refl _, hAE, trivial⟩, ⟨ta, ca⟩, ?_⟩
      intro t1 ht1
      replace ht1 : t1 = false := ht1.trans nsame
      conv => whnf
      repeat' (first | (refine And.intro (fun hp => ?_) (fun hp => ?_) <;> first | (exfalso; revert hp; simp [ht1]; done) | conv => whnf) | (refine And.intro ?_ ?_ <;> conv => whnf))
      generalize hq : anyRef _ _ _ = q
      obtain rfl : q = false := by rw [← hq]; exact anyRef_no (fun k => (f4 k).1) _ _
      clear hq
      conv => whnf
      repeat' (first | (refine And.intro (fun hp => ?_) (fun hp => ?_) <;> first | (exfalso; revert hp; simp [ht1]; done) | conv => whnf) | (refine And.intro ?_ ?_ <;> conv => whnf))
      all_goals try first | exact ⟨rfl⟩ | exact ⟨⟨rfl, rfl⟩⟩ | exact ⟨⟨rfl, rfl, rfl⟩⟩ | exact ⟨by omega⟩ | exact ⟨⟨by omega, by omega⟩⟩ | exact ⟨⟨by omega, by omega, by omega⟩⟩ | exact ⟨fun k _ => (f4 _).2⟩
      refine ⟨⟨⟨true, a.n + 1, insF a.l i (newFd author)⟩, a⟩, ⟨hAE, AE.refl _, trivial⟩, ⟨ca, ta⟩, ?_⟩
      intro t2 ht2
      replace ht2 : t2 = false := ht2.trans ((sameR_comm _ _).trans nsame)
      conv => whnf
      repeat' (first | (refine And.intro (fun hp => ?_) (fun hp => ?_) <;> first | (exfalso; revert hp; simp [ht2]; done) | conv => whnf) | (refine And.intro ?_ ?_ <;> conv => whnf))
      refine ⟨(.of false s1.1, .of false s2.1), ⟨AE.refl _, AE.refl _, trivial⟩, ⟨⟨trivial, by rw [hs1]; exact stateR_len ta⟩, trivial⟩, ?_⟩
      intro t4 ht4
      replace ht4 : t4 = false := ht4.trans (decide_eq_false nstate)
      conv => whnf
      repeat' (first | (refine And.intro (fun hp => ?_) (fun hp => ?_) <;> first | (exfalso; revert hp; simp [ht4]; done) | conv => whnf) | (refine And.intro ?_ ?_ <;> conv => whnf))
      all_goals (try simp only [ek, Int.toNat_natCast, Nat.zero_add])
      all_goals try first | exact ⟨rfl⟩ | exact ⟨⟨rfl, rfl⟩⟩ | exact ⟨⟨rfl, rfl, rfl⟩⟩ | exact ⟨by omega⟩ | exact ⟨⟨by omega, by omega⟩⟩ | exact ⟨⟨by omega, by omega, by omega⟩⟩ | exact ⟨by rw [IntKind.wrap_u64, Int.emod_eq_of_lt (by omega) (by omega)]; have := (feedsOk_look hu.symm).1; omega⟩
      · refine ⟨(), trivial, ⟨trivial⟩, ?_⟩
        intro z hz
        obtain rfl : z = true := hz
        conv => whnf
        repeat' (first | (refine And.intro (fun _ => ?_) (fun _ => ?_) <;> conv => whnf) | (refine And.intro ?_ ?_ <;> conv => whnf))
        exact Ld.refl _
      have hsh : (a.l kk).shut = true := by rw [ek] at hp; simpa using hp
      refine ⟨a, [], ?_⟩
      conv => whnf
      repeat' (first | (refine And.intro (fun hp => ?_) (fun hp => ?_) <;> first | (exfalso; revert hp; simp; done) | conv => whnf) | (refine And.intro ?_ ?_ <;> conv => whnf))
      all_goals try first | exact ⟨rfl⟩ | exact ⟨⟨rfl, rfl⟩⟩ | exact ⟨⟨rfl, rfl, rfl⟩⟩ | exact ⟨by omega⟩ | exact ⟨⟨by omega, by omega⟩⟩ | exact ⟨⟨by omega, by omega, by omega⟩⟩ | exact ⟨fun _ _ => rfl⟩ | exact ⟨by omega, fun k hk => (la2 k hk).2⟩
      show okq (if _ = _ then _ else _) _ _
      rw [if_pos rfl]
      conv => whnf
      repeat' (first | (refine And.intro (fun hp => ?_) (fun hp => ?_) <;> first | (exfalso; revert hp; simp; done) | conv => whnf) | (refine And.intro ?_ ?_ <;> conv => whnf))
      generalize hq : fitB _ _ = q
      obtain rfl : q = true := by
        rw [← hq]
        show fitB _ (sub (if _ = _ then _ else _) _) = true
        rw [if_pos rfl]
        rfl
      clear hq
      conv => whnf
      repeat' (first | (refine And.intro (fun hp => ?_) (fun hp => ?_) <;> first | (exfalso; revert hp; simp; done) | conv => whnf) | (refine And.intro ?_ ?_ <;> conv => whnf))
      generalize hq : anyRef _ _ _ = q
      obtain ⟨F2, hF, hq⟩ := takeF hq
      rw [← hF]
      have g1 : ∀ k, k ≠ kk → F2 k = fdV (a.l k) := fun k hk => by
        have h : ¬ k = 0 + (kk : Int).toNat := by rw [Int.toNat_natCast]; omega
        rw [hF]; exact (if_neg h).trans (if_neg h)
      have g2 : F2 kk = opV2 (a.l kk) := by
        rw [hF]
        refine (if_pos (by rw [Int.toNat_natCast]; omega)).trans ?_
        show upd (if _ = _ then _ else _) _ _ = _
        rw [if_pos rfl]
        show V.st (.cons (arrV 32 (a.l (0 + kk)).author) (.cons (.imm false 133 (a.l (0 + kk)).n fun k => entV ((a.l (0 + kk)).es k)) _)) = _
        rw [Nat.zero_add]
        rfl
      clear hF
      have f6 : ∀ k, hasRef (F2 k) = false ∧ noref (F2 k) := fun k => by
        by_cases h1 : k = kk
        · subst h1; rw [g2]; exact ⟨rfl, noref_open _⟩
        · rw [g1 k h1]; exact ⟨rfl, noref_fdV _⟩
      have hAE2 : AE (.imm true 300 a.n fun k => F2 (0 + k)) (fdsV true a.n fun k => if k = kk then openF (a.l kk) else a.l k) := AE.immR rfl fun k _ => by
        rw [Nat.zero_add]
        show RE (F2 k) (fdV (if k = kk then openF (a.l kk) else a.l k))
        by_cases h1 : k = kk
        · subst h1; rw [g2, if_pos rfl]; exact RE_open _
        · rw [g1 k h1, if_neg h1]; exact RE.refl _
      have cb2 : feedsOk a.n (fun k => if k = kk then openF (a.l kk) else a.l k) = true := feedsOk_change hu.symm (fun k _ => by
          by_cases h1 : k = kk
          · subst h1; rw [if_pos rfl]; rfl
          · rw [if_neg h1]) fun k hk => by
          by_cases h1 : k = kk
          · subst h1; rw [if_pos rfl]; exact look_open ((feedsOk_look hu.symm).2.2 k hk)
          · rw [if_neg h1]; exact (feedsOk_look hu.symm).2.2 k hk
      have ca2 : tyL ⟨true, a.n, fun k => if k = kk then openF (a.l kk) else a.l k⟩ := fun k hk => by
        replace hk : k < a.n := hk
        show preF (if k = kk then openF (a.l kk) else a.l k)
        split
        · exact preF_open (ta _ hkk)
        · exact ta _ hk
      have cne : headR (a.l kk) ≠ headR ((fun k => if k = kk then openF (a.l kk) else a.l k) kk) := fun h => by
        have h1 := congrArg Hd.shut h
        simp only [if_pos, headR, hsh] at h1
        cases h1
      obtain rfl : q = false := by rw [← hq]; exact anyRef_no (fun k => (f6 k).1) _ _
      clear hq
      conv => whnf
      repeat' (first | (refine And.intro (fun _ => ?_) (fun _ => ?_) <;> conv => whnf) | (refine And.intro ?_ ?_ <;> conv => whnf))
      all_goals try first | exact ⟨rfl⟩ | exact ⟨⟨rfl, rfl⟩⟩ | exact ⟨⟨rfl, rfl, rfl⟩⟩ | exact ⟨by omega⟩ | exact ⟨⟨by omega, by omega⟩⟩ | exact ⟨⟨by omega, by omega, by omega⟩⟩ | exact ⟨fun k _ => (f6 _).2⟩
      refine ⟨⟨true, a.n, fun k => if k = kk then openF (a.l kk) else a.l k⟩, ⟨hAE2, trivial⟩, ⟨ca2⟩, ?_⟩
      intro s3 hs3
      have e3 : s3.2 = 0 := by rw [hs3, stateR_err]; exact if_pos cb2
      conv => whnf
      repeat' (first | (refine And.intro (fun hp => ?_) (fun hp => ?_) <;> first | (exfalso; revert hp; simp [e3]; done) | conv => whnf) | (refine And.intro ?_ ?_ <;> conv => whnf))
      generalize hq : anyRef _ _ _ = q
      obtain rfl : q = false := by rw [← hq]; exact anyRef_no (fun k => (f6 k).1) _ _
      clear hq
      conv => whnf
      repeat' (first | (refine And.intro (fun hp => ?_) (fun hp => ?_) <;> first | (exfalso; revert hp; simp [e3]; done) | conv => whnf) | (refine And.intro ?_ ?_ <;> conv => whnf))
      all_goals try first | exact ⟨rfl⟩ | exact ⟨⟨rfl, rfl⟩⟩ | exact ⟨⟨rfl, rfl, rfl⟩⟩ | exact ⟨by omega⟩ | exact ⟨⟨by omega, by omega⟩⟩ | exact ⟨⟨by omega, by omega, by omega⟩⟩ | exact ⟨fun k _ => (f6 _).2⟩
      refine ⟨⟨a, ⟨true, a.n, fun k => if k = kk then openF (a.l kk) else a.l k⟩⟩, ⟨AE.refl _, hAE2, trivial⟩, ⟨ta, ca2⟩, ?_⟩
      intro t5 ht5
      replace ht5 : t5 = false := ht5.trans (Bool.eq_false_iff.2 fun hh => cne ((same_heads ta ca2 hh).2.2.2 kk hkk))
      conv => whnf
      repeat' (first | (refine And.intro (fun hp => ?_) (fun hp => ?_) <;> first | (exfalso; revert hp; simp [ht5]; done) | conv => whnf) | (refine And.intro ?_ ?_ <;> conv => whnf))
      refine ⟨(.of false s1.1, .of false s3.1), ⟨AE.refl _, AE.refl _, trivial⟩, ⟨⟨trivial, by rw [hs1]; exact stateR_len ta⟩, trivial⟩, ?_⟩
      intro t6 ht6
      replace ht6 : t6 = false := ht6.trans (decide_eq_false fun hh => cne ((state_tells ta ca2 hu.symm cb2 (by rw [← hs1, ← hs3]; exact hh)).2 kk hkk))
      conv => whnf
      repeat' (first | (refine And.intro (fun hp => ?_) (fun hp => ?_) <;> first | (exfalso; revert hp; simp [ht6]; done) | conv => whnf) | (refine And.intro ?_ ?_ <;> conv => whnf))
      refine ⟨(), trivial, ⟨trivial⟩, ?_⟩
      intro z hz
      obtain rfl : z = true := hz
      conv => whnf
      repeat' (first | (refine And.intro (fun _ => ?_) (fun _ => ?_) <;> conv => whnf) | (refine And.intro ?_ ?_ <;> conv => whnf))
      exact Ld.refl _
    · rename_i hin
      have hgt : i < a.n → cmpB author (a.l i).author < 0 := fun h => absurd h hin
      refine vc_ok hΓ mixed 1000 _ [] _ (by kernel_rfl) rfl ?_
      conv => whnf
      refine And.intro ⟨by omega⟩ ?_
      conv => whnf
      refine ⟨⟨a.b, i, a.l⟩, [], ?_⟩
      conv => whnf
      repeat' (first | (refine And.intro (fun _ => ?_) (fun _ => ?_) <;> conv => whnf) | (refine And.intro ?_ ?_ <;> conv => whnf))
      all_goals try first | exact ⟨rfl⟩ | exact ⟨⟨rfl, rfl⟩⟩ | exact ⟨⟨rfl, rfl, rfl⟩⟩ | exact ⟨by omega⟩ | exact ⟨⟨by omega, by omega⟩⟩ | exact ⟨⟨by omega, by omega, by omega⟩⟩ | exact ⟨by rw [Int.toNat_natCast]; rfl⟩ | exact ⟨fun k _ => congrArg (fun q => fdV (a.l q)) (Nat.zero_add k)⟩ | exact ⟨by show i ≤ 10000; omega, fun k hk => (la2 k (Nat.lt_of_lt_of_le hk hi)).2⟩
      refine Or.inl ?_
      conv => whnf
      repeat' (first | (refine And.intro (fun _ => ?_) (fun _ => ?_) <;> conv => whnf) | (refine And.intro ?_ ?_ <;> conv => whnf))
      all_goals try first | exact ⟨rfl⟩ | exact ⟨⟨rfl, rfl⟩⟩ | exact ⟨⟨rfl, rfl, rfl⟩⟩ | exact ⟨by omega⟩ | exact ⟨⟨by omega, by omega⟩⟩ | exact ⟨⟨by omega, by omega, by omega⟩⟩ | exact ⟨⟨by show (i + 1) * 448 ≤ _; omega, by show i + 1 ≤ _; omega⟩⟩
      refine ⟨⟨a.b, a.n - i, fun k => a.l (i + k)⟩, [], ?_⟩
      conv => whnf
      repeat' (first | (refine And.intro (fun _ => ?_) (fun _ => ?_) <;> conv => whnf) | (refine And.intro ?_ ?_ <;> conv => whnf))
      all_goals try first | exact ⟨rfl⟩ | exact ⟨⟨rfl, rfl⟩⟩ | exact ⟨⟨rfl, rfl, rfl⟩⟩ | exact ⟨by omega⟩ | exact ⟨⟨by omega, by omega⟩⟩ | exact ⟨⟨by omega, by omega, by omega⟩⟩ | exact ⟨by rw [Int.toNat_natCast, Int.toNat_natCast]⟩ | exact ⟨fun k _ => rfl⟩ | exact ⟨by show a.n - i ≤ 10000; omega, fun k hk => (la2 _ (show i + k < a.n from by have : k < a.n - i := hk; omega)).2⟩
      refine Or.inl ?_
      conv => whnf
      repeat' (first | (refine And.intro (fun _ => ?_) (fun _ => ?_) <;> conv => whnf) | (refine And.intro ?_ ?_ <;> conv => whnf))
      all_goals try first | exact ⟨rfl⟩ | exact ⟨⟨rfl, rfl⟩⟩ | exact ⟨⟨rfl, rfl, rfl⟩⟩ | exact ⟨by omega⟩ | exact ⟨⟨by omega, by omega⟩⟩ | exact ⟨⟨by omega, by omega, by omega⟩⟩ | exact ⟨⟨by show (i + 1 + (a.n - i)) * 448 ≤ _; omega, by show i + 1 + (a.n - i) ≤ _; omega⟩⟩
      refine ⟨a, ⟨AE.refl _, trivial⟩, ⟨ta⟩, ?_⟩
      intro s1 hs1
      replace hs1 : s1 = stateR a := hs1
      conv => whnf
      repeat' (first | (refine And.intro (fun _ => ?_) (fun _ => ?_) <;> conv => whnf) | (refine And.intro ?_ ?_ <;> conv => whnf))
      generalize hq : anyRef _ _ _ = q
      obtain ⟨F, hF, hq⟩ := takeF hq
      rw [← hF]
      have f1 : ∀ k, k < i → F k = fdV (a.l k) := fun k hk => by rw [hF]; exact (if_pos (show k < i + 1 by omega)).trans (if_pos hk)
      have f2 : F i = newV author := by rw [hF]; exact (if_pos (Nat.lt_succ_self i)).trans ((if_neg (Nat.lt_irrefl i)).trans (by rw [Nat.sub_self]; rfl))
      have f3 : ∀ k, i < k → F k = fdV (a.l (k - 1)) := fun k hk => by rw [hF]; exact (if_neg (show ¬ k < i + 1 by omega)).trans (congrArg (fun q => fdV (a.l q)) (show i + (0 + (k - (i + 1))) = k - 1 by omega))
      clear hF
      have f4 : ∀ k, hasRef (F k) = false ∧ noref (F k) := fun k => by
        by_cases h1 : k < i
        · rw [f1 k h1]; exact ⟨rfl, noref_fdV _⟩
        · by_cases h2 : k = i
          · subst h2; rw [f2]; exact ⟨rfl, noref_new _⟩
          · rw [f3 k (by omega)]; exact ⟨rfl, noref_fdV _⟩
      have f5 : ∀ k, RE (F k) (fdV (insF a.l i (newFd author) k)) := fun k => by
        unfold insF
        by_cases h1 : k < i
        · rw [f1 k h1, if_pos h1]; exact RE.refl _
        · rw [if_neg h1]
          by_cases h2 : k = i
          · subst h2; rw [f2, if_pos rfl]; exact RE_new _
          · rw [f3 k (by omega), if_neg h2]; exact RE.refl _
      have hAE : AE (.imm true 300 (i + 1 + (a.n - i)) fun k => F (0 + k)) (fdsV true (a.n + 1) (insF a.l i (newFd author))) := AE.immR (by omega) fun k _ => by rw [Nat.zero_add]; exact f5 k
      have cb : feedsOk (a.n + 1) (insF a.l i (newFd author)) = true := feedsOk_ins hu.symm (by omega) hi hlt hgt
      have ca : tyL ⟨true, a.n + 1, insF a.l i (newFd author)⟩ := fun k hk => by
        replace hk : k < a.n + 1 := hk
        show preF (insF a.l i (newFd author) k)
        unfold insF
        split
        · exact ta _ (by omega)
        · split
          · exact preF_new hau
          · exact ta _ (by omega)
      have nsame : sameR ⟨a, ⟨true, a.n + 1, insF a.l i (newFd author)⟩⟩ = false := Bool.eq_false_iff.2 fun hh => by
        have h1 : a.n = a.n + 1 := (same_heads ta ca hh).2.2.1
        omega
      obtain rfl : q = false := by rw [← hq]; exact anyRef_no (fun k => (f4 k).1) _ _
      clear hq
      conv => whnf
      repeat' (first | (refine And.intro (fun _ => ?_) (fun _ => ?_) <;> conv => whnf) | (refine And.intro ?_ ?_ <;> conv => whnf))
      all_goals try first | exact ⟨rfl⟩ | exact ⟨⟨rfl, rfl⟩⟩ | exact ⟨⟨rfl, rfl, rfl⟩⟩ | exact ⟨by omega⟩ | exact ⟨⟨by omega, by omega⟩⟩ | exact ⟨⟨by omega, by omega, by omega⟩⟩ | exact ⟨fun k _ => (f4 _).2⟩
      refine ⟨⟨true, a.n + 1, insF a.l i (newFd author)⟩, ⟨hAE, trivial⟩, ⟨ca⟩, ?_⟩
      intro s2 hs2
      have e1 : s1.2 = 0 := by rw [hs1, stateR_err, if_pos hu.symm]
      have e2 : s2.2 = 0 := by rw [hs2, stateR_err]; exact if_pos cb
      have nstate : ¬ s1.1 = s2.1 := fun hh => by
        have h1 : a.n = a.n + 1 := (state_tells ta ca hu.symm cb (by rw [← hs1, hh, hs2])).1
        omega
      conv => whnf
      repeat' (first | (refine And.intro (fun hp => ?_) (fun hp => ?_) <;> first | (exfalso; revert hp; simp [e1, e2]; done) | conv => whnf) | (refine And.intro ?_ ?_ <;> conv => whnf))
      generalize hq : anyRef _ _ _ = q
      obtain rfl : q = false := by rw [← hq]; exact anyRef_no (fun k => (f4 k).1) _ _
      clear hq
      conv => whnf
      repeat' (first | (refine And.intro (fun hp => ?_) (fun hp => ?_) <;> first | (exfalso; revert hp; simp [e1, e2]; done) | conv => whnf) | (refine And.intro ?_ ?_ <;> conv => whnf))
      all_goals try first | exact ⟨rfl⟩ | exact ⟨⟨rfl, rfl⟩⟩ | exact ⟨⟨rfl, rfl, rfl⟩⟩ | exact ⟨by omega⟩ | exact ⟨⟨by omega, by omega⟩⟩ | exact ⟨⟨by omega, by omega, by omega⟩⟩ | exact ⟨fun k _ => (f4 _).2⟩
      refine ⟨⟨a, ⟨true, a.n + 1, insF a.l i (newFd author)⟩⟩, ⟨AE.refl _, hAE, trivial⟩, ⟨ta, ca⟩, ?_⟩
      intro t1 ht1
      replace ht1 : t1 = false := ht1.trans nsame
      conv => whnf
      repeat' (first | (refine And.intro (fun hp => ?_) (fun hp => ?_) <;> first | (exfalso; revert hp; simp [ht1]; done) | conv => whnf) | (refine And.intro ?_ ?_ <;> conv => whnf))
      generalize hq : anyRef _ _ _ = q
      obtain rfl : q = false := by rw [← hq]; exact anyRef_no (fun k => (f4 k).1) _ _
      clear hq
      conv => whnf
      repeat' (first | (refine And.intro (fun hp => ?_) (fun hp => ?_) <;> first | (exfalso; revert hp; simp [ht1]; done) | conv => whnf) | (refine And.intro ?_ ?_ <;> conv => whnf))
      all_goals try first | exact ⟨rfl⟩ | exact ⟨⟨rfl, rfl⟩⟩ | exact ⟨⟨rfl, rfl, rfl⟩⟩ | exact ⟨by omega⟩ | exact ⟨⟨by omega, by omega⟩⟩ | exact ⟨⟨by omega, by omega, by omega⟩⟩ | exact ⟨fun k _ => (f4 _).2⟩
      refine ⟨⟨⟨true, a.n + 1, insF a.l i (newFd author)⟩, a⟩, ⟨hAE, AE.refl _, trivial⟩, ⟨ca, ta⟩, ?_⟩
      intro t2 ht2
      replace ht2 : t2 = false := ht2.trans ((sameR_comm _ _).trans nsame)
      conv => whnf
      repeat' (first | (refine And.intro (fun hp => ?_) (fun hp => ?_) <;> first | (exfalso; revert hp; simp [ht2]; done) | conv => whnf) | (refine And.intro ?_ ?_ <;> conv => whnf))
      refine ⟨(.of false s1.1, .of false s2.1), ⟨AE.refl _, AE.refl _, trivial⟩, ⟨⟨trivial, by rw [hs1]; exact stateR_len ta⟩, trivial⟩, ?_⟩
      intro t4 ht4
      replace ht4 : t4 = false := ht4.trans (decide_eq_false nstate)
      conv => whnf
      repeat' (first | (refine And.intro (fun hp => ?_) (fun hp => ?_) <;> first | (exfalso; revert hp; simp [ht4]; done) | conv => whnf) | (refine And.intro ?_ ?_ <;> conv => whnf))
      all_goals (try simp only [ek, Int.toNat_natCast, Nat.zero_add])
      all_goals try first | exact ⟨rfl⟩ | exact ⟨⟨rfl, rfl⟩⟩ | exact ⟨⟨rfl, rfl, rfl⟩⟩ | exact ⟨by omega⟩ | exact ⟨⟨by omega, by omega⟩⟩ | exact ⟨⟨by omega, by omega, by omega⟩⟩ | exact ⟨by rw [IntKind.wrap_u64, Int.emod_eq_of_lt (by omega) (by omega)]; have := (feedsOk_look hu.symm).1; omega⟩
      · refine ⟨(), trivial, ⟨trivial⟩, ?_⟩
        intro z hz
        obtain rfl : z = true := hz
        conv => whnf
        repeat' (first | (refine And.intro (fun _ => ?_) (fun _ => ?_) <;> conv => whnf) | (refine And.intro ?_ ?_ <;> conv => whnf))
        exact Ld.refl _
      have hsh : (a.l kk).shut = true := by rw [ek] at hp; simpa using hp
      refine ⟨a, [], ?_⟩
      conv => whnf
      repeat' (first | (refine And.intro (fun hp => ?_) (fun hp => ?_) <;> first | (exfalso; revert hp; simp; done) | conv => whnf) | (refine And.intro ?_ ?_ <;> conv => whnf))
      all_goals try first | exact ⟨rfl⟩ | exact ⟨⟨rfl, rfl⟩⟩ | exact ⟨⟨rfl, rfl, rfl⟩⟩ | exact ⟨by omega⟩ | exact ⟨⟨by omega, by omega⟩⟩ | exact ⟨⟨by omega, by omega, by omega⟩⟩ | exact ⟨fun _ _ => rfl⟩ | exact ⟨by omega, fun k hk => (la2 k hk).2⟩
      show okq (if _ = _ then _ else _) _ _
      rw [if_pos rfl]
      conv => whnf
      repeat' (first | (refine And.intro (fun hp => ?_) (fun hp => ?_) <;> first | (exfalso; revert hp; simp; done) | conv => whnf) | (refine And.intro ?_ ?_ <;> conv => whnf))
      generalize hq : fitB _ _ = q
      obtain rfl : q = true := by
        rw [← hq]
        show fitB _ (sub (if _ = _ then _ else _) _) = true
        rw [if_pos rfl]
        rfl
      clear hq
      conv => whnf
      repeat' (first | (refine And.intro (fun hp => ?_) (fun hp => ?_) <;> first | (exfalso; revert hp; simp; done) | conv => whnf) | (refine And.intro ?_ ?_ <;> conv => whnf))
      generalize hq : anyRef _ _ _ = q
      obtain ⟨F2, hF, hq⟩ := takeF hq
      rw [← hF]
      have g1 : ∀ k, k ≠ kk → F2 k = fdV (a.l k) := fun k hk => by
        have h : ¬ k = 0 + (kk : Int).toNat := by rw [Int.toNat_natCast]; omega
        rw [hF]; exact (if_neg h).trans (if_neg h)
      have g2 : F2 kk = opV2 (a.l kk) := by
        rw [hF]
        refine (if_pos (by rw [Int.toNat_natCast]; omega)).trans ?_
        show upd (if _ = _ then _ else _) _ _ = _
        rw [if_pos rfl]
        show V.st (.cons (arrV 32 (a.l (0 + kk)).author) (.cons (.imm false 133 (a.l (0 + kk)).n fun k => entV ((a.l (0 + kk)).es k)) _)) = _
        rw [Nat.zero_add]
        rfl
      clear hF
      have f6 : ∀ k, hasRef (F2 k) = false ∧ noref (F2 k) := fun k => by
        by_cases h1 : k = kk
        · subst h1; rw [g2]; exact ⟨rfl, noref_open _⟩
        · rw [g1 k h1]; exact ⟨rfl, noref_fdV _⟩
      have hAE2 : AE (.imm true 300 a.n fun k => F2 (0 + k)) (fdsV true a.n fun k => if k = kk then openF (a.l kk) else a.l k) := AE.immR rfl fun k _ => by
        rw [Nat.zero_add]
        show RE (F2 k) (fdV (if k = kk then openF (a.l kk) else a.l k))
        by_cases h1 : k = kk
        · subst h1; rw [g2, if_pos rfl]; exact RE_open _
        · rw [g1 k h1, if_neg h1]; exact RE.refl _
      have cb2 : feedsOk a.n (fun k => if k = kk then openF (a.l kk) else a.l k) = true := feedsOk_change hu.symm (fun k _ => by
          by_cases h1 : k = kk
          · subst h1; rw [if_pos rfl]; rfl
          · rw [if_neg h1]) fun k hk => by
          by_cases h1 : k = kk
          · subst h1; rw [if_pos rfl]; exact look_open ((feedsOk_look hu.symm).2.2 k hk)
          · rw [if_neg h1]; exact (feedsOk_look hu.symm).2.2 k hk
      have ca2 : tyL ⟨true, a.n, fun k => if k = kk then openF (a.l kk) else a.l k⟩ := fun k hk => by
        replace hk : k < a.n := hk
        show preF (if k = kk then openF (a.l kk) else a.l k)
        split
        · exact preF_open (ta _ hkk)
        · exact ta _ hk
      have cne : headR (a.l kk) ≠ headR ((fun k => if k = kk then openF (a.l kk) else a.l k) kk) := fun h => by
        have h1 := congrArg Hd.shut h
        simp only [if_pos, headR, hsh] at h1
        cases h1
      obtain rfl : q = false := by rw [← hq]; exact anyRef_no (fun k => (f6 k).1) _ _
      clear hq
      conv => whnf
      repeat' (first | (refine And.intro (fun _ => ?_) (fun _ => ?_) <;> conv => whnf) | (refine And.intro ?_ ?_ <;> conv => whnf))
      all_goals try first | exact ⟨rfl⟩ | exact ⟨⟨rfl, rfl⟩⟩ | exact ⟨⟨rfl, rfl, rfl⟩⟩ | exact ⟨by omega⟩ | exact ⟨⟨by omega, by omega⟩⟩ | exact ⟨⟨by omega, by omega, by omega⟩⟩ | exact ⟨fun k _ => (f6 _).2⟩
      refine ⟨⟨true, a.n, fun k => if k = kk then openF (a.l kk) else a.l k⟩, ⟨hAE2, trivial⟩, ⟨ca2⟩, ?_⟩
      intro s3 hs3
      have e3 : s3.2 = 0 := by rw [hs3, stateR_err]; exact if_pos cb2
      conv => whnf
      repeat' (first | (refine And.intro (fun hp => ?_) (fun hp => ?_) <;> first | (exfalso; revert hp; simp [e3]; done) | conv => whnf) | (refine And.intro ?_ ?_ <;> conv => whnf))
      generalize hq : anyRef _ _ _ = q
      obtain rfl : q = false := by rw [← hq]; exact anyRef_no (fun k => (f6 k).1) _ _
      clear hq
      conv => whnf
      repeat' (first | (refine And.intro (fun hp => ?_) (fun hp => ?_) <;> first | (exfalso; revert hp; simp [e3]; done) | conv => whnf) | (refine And.intro ?_ ?_ <;> conv => whnf))
      all_goals try first | exact ⟨rfl⟩ | exact ⟨⟨rfl, rfl⟩⟩ | exact ⟨⟨rfl, rfl, rfl⟩⟩ | exact ⟨by omega⟩ | exact ⟨⟨by omega, by omega⟩⟩ | exact ⟨⟨by omega, by omega, by omega⟩⟩ | exact ⟨fun k _ => (f6 _).2⟩
      refine ⟨⟨a, ⟨true, a.n, fun k => if k = kk then openF (a.l kk) else a.l k⟩⟩, ⟨AE.refl _, hAE2, trivial⟩, ⟨ta, ca2⟩, ?_⟩
      intro t5 ht5
      replace ht5 : t5 = false := ht5.trans (Bool.eq_false_iff.2 fun hh => cne ((same_heads ta ca2 hh).2.2.2 kk hkk))
      conv => whnf
      repeat' (first | (refine And.intro (fun hp => ?_) (fun hp => ?_) <;> first | (exfalso; revert hp; simp [ht5]; done) | conv => whnf) | (refine And.intro ?_ ?_ <;> conv => whnf))
      refine ⟨(.of false s1.1, .of false s3.1), ⟨AE.refl _, AE.refl _, trivial⟩, ⟨⟨trivial, by rw [hs1]; exact stateR_len ta⟩, trivial⟩, ?_⟩
      intro t6 ht6
      replace ht6 : t6 = false := ht6.trans (decide_eq_false fun hh => cne ((state_tells ta ca2 hu.symm cb2 (by rw [← hs1, ← hs3]; exact hh)).2 kk hkk))
      conv => whnf
      repeat' (first | (refine And.intro (fun hp => ?_) (fun hp => ?_) <;> first | (exfalso; revert hp; simp [ht6]; done) | conv => whnf) | (refine And.intro ?_ ?_ <;> conv => whnf))
      refine ⟨(), trivial, ⟨trivial⟩, ?_⟩
      intro z hz
      obtain rfl : z = true := hz
      conv => whnf
      repeat' (first | (refine And.intro (fun _ => ?_) (fun _ => ?_) <;> conv => whnf) | (refine And.intro ?_ ?_ <;> conv => whnf))
      exact Ld.refl _
end Go.Proofs.YtimaobccedeafaaGreatDoor
