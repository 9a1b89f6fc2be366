/- Part of the claim: Z30, Z32, Z34, Z33, Z35, Z36. -/
import Derived.Test.YtaihjcpfjgpmoaaGreatDoorZB
import Derived.Test.YtaihjcpfjgpmoaaGreatDoorDC
/- The map of feeds. -/
namespace Go.Proofs.YtaihjcpfjgpmoaaGreatDoor
set_option linter.unusedVariables false
set_option linter.unusedSimpArgs false
set_option maxRecDepth 100000
open Go Go.DD
def gce (cs : List Ce) (k : Nat) : Ce := cs.getD k ce0
/-- Cells, and one more. -/
def stepV (cs : List Ce) (c : Ce) : List Ce :=
  if (bsR ⟨true, cs.length, gce cs, c.key⟩).2 = false then cs.take (bsR ⟨true, cs.length, gce cs, c.key⟩).1 ++ [c] ++ cs.drop (bsR ⟨true, cs.length, gce cs, c.key⟩).1
  else if 0 < laterC c (gce cs (bsR ⟨true, cs.length, gce cs, c.key⟩).1) then cs.set (bsR ⟨true, cs.length, gce cs, c.key⟩).1 c else cs
def viewE (es : Nat → Ent) : Nat → List Ce → List Ce | 0, cs => cs | n + 1, cs => stepV (viewE es n cs) (mkCell (es n))
def viewN (l : Nat → Fd) : Nat → List Ce | 0 => [] | n + 1 => if (l n).shut then viewN l n else viewE (l n).es (l n).n (viewN l n)
def viewL (n : Nat) (l : Nat → Fd) : List Ce := if feedsOk n l then viewN l n else []
def F55c : FSpec := mkG (fun (a : BsA) => [cellsV a.b a.n a.cs, .str a.key, .fn 40 .nil]) (fun a => a.n ≤ 1000000) bsR (fun r => .tup (.cons (.int .i64 (r.1 : Nat)) (.cons (.bool r.2) .nil)))
theorem f55c_ok : FOk Tryz.prog [] 39 F55c := mkG_of f55_ok
def F59c : FSpec := mkG (fun (a : Ce × Ce) => [cellV a.1, cellV a.2]) (fun a => wfC a.1 ∧ wfC a.2) (fun a => laterC a.1 a.2) (fun r => .int .i64 r)
theorem f59c_ok : FOk Tryz.prog [] 43 F59c := mkG_of f59_ok
def F54c : FSpec := mkG (fun (e : Ent) => [entV e]) (fun e => preE e ∧ e.val.length ≤ 1000000) mkCell cellV
theorem f54c_ok : FOk Tryz.prog G 38 F54c := mkG_of f54_ok
def F25 : FSpec := mkF (fun (a : Fds) => [fdsV a.b a.n a.l]) (fun a => ∀ k, k < a.n → preF (a.l k)) (fun a => cellsV false (viewL a.n a.l).length (gce (viewL a.n a.l)))
theorem folF_all {author : List UInt8} {es : Nat → Ent} {n : Nat} (h : (folF author es n).2 = true) : ∀ i, i < n → (idE (es i)).2 = 0 := fun i hi => by
  have h1 : (folF author es (i + 1)).2 = true := by
    cases hq : (folF author es (i + 1)).2
    · rw [folF_stop hq n (by omega), hq] at h; cases h
    · rfl
  by_cases h0 : (folF author es i).2 = false
  · simp only [folF, if_pos h0] at h1
    rw [h0] at h1; cases h1
  · simp only [folF, if_neg h0] at h1
    split at h1
    · cases h1
    · rename_i h2
      simp only [not_or, ne_eq, Decidable.not_not] at h2
      exact h2.1
theorem entOk_of {e : Ent} (h : (idE e).2 = 0) : entOk e = true := by
  have h1 : (encE e).2 = 0 := by
    unfold idE at h
    split at h
    · assumption
    · exact h
  unfold encE at h1
  split at h1
  · assumption
  · cases h1
theorem look_ents {f : Fd} (h : (lookF f).2 = true) : f.n ≤ 200 ∧ ∀ k, k < f.n → entOk (f.es k) = true := by
  simp only [lookF, Bool.and_eq_true] at h
  have h1 := h.1
  unfold folR at h1
  split at h1
  · cases h1
  · exact ⟨by omega, fun k hk => entOk_of (folF_all h1 k hk)⟩
theorem feedsOk_look {n : Nat} {l : Nat → Fd} (h : feedsOk n l = true) : 1 ≤ n ∧ n ≤ 8 ∧ ∀ k, k < n → (lookF (l k)).2 = true := by
  simp only [feedsOk, Bool.and_eq_true, decide_eq_true_eq, List.all_eq_true, List.mem_range] at h
  refine ⟨h.1.1, h.1.2, fun k hk => ?_⟩
  have := h.2 k hk
  simp only [oneOk, Bool.and_eq_true] at this
  exact this.1
theorem entOk_len {e : Ent} (h : entOk e = true) : e.key.length ≤ 16 ∧ e.val.length ≤ 40 ∧ 1 ≤ e.key.length ∧ 0 ≤ e.stamp ∧ (e.kind = 1 ∨ e.kind = 2) ∧ utf8 e.key = true ∧ 1 ≤ e.seq ∧ e.seq ≤ 200 := by
  simp only [entOk, opOk, Bool.and_eq_true, decide_eq_true_eq, Bool.or_eq_true] at h
  refine ⟨by omega, by omega, by omega, by omega, ?_, h.2.1.2, by omega, by omega⟩
  rcases h.2.2 with h1 | h1
  · exact .inl h1.1
  · exact .inr h1.1
theorem gce_mem {cs : List Ce} {k : Nat} (h : k < cs.length) : gce cs k ∈ cs := by
  simp only [gce, List.getD_eq_getElem?_getD, List.getElem?_eq_getElem h, Option.getD_some]
  exact List.getElem_mem h
theorem bsR_le (a : BsA) : (bsR a).1 ≤ a.n := bsI_le _ _ _ (Nat.zero_le _)
theorem bsR_lt {a : BsA} (h : (bsR a).2 = true) : (bsR a).1 < a.n := by
  simp only [bsR, Bool.and_eq_true, decide_eq_true_eq] at h ⊢
  exact h.1
theorem stepV_mem {cs : List Ce} {c x : Ce} (h : x ∈ stepV cs c) : x ∈ cs ∨ x = c := by
  unfold stepV at h
  split at h
  · simp only [List.mem_append, List.mem_singleton] at h
    rcases h with (h | h) | h
    · exact .inl (List.mem_of_mem_take h)
    · exact .inr h
    · exact .inl (List.mem_of_mem_drop h)
  · split at h
    · rcases List.mem_or_eq_of_mem_set h with h | h
      · exact .inl h
      · exact .inr h
    · exact .inl h
theorem stepV_len (cs : List Ce) (c : Ce) : (stepV cs c).length ≤ cs.length + 1 := by
  unfold stepV
  split
  · simp; omega
  · split
    · simp
    · omega
theorem gce_ins (cs : List Ce) (k : Nat) (c : Ce) (hk : k ≤ cs.length) (j : Nat) : gce (cs.take k ++ [c] ++ cs.drop k) j = insG (gce cs) k c j := by
  simp only [gce, insG, List.getD_eq_getElem?_getD, List.append_assoc]
  by_cases h1 : j < k
  · rw [if_pos h1, List.getElem?_append_left (by simp; omega), List.getElem?_take_of_lt h1]
  · rw [if_neg h1, List.getElem?_append_right (by simp; omega)]
    by_cases h2 : j = k
    · subst h2
      rw [if_pos rfl, List.length_take, Nat.min_eq_left hk]
      simp
    · rw [if_neg h2, List.length_take, Nat.min_eq_left hk, List.getElem?_append_right (by simp; omega), List.getElem?_drop]
      congr 2
      simp; omega
/-- A row of cells, as the walk sees it. -/
structure VwX where
  i : Nat
  cs : List Ce
  C : Nat
  g : Nat → Ce
def VwX.ok (x : VwX) (m : Nat) : Prop := x.cs.length ≤ x.C ∧ (∀ j, j < x.cs.length → x.g j = gce x.cs j) ∧ x.cs.length ≤ m ∧ ∀ c, c ∈ x.cs → wfC c
theorem f25_ok : FOk Tryz.prog G 14 F25 := mkF_ld fun ⟨b, n, l⟩ hl => by
  replace hl : ∀ k, k < n → preF (l k) := hl
  show CP _ _ _ _ fun v => Ld v (cellsV false (viewL n l).length (gce (viewL n l)))
  have hΓ := ctxG_ok Tryz.f14.ntmps [(25, F29), (38, F54c), (39, F55c), (43, F59c)] [(42, H58)] [] (.cons (f29_ok) (.cons (f54c_ok) (.cons (f55c_ok.g) (.cons (f59c_ok.g) .nil)))) (.cons (h58_ok) .nil)
  refine CP_of_OK hΓ Tryz.func14 (c := bodyOf Tryz.f14) rfl (by decide) rfl rfl (by simp) (vc_ok hΓ mixed 1000 _ [] _ (by kernel_rfl) rfl ?_)
  conv => whnf
  refine ⟨⟨b, n, l⟩, rfl, ⟨hl⟩, ?_⟩
  conv => whnf
  refine And.intro (fun h1 => ?_) (fun h1 => ?_) <;> conv => whnf
  · have h2 : feedsOk n l = false := by
      cases hq : feedsOk n l
      · rfl
      · simp [hq] at h1
    simp only [viewL, h2]
    exact Ld.emp
  have h2 : feedsOk n l = true := by
    cases hq : feedsOk n l
    · simp [hq] at h1
    · rfl
  obtain ⟨n1, n8, hlook⟩ := feedsOk_look h2
  have hv : viewL n l = viewN l n := by simp only [viewL, h2, if_true]
  rw [hv]
  refine OK_loopC (ι := VwX) (fun x => [(3, .slx 0 68 0 x.cs.length x.C), (14, fdsV b n l), (15, .int .i64 (n : Nat)), (16, .int .i64 (x.i : Nat))]) (fun x => [some (.row 68 x.C fun j => cellV (x.g j))]) (fun x => x.i ≤ n ∧ x.cs = viewN l x.i ∧ x.ok (200 * x.i)) (fun x => n - x.i) ⟨0, [], 0, fun _ => ce0⟩ [none] ?_ (fun x hx => vc_ok hΓ mixed 1000 _ [] _ (by kernel_rfl) rfl ?_)
  · conv => whnf
    repeat' (first | (refine And.intro (fun _ => ?_) (fun _ => ?_) <;> conv => whnf) | (refine And.intro ?_ ?_ <;> conv => whnf))
    all_goals try first | exact ⟨rfl⟩ | exact ⟨⟨rfl, rfl⟩⟩ | exact ⟨⟨rfl, rfl, rfl⟩⟩ | exact ⟨by omega⟩ | exact ⟨⟨by omega, by omega⟩⟩ | exact ⟨⟨by omega, by omega, by omega⟩⟩ | exact ⟨fun _ _ => rfl⟩
    · refine ⟨⟨Nat.zero_le _, rfl, Nat.le_refl _, fun j hj => absurd hj (Nat.not_lt_zero _), Nat.le_refl _, fun c hc => by cases hc⟩⟩
  obtain ⟨hin, hcs, o1, o2, o3, o4⟩ := hx
  conv => whnf
  refine And.intro (fun h3 => ?_) (fun h3 => ?_) <;> conv => whnf
  · have hi : x.i < n := by simpa using h3
    have hf := hl x.i hi
    have hk := hlook x.i hi
    conv => whnf
    repeat' (first | (refine And.intro (fun _ => ?_) (fun _ => ?_) <;> conv => whnf) | (refine And.intro ?_ ?_ <;> conv => whnf))
    all_goals try first | exact ⟨rfl⟩ | exact ⟨⟨rfl, rfl⟩⟩ | exact ⟨⟨rfl, rfl, rfl⟩⟩ | exact ⟨by omega⟩ | exact ⟨⟨by omega, by omega⟩⟩ | exact ⟨⟨by omega, by omega, by omega⟩⟩ | exact ⟨fun _ _ => trivial⟩
    · rename_i hsh
      refine ⟨⟨x.i + 1, x.cs, x.C, x.g⟩, [some 0], ?_⟩
      conv => whnf
      repeat' (refine And.intro ?_ ?_ <;> conv => whnf)
      all_goals try first | exact ⟨rfl⟩ | exact ⟨⟨rfl, rfl⟩⟩ | exact ⟨⟨rfl, rfl, rfl⟩⟩ | exact ⟨by omega⟩ | exact ⟨⟨by omega, by omega⟩⟩ | exact ⟨⟨by omega, by omega, by omega⟩⟩ | exact ⟨fun _ _ => rfl⟩ | exact ⟨fun k _ => leV_refl _ (pln_cellV _)⟩
      · exact ⟨by rw [wrap_id (by omega) (by omega)]; rfl⟩
      · refine ⟨⟨⟨hi, ?_, o1, o2, by show x.cs.length ≤ 200 * (x.i + 1); omega, o4⟩, by show n - (x.i + 1) < n - x.i; omega⟩⟩
        show x.cs = viewN l (x.i + 1)
        rw [hcs]
        exact (if_pos hsh).symm
    · rename_i hsh
      obtain ⟨he1, he2⟩ := look_ents hk
      refine OK_loopC (ι := VwX) (fun y => [(3, .slx 0 68 0 y.cs.length y.C), (14, fdsV b n l), (15, .int .i64 (n : Nat)), (16, .int .i64 (x.i : Nat)), (23, .imm false 133 (l x.i).n fun k => entV ((l x.i).es k)), (24, .int .i64 ((l x.i).n : Nat)), (25, .int .i64 (y.i : Nat))]) (fun y => [some (.row 68 y.C fun j => cellV (y.g j))]) (fun y => y.i ≤ (l x.i).n ∧ y.cs = viewE (l x.i).es y.i x.cs ∧ y.ok (200 * x.i + y.i)) (fun y => (l x.i).n - y.i) ⟨0, x.cs, x.C, x.g⟩ [some 0] ?_ (fun y hy => vc_ok hΓ mixed 1000 _ [] _ (by kernel_rfl) rfl ?_)
      · conv => whnf
        repeat' (first | (refine And.intro (fun _ => ?_) (fun _ => ?_) <;> conv => whnf) | (refine And.intro ?_ ?_ <;> conv => whnf))
        all_goals try first | exact ⟨rfl⟩ | exact ⟨⟨rfl, rfl⟩⟩ | exact ⟨⟨rfl, rfl, rfl⟩⟩ | exact ⟨by omega⟩ | exact ⟨⟨by omega, by omega⟩⟩ | exact ⟨⟨by omega, by omega, by omega⟩⟩ | exact ⟨fun _ _ => rfl⟩ | exact ⟨fun k _ => leV_refl _ (pln_cellV _)⟩
        · exact ⟨⟨Nat.zero_le _, rfl, o1, o2, by show x.cs.length ≤ 200 * x.i + 0; omega, o4⟩⟩
      obtain ⟨hyn, hycs, p1, p2, p3, p4⟩ := hy
      conv => whnf
      refine And.intro (fun h4 => ?_) (fun h4 => ?_) <;> conv => whnf
      · have hj : y.i < (l x.i).n := by simpa using h4
        have hpre := hf.2.1 y.i hj
        have hlen := entOk_len (he2 y.i hj)
        have hle := stepV_len y.cs (mkCell ((l x.i).es y.i))
        have hmem : ∀ c, c ∈ stepV y.cs (mkCell ((l x.i).es y.i)) → wfC c := fun c hc => by
          rcases stepV_mem hc with h | h
          · exact p4 c h
          · rw [h]; exact ⟨(hpre.1).1, idE_length _⟩
        conv => whnf
        repeat' (first | (refine And.intro (fun _ => ?_) (fun _ => ?_) <;> conv => whnf) | (refine And.intro ?_ ?_ <;> conv => whnf))
        all_goals try first | exact ⟨rfl⟩ | exact ⟨⟨rfl, rfl⟩⟩ | exact ⟨⟨rfl, rfl, rfl⟩⟩ | exact ⟨by omega⟩ | exact ⟨⟨by omega, by omega⟩⟩ | exact ⟨⟨by omega, by omega, by omega⟩⟩ | exact ⟨fun _ _ => trivial⟩
        refine ⟨(l x.i).es y.i, ⟨AE.refl _, trivial⟩, ⟨hpre, by omega⟩, ?_⟩
        intro c hc
        have hst : stepV y.cs c = _ := rfl
        conv at hst => rhs; unfold stepV
        have hwc : wfC c := by rw [hc]; exact ⟨hpre.1.1, idE_length _⟩
        rw [← hc] at hle hmem
        conv => whnf
        repeat' (first | (refine And.intro (fun _ => ?_) (fun _ => ?_) <;> conv => whnf) | (refine And.intro ?_ ?_ <;> conv => whnf))
        all_goals try first | exact ⟨rfl⟩ | exact ⟨⟨rfl, rfl⟩⟩ | exact ⟨⟨rfl, rfl, rfl⟩⟩ | exact ⟨by omega⟩ | exact ⟨⟨by omega, by omega⟩⟩ | exact ⟨⟨by omega, by omega, by omega⟩⟩ | exact ⟨fun k _ => own_cellV _⟩ | exact ⟨fun k _ => noref_cellV _⟩
        refine ⟨⟨true, y.cs.length, gce y.cs, c.key⟩, ⟨AE.imm fun k hk => ?_, AE.refl _, AE.refl _, trivial⟩, ⟨by show y.cs.length ≤ 1000000; omega⟩, ?_⟩
        · show cellV (y.g (0 + k)) = _
          rw [Nat.zero_add, p2 k hk]
        intro r hr
        have hbl := bsR_le ⟨true, y.cs.length, gce y.cs, c.key⟩
        have hbt := @bsR_lt ⟨true, y.cs.length, gce y.cs, c.key⟩
        rw [← hr] at hst hbl hbt
        replace hbl : r.1 ≤ y.cs.length := hbl
        replace hbt : r.2 = true → r.1 < y.cs.length := hbt
        clear hr
        conv => whnf
        repeat' (first | (refine And.intro (fun _ => ?_) (fun _ => ?_) <;> conv => whnf) | (refine And.intro ?_ ?_ <;> conv => whnf))
        all_goals try first | exact ⟨rfl⟩ | exact ⟨⟨rfl, rfl⟩⟩ | exact ⟨⟨rfl, rfl, rfl⟩⟩ | exact ⟨by omega⟩ | exact ⟨⟨by omega, by omega⟩⟩ | exact ⟨⟨by omega, by omega, by omega⟩⟩ | exact ⟨fun _ _ => trivial⟩
        · rename_i hr2
          replace hr2 : r.2 = false := by simpa using hr2
          rw [if_pos hr2] at hst
          refine ⟨⟨y.cs.length, r.1, y.C, y.g, c⟩, [some 0, some 3], ?_⟩
          conv => whnf
          repeat' (first | (refine And.intro (fun _ => ?_) (fun _ => ?_) <;> conv => whnf) | (refine And.intro ?_ ?_ <;> conv => whnf))
          all_goals try first | exact ⟨rfl⟩ | exact ⟨⟨rfl, rfl⟩⟩ | exact ⟨⟨rfl, rfl, rfl⟩⟩ | exact ⟨by omega⟩ | exact ⟨⟨by omega, by omega⟩⟩ | exact ⟨⟨by omega, by omega, by omega⟩⟩ | exact ⟨fun k _ => leV_refl _ (pln_cellV _)⟩
          · refine ⟨?_⟩
            refine (lt_step ?_ lt_zero)
            exact leV_refl _ (pln_cellV _)
          · exact ⟨⟨hbl, p1, by show y.cs.length ≤ 100000; omega⟩⟩
          intro q hq
          obtain ⟨hq1, hq2⟩ := hq
          replace hq1 : y.cs.length + 1 ≤ q.1 := hq1
          replace hq2 : ∀ j, j < y.cs.length + 1 → q.2 j = insG y.g r.1 c j := hq2
          have hl1 : (stepV y.cs c).length = y.cs.length + 1 := by rw [hst]; simp; omega
          conv => whnf
          repeat' (first | (refine And.intro (fun _ => ?_) (fun _ => ?_) <;> conv => whnf) | (refine And.intro ?_ ?_ <;> conv => whnf))
          refine ⟨⟨y.i + 1, stepV y.cs c, q.1, q.2⟩, [some 6], ?_⟩
          conv => whnf
          repeat' (refine And.intro ?_ ?_ <;> conv => whnf)
          all_goals try first | exact ⟨rfl⟩ | exact ⟨⟨rfl, rfl⟩⟩ | exact ⟨⟨rfl, rfl, rfl⟩⟩ | exact ⟨by omega⟩ | exact ⟨⟨by omega, by omega⟩⟩ | exact ⟨⟨by omega, by omega, by omega⟩⟩ | exact ⟨fun _ _ => rfl⟩ | exact ⟨fun k _ => leV_refl _ (pln_cellV _)⟩ | exact ⟨by rw [wrap_id (by omega) (by omega)]; rfl⟩
          · exact ⟨⟨rfl, hl1.symm, rfl⟩⟩
          · refine ⟨⟨hj, ?_, ⟨by show (stepV y.cs c).length ≤ q.1; omega, fun j hj => ?_, by show (stepV y.cs c).length ≤ 200 * x.i + (y.i + 1); omega, hmem⟩⟩, by show (l x.i).n - (y.i + 1) < (l x.i).n - y.i; omega⟩
            · show stepV y.cs c = stepV _ _
              rw [← hycs, ← hc]
            · replace hj : j < (stepV y.cs c).length := hj
              show q.2 j = gce (stepV y.cs c) j
              rw [hq2 j (by omega), hst, gce_ins _ _ _ hbl]
              simp only [insG]
              by_cases h7 : j < r.1
              · rw [if_pos h7, if_pos h7, p2 j (by omega)]
              · rw [if_neg h7, if_neg h7]
                by_cases h8 : j = r.1
                · rw [if_pos h8, if_pos h8]
                · rw [if_neg h8, if_neg h8, p2 _ (by omega)]
        all_goals
          rename_i hr2
          replace hr2 : r.2 = true := by simpa using hr2
          have hb2 := hbt hr2
        · exact ⟨by omega⟩
        · exact ⟨by omega⟩
        rw [if_neg (by simp [hr2])] at hst
        refine ⟨(c, y.g (0 + r.1)), ⟨AE.refl _, AE.refl _, trivial⟩, ⟨hwc, ?_⟩, ?_⟩
        · show wfC (y.g (0 + r.1))
          rw [Nat.zero_add, p2 _ hb2]
          exact p4 _ (gce_mem hb2)
        intro w hw
        replace hw : w = laterC c (y.g (0 + r.1)) := hw
        rw [Nat.zero_add, p2 _ hb2] at hw
        rw [← hw] at hst
        conv => whnf
        repeat' (first | (refine And.intro (fun _ => ?_) (fun _ => ?_) <;> conv => whnf) | (refine And.intro ?_ ?_ <;> conv => whnf))
        all_goals simp only [decide_eq_true_eq, decide_eq_false_iff_not] at *
        · exact ⟨by omega⟩
        · exact ⟨by omega⟩
        · rename_i hw2
          rw [if_pos hw2] at hst
          refine ⟨⟨y.i + 1, stepV y.cs c, y.C, fun j => if j = r.1 then c else y.g j⟩, [some 0], ?_⟩
          conv => whnf
          repeat' (refine And.intro ?_ ?_ <;> conv => whnf)
          all_goals try first | exact ⟨rfl⟩ | exact ⟨⟨rfl, rfl⟩⟩ | exact ⟨⟨rfl, rfl, rfl⟩⟩ | exact ⟨by omega⟩ | exact ⟨⟨by omega, by omega⟩⟩ | exact ⟨⟨by omega, by omega, by omega⟩⟩ | exact ⟨fun _ _ => rfl⟩ | exact ⟨fun k _ => leV_refl _ (pln_cellV _)⟩ | exact ⟨by rw [wrap_id (by omega) (by omega)]; rfl⟩
          · exact ⟨⟨rfl, by rw [hst]; simp, rfl⟩⟩
          · refine ⟨fun k hk => leV_eq ?_ (pln_cellV _)⟩
            by_cases h7 : k = r.1
            · refine (if_pos (by omega)).trans ?_
              show cellV c = cellV (if k = r.1 then c else y.g k)
              rw [if_pos h7]
            · refine (if_neg (by omega)).trans ?_
              show cellV (y.g k) = cellV (if k = r.1 then c else y.g k)
              rw [if_neg h7]
          · have hl1 : (stepV y.cs c).length = y.cs.length := by rw [hst]; simp
            refine ⟨⟨hj, ?_, ⟨by show (stepV y.cs c).length ≤ y.C; omega, fun j hj => ?_, by show (stepV y.cs c).length ≤ 200 * x.i + (y.i + 1); omega, hmem⟩⟩, by show (l x.i).n - (y.i + 1) < (l x.i).n - y.i; omega⟩
            · show stepV y.cs c = stepV _ _
              rw [← hycs, ← hc]
            · replace hj : j < (stepV y.cs c).length := hj
              show (if j = r.1 then c else y.g j) = gce (stepV y.cs c) j
              rw [hst]
              simp only [gce, List.getD_eq_getElem?_getD, List.getElem?_set]
              by_cases h7 : r.1 = j
              · rw [if_pos h7.symm, if_pos h7, if_pos hb2]
                rfl
              · rw [if_neg (Ne.symm h7), if_neg h7, p2 j (by omega)]
                simp only [gce, List.getD_eq_getElem?_getD]
        · rename_i hw2
          rw [if_neg hw2] at hst
          refine ⟨⟨y.i + 1, y.cs, y.C, y.g⟩, [some 0], ?_⟩
          conv => whnf
          repeat' (refine And.intro ?_ ?_ <;> conv => whnf)
          all_goals try first | exact ⟨rfl⟩ | exact ⟨⟨rfl, rfl⟩⟩ | exact ⟨⟨rfl, rfl, rfl⟩⟩ | exact ⟨by omega⟩ | exact ⟨⟨by omega, by omega⟩⟩ | exact ⟨⟨by omega, by omega, by omega⟩⟩ | exact ⟨fun _ _ => rfl⟩ | exact ⟨fun k _ => leV_refl _ (pln_cellV _)⟩ | exact ⟨by rw [wrap_id (by omega) (by omega)]; rfl⟩
          · refine ⟨⟨hj, ?_, ⟨p1, p2, by show y.cs.length ≤ 200 * x.i + (y.i + 1); omega, p4⟩⟩, by show (l x.i).n - (y.i + 1) < (l x.i).n - y.i; omega⟩
            show y.cs = stepV _ _
            rw [← hycs, ← hc, hst]
      · refine vc_ok hΓ mixed 1000 _ [] _ (by kernel_rfl) rfl ?_
        conv => whnf
        have hj : y.i = (l x.i).n := by
          have : ¬ ((y.i : Nat) : Int) < ((l x.i).n : Nat) := by simpa using h4
          omega
        refine ⟨⟨x.i + 1, y.cs, y.C, y.g⟩, [some 0], ?_⟩
        conv => whnf
        repeat' (refine And.intro ?_ ?_ <;> conv => whnf)
        all_goals try first | exact ⟨rfl⟩ | exact ⟨⟨rfl, rfl⟩⟩ | exact ⟨⟨rfl, rfl, rfl⟩⟩ | exact ⟨by omega⟩ | exact ⟨⟨by omega, by omega⟩⟩ | exact ⟨⟨by omega, by omega, by omega⟩⟩ | exact ⟨fun _ _ => rfl⟩ | exact ⟨fun k _ => leV_refl _ (pln_cellV _)⟩
        · exact ⟨by rw [wrap_id (by omega) (by omega)]; rfl⟩
        · refine ⟨⟨⟨hi, ?_, p1, p2, by show y.cs.length ≤ 200 * (x.i + 1); omega, p4⟩, by show n - (x.i + 1) < n - x.i; omega⟩⟩
          show y.cs = viewN l (x.i + 1)
          rw [hycs, hj, hcs]
          exact (if_neg (by rw [show (l x.i).shut = false from hsh]; simp)).symm
  · refine vc_ok hΓ mixed 1000 _ [] _ (by kernel_rfl) rfl ?_
    conv => whnf
    have hi : x.i = n := by
      have : ¬ ((x.i : Nat) : Int) < (n : Nat) := by simpa using h3
      omega
    rw [← hi, ← hcs]
    conv => whnf
    repeat' (refine And.intro ?_ ?_ <;> conv => whnf)
    all_goals try first | exact ⟨rfl⟩ | exact ⟨⟨rfl, rfl⟩⟩ | exact ⟨⟨rfl, rfl, rfl⟩⟩ | exact ⟨by omega⟩ | exact ⟨⟨by omega, by omega⟩⟩ | exact ⟨⟨by omega, by omega, by omega⟩⟩ | exact ⟨fun k _ => own_cellV _⟩
    refine Ld.imm fun k hk => ?_
    show cellV (x.g (0 + k)) = _
    rw [Nat.zero_add, o2 k hk]
end Go.Proofs.YtaihjcpfjgpmoaaGreatDoor

/- The state's bytes. -/
namespace Go.Proofs.YtaihjcpfjgpmoaaGreatDoor
set_option linter.unusedVariables false
set_option linter.unusedSimpArgs false
set_option maxRecDepth 100000
open Go Go.DD
def lTk (l : List Tk) (k : Nat) : Tk := l.getD k ⟨0, 0, false, []⟩
def lToks (l : List Tk) : Toks := ⟨true, l.length, lTk l⟩
def F29c : FSpec := mkG (fun (a : Fds) => [fdsV a.b a.n a.l]) (fun a => ∀ k, k < a.n → preF (a.l k)) (fun a => feedsOk a.n a.l) (fun r => .int .i64 (if r then 0 else 1))
theorem f29c_ok : FOk Tryz.prog G 25 F29c := mkG_of f29_ok
def F33c : FSpec := mkG (fun (f : Fd) => [fdV f]) preF lastF (fun r => .tup (.cons (.int .i64 r.1) (.cons (arrV 32 r.2.1) (.cons (.int .i64 r.2.2) .nil))))
theorem f33c_ok : FOk Tryz.prog G 64 F33c := mkG_of f33_ok
def F25c : FSpec := mkG (fun (a : Fds) => [fdsV a.b a.n a.l]) (fun a => ∀ k, k < a.n → preF (a.l k)) (fun a => viewL a.n a.l) (fun r => cellsV false r.length (gce r))
theorem f25c_ok : FOk Tryz.prog G 14 F25c := mkG_of f25_ok
theorem lastF_ok {f : Fd} (h : (lookF f).2 = true) : lastF f = (((f.n : Nat) : Int), (lookF f).1, (0 : Int)) := if_pos h
theorem folR_length (author : List UInt8) (es : Nat → Ent) (n : Nat) : (folR author es n).1.length = 32 := by
  unfold folR
  split
  · simp [z32]
  · exact folF_length _ _ _
theorem lookF_length (f : Fd) : (lookF f).1.length = 32 := folR_length _ _ _
theorem bsn (l m : List UInt8) : ∀ k, (if k < l.length then bf l k else bf m (k - l.length)) = bf (l ++ m) k := fun k => by
  rw [bf_append]
  by_cases h : k < l.length
  · rw [if_pos h, if_neg (by omega)]
  · rw [if_neg h]
    by_cases h2 : k < l.length + m.length
    · rw [if_pos ⟨by omega, h2⟩]
    · rw [if_neg (by omega)]
      simp only [bf, List.getD_eq_getElem?_getD]
      rw [List.getElem?_eq_none (by omega), List.getElem?_eq_none (by omega)]
theorem viewE_len (es : Nat → Ent) (cs : List Ce) : ∀ n, (viewE es n cs).length ≤ cs.length + n
  | 0 => Nat.le_refl _
  | n + 1 => by have := viewE_len es cs n; have := stepV_len (viewE es n cs) (mkCell (es n)); simp only [viewE]; omega
theorem viewN_len {l : Nat → Fd} : ∀ {n : Nat}, (∀ k, k < n → (l k).n ≤ 200) → (viewN l n).length ≤ 200 * n
  | 0, _ => by simp [viewN]
  | n + 1, h => by
    have h1 := viewN_len (l := l) (n := n) (fun k hk => h k (by omega))
    have h2 := h n (by omega)
    simp only [viewN]
    split
    · omega
    · have := viewE_len (l n).es (viewN l n) (l n).n
      omega
theorem viewL_len (n : Nat) (l : Nat → Fd) : (viewL n l).length ≤ 1600 := by
  unfold viewL
  split
  · rename_i h
    obtain ⟨h1, h2, h3⟩ := feedsOk_look h
    have := viewN_len (l := l) (n := n) (fun k hk => (look_ents (h3 k hk)).1)
    omega
  · simp
theorem viewE_mem {es : Nat → Ent} {cs : List Ce} {c : Ce} : ∀ {n : Nat}, c ∈ viewE es n cs → c ∈ cs ∨ ∃ k, k < n ∧ c = mkCell (es k)
  | 0, h => .inl h
  | n + 1, h => by
    rcases stepV_mem (show c ∈ stepV (viewE es n cs) (mkCell (es n)) from h) with h | h
    · rcases viewE_mem h with h | ⟨k, hk, h⟩
      · exact .inl h
      · exact .inr ⟨k, by omega, h⟩
    · exact .inr ⟨n, by omega, h⟩
theorem viewN_mem {l : Nat → Fd} {c : Ce} : ∀ {n : Nat}, c ∈ viewN l n → ∃ i k, i < n ∧ k < (l i).n ∧ (l i).shut = false ∧ c = mkCell ((l i).es k)
  | 0, h => by cases h
  | n + 1, h => by
    simp only [viewN] at h
    split at h
    · obtain ⟨i, k, h1, h2⟩ := viewN_mem h
      exact ⟨i, k, by omega, h2⟩
    · rename_i hs
      rcases viewE_mem h with h | ⟨k, hk, h⟩
      · obtain ⟨i, k, h1, h2⟩ := viewN_mem h
        exact ⟨i, k, by omega, h2⟩
      · exact ⟨n, k, by omega, hk, by simpa using hs, h⟩
/-- A cell of a right set. -/
structure OkCe (c : Ce) : Prop where
  wf : wfC c
  key1 : 1 ≤ c.key.length
  key2 : c.key.length ≤ 16
  val : c.val.length ≤ 40
  st0 : 0 ≤ c.stamp
  st1 : c.stamp ≤ 9223372036854775807
  utf : utf8 c.key = true
theorem viewL_mem {n : Nat} {l : Nat → Fd} (hl : ∀ k, k < n → preF (l k)) {c : Ce} (h : c ∈ viewL n l) : OkCe c := by
  unfold viewL at h
  split at h
  · rename_i hf
    obtain ⟨i, k, h1, h2, h3, rfl⟩ := viewN_mem h
    obtain ⟨f1, f2, f3⟩ := feedsOk_look hf
    obtain ⟨e1, e2⟩ := look_ents (f3 i h1)
    have h4 := entOk_len (e2 k h2)
    have h5 := (hl i h1).2.1 k h2
    exact ⟨⟨h5.1.1, idE_length _⟩, h4.2.2.1, h4.1, h4.2.1, h4.2.2.2.1, h5.2, h4.2.2.2.2.2.1⟩
  · cases h
end Go.Proofs.YtaihjcpfjgpmoaaGreatDoor

/- What the writer of CBOR writes. -/
namespace Go.Proofs.YtaihjcpfjgpmoaaGreatDoor
set_option linter.unusedVariables false
set_option linter.unusedSimpArgs false
set_option maxRecDepth 100000
open Go Go.DD
/-- An item that holds nothing. -/
def itemB (t : Tk) : List UInt8 := if t.kind = 1 then headL 0 t.n.toNat else if t.kind = 4 then headL 3 t.l.length ++ t.l else headL 2 t.l.length ++ t.l
structure FlatT (t : Tk) : Prop where
  len : t.l.length ≤ 2000
  kind : (t.kind = 1 ∧ 0 ≤ t.n ∧ t.l = []) ∨ (t.kind = 3 ∧ t.n = 0) ∨ (t.kind = 4 ∧ t.n = 0 ∧ utf8 t.l = true)
theorem itemB_len {t : Tk} (h : FlatT t) : (itemB t).length ≤ 9 + t.l.length := by
  have h1 := headL_length 0 t.n.toNat
  have h2 := headL_length 2 t.l.length
  have h3 := headL_length 3 t.l.length
  unfold itemB
  split
  · omega
  · split <;> simp <;> omega
theorem wItem_flat {a : Toks} {k : Nat} {s : WS} (h1 : s.at' < a.n) (h2 : s.out.length ≤ 32768) (h3 : s.bad = false) (h4 : FlatT (a.ts s.at')) : wItem a k s = ⟨s.at' + 1, s.out ++ itemB (a.ts s.at'), false⟩ := by
  have hl := h4.len
  rw [wItem_eq, if_neg (by omega)]
  rcases h4.kind with ⟨k1, k2, k3⟩ | ⟨k1, k2⟩ | ⟨k1, k2, k3⟩
  · rw [if_pos k1]
    obtain ⟨m, hm⟩ : ∃ m : Nat, (a.ts s.at').n = m := ⟨(a.ts s.at').n.toNat, by omega⟩
    simp only [wNum, ahead, k3, itemB, k1, if_true, hm, Int.toNat_natCast, h3]
    rw [wHead_nat]
    simp
  · rw [if_neg (by omega), if_neg (by omega), if_pos (.inl k1), wBytes, if_neg (by simp [bytesBad, ahead, h3, k1, k2]; omega)]
    simp [ahead, itemB, k1]
  · rw [if_neg (by omega), if_neg (by omega), if_pos (.inr k1), wBytes, if_neg (by simp [bytesBad, ahead, h3, k1, k2, k3]; omega)]
    simp [ahead, itemB, k1]
theorem wItem_arr {a : Toks} {k : Nat} {s : WS} {n : Nat} (h1 : s.at' < a.n) (h2 : s.out.length ≤ 32768) (h3 : s.bad = false) (h4 : (a.ts s.at').kind = 5) (h5 : (a.ts s.at').n = (n : Nat)) (h6 : (a.ts s.at').l = []) (h7 : n ≤ 64) :
    wItem a (k + 1) s = wRep (wItem a k) n ⟨s.at' + 1, s.out ++ headL 4 n, false⟩ := by
  rw [wItem_eq, if_neg (by omega), if_neg (by omega), if_neg (by omega), if_neg (by omega), if_pos h4, wMany]
  refine (if_neg (by simp [manyBad, h6, h5]; omega)).trans ?_
  rw [h5, wHead_nat]
  simp [ahead, h3]
end Go.Proofs.YtaihjcpfjgpmoaaGreatDoor

/- The state's hash; whether sets are the same. -/
namespace Go.Proofs.YtaihjcpfjgpmoaaGreatDoor
set_option linter.unusedVariables false
set_option linter.unusedSimpArgs false
set_option maxRecDepth 100000
open Go Go.DD
def F21c : FSpec := mkG (fun (a : By) => [a.v]) okB (fun a => sha a.l) (arrV 32)
theorem f21c_ok : FOk Tryz.prog [] 100 F21c := mkG_of f21_ok
/-- Whether the first bytes are alike. -/
def F71 : FSpec := mkG (fun (a : By × By) => [a.1.v, a.2.v]) (fun a => (a.1.ok ∧ a.1.l.length ≤ 9223372036854775807) ∧ a.2.ok) (fun a => decide (a.1.l = a.2.l)) .bool
theorem f71_ok : FOk Tryz.prog [] 106 F71 := mkG_ok fun a ⟨⟨ha, hn⟩, hb⟩ => by
  refine CP.by1 ha (CP.by2 hb ?_)
  generalize a.1.l = l at hn
  generalize a.2.l = m
  generalize a.1.b = b1
  generalize a.2.b = b2
  have hΓ := ctxOk Tryz.f106.ntmps [] [] (FL.all .nil) (HL.all .nil)
  refine CP_of_OK hΓ Tryz.func106 (c := bodyOf Tryz.f106) rfl (by decide) rfl rfl (by simp) (vc_ok hΓ mixed 1000 _ [] _ (by kernel_rfl) rfl ?_)
  conv => whnf
  refine And.intro (fun h1 => ?_) (fun h1 => ?_) <;> conv => whnf
  · have h2 : l.length ≠ m.length := by
      simp only [bne_iff_ne, ne_eq] at h1
      omega
    refine Ld.of (congrArg V.bool ?_)
    exact (decide_eq_false fun e => h2 (by rw [e])).symm
  · have h2 : l.length = m.length := by
      simp only [bne_eq_false_iff_eq] at h1
      omega
    refine OK_loopC (ι := Nat) (fun i => [(0, byV b1 l), (1, byV b2 m), (12, .int .i64 (l.length : Nat)), (13, .int .i64 (i : Nat))]) (fun i => []) (fun i => i ≤ l.length ∧ ∀ j, j < i → l.getD j 0 = m.getD j 0) (fun i => l.length - i) 0 [] ?_ (fun i hi => vc_ok hΓ mixed 1000 _ [] _ (by kernel_rfl) rfl ?_)
    · conv => whnf
      repeat' (first | (refine And.intro (fun _ => ?_) (fun _ => ?_) <;> conv => whnf) | (refine And.intro ?_ ?_ <;> conv => whnf))
      all_goals try first | exact ⟨rfl⟩ | exact ⟨⟨rfl, rfl⟩⟩ | exact ⟨⟨rfl, rfl, rfl⟩⟩ | exact ⟨fun _ _ => rfl⟩ | exact ⟨fun _ _ => trivial⟩ | exact ⟨fun k _ => isU8_bf _ k⟩ | exact ⟨by omega⟩ | exact ⟨⟨by omega, by omega⟩⟩ | exact ⟨⟨by omega, by omega, by omega⟩⟩
      all_goals exact ⟨⟨Nat.zero_le _, fun j hj => absurd hj (by omega)⟩⟩
    · obtain ⟨hi1, hi2⟩ := hi
      conv => whnf
      repeat' (first | (refine And.intro (fun _ => ?_) (fun _ => ?_) <;> conv => whnf) | (refine And.intro ?_ ?_ <;> conv => whnf))
      all_goals (try simp only [decide_eq_true_eq, decide_eq_false_iff_not, Int.toNat_natCast, Bool.not_eq_true, Bool.not_eq_false] at *)
      all_goals try first | exact ⟨rfl⟩ | exact ⟨⟨rfl, rfl⟩⟩ | exact ⟨⟨rfl, rfl, rfl⟩⟩ | exact ⟨fun _ _ => rfl⟩ | exact ⟨fun _ _ => trivial⟩ | exact ⟨fun k _ => isU8_bf _ k⟩ | exact ⟨by omega⟩ | exact ⟨⟨by omega, by omega⟩⟩ | exact ⟨⟨by omega, by omega, by omega⟩⟩
      · rename_i hne _
        have h3 : l.getD i 0 ≠ m.getD i 0 := fun e => by simp only [bne_iff_ne, ne_eq, e, not_true] at hne
        refine Ld.of (congrArg V.bool ?_)
        exact (decide_eq_false fun e => h3 (by rw [e])).symm
      · rename_i hne _
        have h3 : l.getD i 0 = m.getD i 0 := by
          refine UInt8.toNat_inj.1 ?_
          simp only [bne_eq_false_iff_eq] at hne
          omega
        refine ⟨i + 1, [], ?_⟩
        conv => whnf
        repeat' (refine And.intro ?_ ?_ <;> conv => whnf)
        all_goals try first | exact ⟨rfl⟩ | exact ⟨⟨rfl, rfl⟩⟩ | exact ⟨⟨rfl, rfl, rfl⟩⟩ | exact ⟨fun _ _ => rfl⟩ | exact ⟨fun _ _ => trivial⟩ | exact ⟨fun k _ => isU8_bf _ k⟩ | exact ⟨by omega⟩ | exact ⟨⟨by omega, by omega⟩⟩ | exact ⟨⟨by omega, by omega, by omega⟩⟩
        · exact ⟨by rw [wrap_id (by omega) (by omega)]; rfl⟩
        refine ⟨⟨⟨by omega, fun j hj => ?_⟩, by omega⟩⟩
        rcases Nat.lt_or_ge j i with h4 | h4
        · exact hi2 j h4
        · obtain rfl : j = i := by omega
          exact h3
      · refine vc_ok hΓ mixed 1000 _ [] _ (by kernel_rfl) rfl ?_
        conv => whnf
        refine Ld.of (congrArg V.bool ?_)
        refine (decide_eq_true (List.ext_getElem h2 fun j k1 k2 => ?_)).symm
        have := hi2 j (by omega)
        simpa [List.getD_eq_getElem?_getD, k1, k2] using this
def F70c : FSpec := mkG (fun (e : Ent) => [entV e]) preE encE encR
theorem f70c_ok : FOk Tryz.prog G 105 F70c := mkG_of f70_ok
/-- Whether the first of two rows are alike, one by one. -/
def allB (f : Nat → Bool) (n : Nat) : Bool := (List.range n).all f
theorem allB_no {f : Nat → Bool} {n i : Nat} (hi : i < n) (h : f i = false) : allB f n = false := all_bad hi h
theorem allB_succ {f : Nat → Bool} {n : Nat} (h : allB f n = true) (h' : f n = true) : allB f (n + 1) = true := by
  unfold allB at *
  rw [List.range_succ, List.all_append, h]
  simp [h']
end Go.Proofs.YtaihjcpfjgpmoaaGreatDoor

/- The reference: whether bytes are UTF-8. -/
namespace Go.Proofs.YtaihjcpfjgpmoaaGreatDoor
set_option linter.unusedVariables false
set_option linter.unusedSimpArgs false
set_option maxRecDepth 100000
open Go Go.DD
def inI (n lo hi : Int) : Bool := decide (lo ≤ n) && decide (n ≤ hi)
def F42 : FSpec := mkG (fun (a : Int × Int × Int) => [.int .i64 a.1, .int .i64 a.2.1, .int .i64 a.2.2]) (fun _ => True) (fun a => inI a.1 a.2.1 a.2.2) .bool
theorem f42_ok : FOk Tryz.prog [] 22 F42 := mkG_ok fun a _ => by
  have hΓ := ctxOk Tryz.f22.ntmps [] [] (FL.all .nil) (HL.all .nil)
  refine CP_of_OK hΓ Tryz.func22 (c := bodyOf Tryz.f22) rfl (by decide) rfl rfl (by simp) (vc_ok hΓ mixed 1000 _ [] _ (by kernel_rfl) rfl ?_)
  conv => whnf
  repeat' (first | (refine And.intro (fun _ => ?_) (fun _ => ?_) <;> conv => whnf) | (refine And.intro ?_ ?_ <;> conv => whnf))
  · rename_i h1
    refine Ld.of (congrArg V.bool ?_)
    have h2 : a.2.1 ≤ a.1 := of_decide_eq_true h1
    rw [inI, decide_eq_true h2, Bool.true_and]
  · rename_i h1
    refine Ld.of (congrArg V.bool ?_)
    have h2 : ¬ a.2.1 ≤ a.1 := of_decide_eq_false h1
    rw [inI, decide_eq_false h2, Bool.false_and]
theorem f105_ok : FOk Tryz.prog [] 95 F42 := mkG_ok fun a _ => by
  have hΓ := ctxOk Tryz.f95.ntmps [] [] (FL.all .nil) (HL.all .nil)
  refine CP_of_OK hΓ Tryz.func95 (c := bodyOf Tryz.f95) rfl (by decide) rfl rfl (by simp) (vc_ok hΓ mixed 1000 _ [] _ (by kernel_rfl) rfl ?_)
  conv => whnf
  repeat' (first | (refine And.intro (fun _ => ?_) (fun _ => ?_) <;> conv => whnf) | (refine And.intro ?_ ?_ <;> conv => whnf))
  · rename_i h1
    refine Ld.of (congrArg V.bool ?_)
    have h2 : a.2.1 ≤ a.1 := of_decide_eq_true h1
    rw [inI, decide_eq_true h2, Bool.true_and]
  · rename_i h1
    refine Ld.of (congrArg V.bool ?_)
    have h2 : ¬ a.2.1 ≤ a.1 := of_decide_eq_false h1
    rw [inI, decide_eq_false h2, Bool.false_and]
theorem i64_and31 : ∀ x : Fin 256, bitsI .and .i64 (x.val : Nat) 31 = ((x.val % 32 : Nat) : Int) := by decide
theorem i64_and15 : ∀ x : Fin 256, bitsI .and .i64 (x.val : Nat) 15 = ((x.val % 16 : Nat) : Int) := by decide
theorem i64_and7 : ∀ x : Fin 256, bitsI .and .i64 (x.val : Nat) 7 = ((x.val % 8 : Nat) : Int) := by decide
theorem u8_and63 : ∀ x : Fin 256, bitsI .and .u8 (x.val : Nat) 63 = ((x.val % 64 : Nat) : Int) := by decide
theorem u8_and192 : ∀ x : Fin 256, (bitsI .and .u8 (x.val : Nat) 192 != 128) = !(decide (128 ≤ x.val) && decide (x.val < 192)) := by decide
theorem i64_or6 {a m : Nat} (ha : a < 2 ^ 40) (hm : m < 64) : bitsI .or .i64 (shlI .i64 (a : Nat) 6) (m : Nat) = ((a * 64 + m : Nat) : Int) := by
  have h1 : shlI .i64 (a : Nat) 6 = ((a * 64 : Nat) : Int) := by
    simp only [shlI, IntKind.bits, show min (Int.toNat 6) 64 = 6 from rfl]
    rw [wrap_id (by omega) (by omega)]
    omega
  have hb : ∀ x : Nat, x < 2 ^ 63 → BitVec.ofInt 64 (x : Nat) = BitVec.ofNat 64 x := fun x hx => u64_bv x (by omega)
  have h2 : a * 64 ||| m = a * 64 + m := by
    have := Nat.two_pow_add_eq_or_of_lt (i := 6) (b := m) (by omega) a
    rw [show 2 ^ 6 * a = a * 64 by omega] at this
    exact this.symm
  rw [h1]
  simp only [bitsI, IntKind.bits, hb (a * 64) (by omega), hb m (by omega)]
  show IntKind.i64.wrap (((BitVec.ofNat 64 (a * 64) ||| BitVec.ofNat 64 m).toNat : Nat) : Int) = _
  rw [BitVec.toNat_or, BitVec.toNat_ofNat, BitVec.toNat_ofNat, Nat.mod_eq_of_lt (by omega), Nat.mod_eq_of_lt (by omega), h2]
  rw [wrap_id (by omega) (by omega)]
/-- A rune's number, so far. -/
def cAt (c : Nat) (r : List UInt8) : Nat → Nat | 0 => c | k + 1 => cAt c r k * 64 + (r.getD (k + 1) 0).toNat % 64
def contB (r : List UInt8) (k : Nat) : Bool := decide (128 ≤ (r.getD k 0).toNat) && decide ((r.getD k 0).toNat < 192)
theorem getD_drop (l : List UInt8) (i k : Nat) : (l.drop i).getD k 0 = l.getD (i + k) 0 := by
  simp [List.getD_eq_getElem?_getD]
/-- Go's table of first bytes, in ranges. -/
theorem first_a {c : Nat} (h : 128 ≤ c) (h' : c < 0xC2) : firstB c = 0xF1 := by rw [firstB, if_neg (by omega), if_pos (by omega)]
theorem first_b {c : Nat} (h : 0xC2 ≤ c) (h' : c < 0xE0) : firstB c = 0x02 := by rw [firstB, if_neg (by omega), if_neg (by omega), if_pos (by omega)]
theorem first_c : firstB 0xE0 = 0x13 := rfl
theorem first_d {c : Nat} (h : 0xE0 < c) (h' : c < 0xED) : firstB c = 0x03 := by rw [firstB, if_neg (by omega), if_neg (by omega), if_neg (by omega), if_neg (by omega), if_pos (by omega)]
theorem first_e : firstB 0xED = 0x23 := rfl
theorem first_f {c : Nat} (h : 0xED < c) (h' : c < 0xF0) : firstB c = 0x03 := by rw [firstB, if_neg (by omega), if_neg (by omega), if_neg (by omega), if_neg (by omega), if_neg (by omega), if_neg (by omega), if_pos (by omega)]
theorem first_g : firstB 0xF0 = 0x34 := rfl
theorem first_h {c : Nat} (h : 0xF0 < c) (h' : c < 0xF4) : firstB c = 0x04 := by rw [firstB, if_neg (by omega), if_neg (by omega), if_neg (by omega), if_neg (by omega), if_neg (by omega), if_neg (by omega), if_neg (by omega), if_neg (by omega), if_pos (by omega)]
theorem first_i : firstB 0xF4 = 0x44 := rfl
theorem first_j {c : Nat} (h : 0xF4 < c) : firstB c = 0xF1 := by rw [firstB, if_neg (by omega), if_neg (by omega), if_neg (by omega), if_neg (by omega), if_neg (by omega), if_neg (by omega), if_neg (by omega), if_neg (by omega), if_neg (by omega), if_neg (by omega)]
/-- The same as Go's table tells, by the number. -/
def okR (r : List UInt8) : Nat → Bool
  | 1 => decide (2 ≤ r.length) && contB r 1 && decide (128 ≤ cAt ((r.getD 0 0).toNat % 32) r 1)
  | 2 => decide (3 ≤ r.length) && contB r 1 && contB r 2 && decide (2048 ≤ cAt ((r.getD 0 0).toNat % 16) r 2) && !(decide (55296 ≤ cAt ((r.getD 0 0).toNat % 16) r 2) && decide (cAt ((r.getD 0 0).toNat % 16) r 2 ≤ 57343))
  | _ => decide (4 ≤ r.length) && contB r 1 && contB r 2 && contB r 3 && decide (65536 ≤ cAt ((r.getD 0 0).toNat % 8) r 3) && decide (cAt ((r.getD 0 0).toNat % 8) r 3 ≤ 1114111)
theorem boolEq {x y : Bool} (h : x = true ↔ y = true) : x = y := Bool.eq_iff_iff.2 h
def fT (c : UInt8) : Nat := c.toNat
theorem utf8_1 {r : List UInt8} (h : 0 < r.length) (h1 : 192 ≤ (r.getD 0 0).toNat) (h2 : (r.getD 0 0).toNat < 224) : utf8 r = (okR r 1 && utf8 (r.drop 2)) := by
  rw [utf8_step r h]
  rcases Nat.lt_or_ge (r.getD 0 0).toNat 0xC2 with h3 | h3
  · rw [if_neg (by omega), first_a (by omega) h3]
    simp only [okR, contB, inR, accB, show (0xF1 : UInt8).toNat = 241 from rfl, show (0x02 : UInt8).toNat = 2 from rfl, show (0x13 : UInt8).toNat = 19 from rfl, show (0x03 : UInt8).toNat = 3 from rfl, show (0x23 : UInt8).toNat = 35 from rfl, show (0x34 : UInt8).toNat = 52 from rfl, show (0x04 : UInt8).toNat = 4 from rfl, show (0x44 : UInt8).toNat = 68 from rfl, Nat.reduceMod, Nat.reduceDiv, Nat.reduceEqDiff, if_true, if_false, show (0x80 : UInt8).toNat = 128 from rfl, show (0xBF : UInt8).toNat = 191 from rfl, show (0xA0 : UInt8).toNat = 160 from rfl, show (0x9F : UInt8).toNat = 159 from rfl, show (0x90 : UInt8).toNat = 144 from rfl, show (0x8F : UInt8).toNat = 143 from rfl]
    refine (Bool.and_eq_false_iff.2 (.inl ?_)).symm
    simp only [Bool.and_eq_false_iff, decide_eq_false_iff_not, Bool.not_eq_false', Bool.and_eq_true, decide_eq_true_eq]
    simp only [cAt, Nat.reduceAdd]
    omega
  · rw [if_neg (by omega), first_b h3 h2]
    simp only [okR, contB, inR, accB, show (0xF1 : UInt8).toNat = 241 from rfl, show (0x02 : UInt8).toNat = 2 from rfl, show (0x13 : UInt8).toNat = 19 from rfl, show (0x03 : UInt8).toNat = 3 from rfl, show (0x23 : UInt8).toNat = 35 from rfl, show (0x34 : UInt8).toNat = 52 from rfl, show (0x04 : UInt8).toNat = 4 from rfl, show (0x44 : UInt8).toNat = 68 from rfl, Nat.reduceMod, Nat.reduceDiv, Nat.reduceEqDiff, if_true, if_false, show (0x80 : UInt8).toNat = 128 from rfl, show (0xBF : UInt8).toNat = 191 from rfl, show (0xA0 : UInt8).toNat = 160 from rfl, show (0x9F : UInt8).toNat = 159 from rfl, show (0x90 : UInt8).toNat = 144 from rfl, show (0x8F : UInt8).toNat = 143 from rfl]
    refine congrArg (· && _) (boolEq ?_)
    simp only [Bool.and_eq_true, Bool.not_eq_true', Bool.and_eq_false_iff, decide_eq_true_eq, decide_eq_false_iff_not]
    simp only [cAt, Nat.reduceAdd]
    omega
theorem utf8_2 {r : List UInt8} (h : 0 < r.length) (h1 : 224 ≤ (r.getD 0 0).toNat) (h2 : (r.getD 0 0).toNat < 240) : utf8 r = (okR r 2 && utf8 (r.drop 3)) := by
  rw [utf8_step r h]
  rcases Nat.lt_or_ge 0xE0 (r.getD 0 0).toNat with h3 | h3
  · rcases Nat.lt_or_ge (r.getD 0 0).toNat 0xED with h4 | h4
    · rw [if_neg (by omega), first_d h3 h4]
      simp only [okR, contB, inR, accB, show (0xF1 : UInt8).toNat = 241 from rfl, show (0x02 : UInt8).toNat = 2 from rfl, show (0x13 : UInt8).toNat = 19 from rfl, show (0x03 : UInt8).toNat = 3 from rfl, show (0x23 : UInt8).toNat = 35 from rfl, show (0x34 : UInt8).toNat = 52 from rfl, show (0x04 : UInt8).toNat = 4 from rfl, show (0x44 : UInt8).toNat = 68 from rfl, Nat.reduceMod, Nat.reduceDiv, Nat.reduceEqDiff, if_true, if_false, show (0x80 : UInt8).toNat = 128 from rfl, show (0xBF : UInt8).toNat = 191 from rfl, show (0xA0 : UInt8).toNat = 160 from rfl, show (0x9F : UInt8).toNat = 159 from rfl, show (0x90 : UInt8).toNat = 144 from rfl, show (0x8F : UInt8).toNat = 143 from rfl]
      refine congrArg (· && _) (boolEq ?_)
      simp only [Bool.and_eq_true, Bool.not_eq_true', Bool.and_eq_false_iff, decide_eq_true_eq, decide_eq_false_iff_not]
      simp only [cAt, Nat.reduceAdd]
      omega
    · rcases Nat.lt_or_ge 0xED (r.getD 0 0).toNat with h5 | h5
      · rw [if_neg (by omega), first_f h5 h2]
        simp only [okR, contB, inR, accB, show (0xF1 : UInt8).toNat = 241 from rfl, show (0x02 : UInt8).toNat = 2 from rfl, show (0x13 : UInt8).toNat = 19 from rfl, show (0x03 : UInt8).toNat = 3 from rfl, show (0x23 : UInt8).toNat = 35 from rfl, show (0x34 : UInt8).toNat = 52 from rfl, show (0x04 : UInt8).toNat = 4 from rfl, show (0x44 : UInt8).toNat = 68 from rfl, Nat.reduceMod, Nat.reduceDiv, Nat.reduceEqDiff, if_true, if_false, show (0x80 : UInt8).toNat = 128 from rfl, show (0xBF : UInt8).toNat = 191 from rfl, show (0xA0 : UInt8).toNat = 160 from rfl, show (0x9F : UInt8).toNat = 159 from rfl, show (0x90 : UInt8).toNat = 144 from rfl, show (0x8F : UInt8).toNat = 143 from rfl]
        refine congrArg (· && _) (boolEq ?_)
        simp only [Bool.and_eq_true, Bool.not_eq_true', Bool.and_eq_false_iff, decide_eq_true_eq, decide_eq_false_iff_not]
        simp only [cAt, Nat.reduceAdd]
        omega
      · rw [if_neg (by omega), show (r.getD 0 0).toNat = 0xED by omega, first_e]
        simp only [okR, contB, inR, accB, show (0xF1 : UInt8).toNat = 241 from rfl, show (0x02 : UInt8).toNat = 2 from rfl, show (0x13 : UInt8).toNat = 19 from rfl, show (0x03 : UInt8).toNat = 3 from rfl, show (0x23 : UInt8).toNat = 35 from rfl, show (0x34 : UInt8).toNat = 52 from rfl, show (0x04 : UInt8).toNat = 4 from rfl, show (0x44 : UInt8).toNat = 68 from rfl, Nat.reduceMod, Nat.reduceDiv, Nat.reduceEqDiff, if_true, if_false, show (0x80 : UInt8).toNat = 128 from rfl, show (0xBF : UInt8).toNat = 191 from rfl, show (0xA0 : UInt8).toNat = 160 from rfl, show (0x9F : UInt8).toNat = 159 from rfl, show (0x90 : UInt8).toNat = 144 from rfl, show (0x8F : UInt8).toNat = 143 from rfl]
        refine congrArg (· && _) (boolEq ?_)
        simp only [Bool.and_eq_true, Bool.not_eq_true', Bool.and_eq_false_iff, decide_eq_true_eq, decide_eq_false_iff_not]
        simp only [cAt, Nat.reduceAdd]
        omega
  · rw [if_neg (by omega), show (r.getD 0 0).toNat = 0xE0 by omega, first_c]
    simp only [okR, contB, inR, accB, show (0xF1 : UInt8).toNat = 241 from rfl, show (0x02 : UInt8).toNat = 2 from rfl, show (0x13 : UInt8).toNat = 19 from rfl, show (0x03 : UInt8).toNat = 3 from rfl, show (0x23 : UInt8).toNat = 35 from rfl, show (0x34 : UInt8).toNat = 52 from rfl, show (0x04 : UInt8).toNat = 4 from rfl, show (0x44 : UInt8).toNat = 68 from rfl, Nat.reduceMod, Nat.reduceDiv, Nat.reduceEqDiff, if_true, if_false, show (0x80 : UInt8).toNat = 128 from rfl, show (0xBF : UInt8).toNat = 191 from rfl, show (0xA0 : UInt8).toNat = 160 from rfl, show (0x9F : UInt8).toNat = 159 from rfl, show (0x90 : UInt8).toNat = 144 from rfl, show (0x8F : UInt8).toNat = 143 from rfl]
    refine congrArg (· && _) (boolEq ?_)
    simp only [Bool.and_eq_true, Bool.not_eq_true', Bool.and_eq_false_iff, decide_eq_true_eq, decide_eq_false_iff_not]
    simp only [cAt, Nat.reduceAdd]
    omega
theorem utf8_3 {r : List UInt8} (h : 0 < r.length) (h1 : 240 ≤ (r.getD 0 0).toNat) (h2 : (r.getD 0 0).toNat < 248) : utf8 r = (okR r 3 && utf8 (r.drop 4)) := by
  rw [utf8_step r h]
  rcases Nat.lt_or_ge 0xF0 (r.getD 0 0).toNat with h3 | h3
  · rcases Nat.lt_or_ge (r.getD 0 0).toNat 0xF4 with h4 | h4
    · rw [if_neg (by omega), first_h h3 h4]
      simp only [okR, contB, inR, accB, show (0xF1 : UInt8).toNat = 241 from rfl, show (0x02 : UInt8).toNat = 2 from rfl, show (0x13 : UInt8).toNat = 19 from rfl, show (0x03 : UInt8).toNat = 3 from rfl, show (0x23 : UInt8).toNat = 35 from rfl, show (0x34 : UInt8).toNat = 52 from rfl, show (0x04 : UInt8).toNat = 4 from rfl, show (0x44 : UInt8).toNat = 68 from rfl, Nat.reduceMod, Nat.reduceDiv, Nat.reduceEqDiff, if_true, if_false, show (0x80 : UInt8).toNat = 128 from rfl, show (0xBF : UInt8).toNat = 191 from rfl, show (0xA0 : UInt8).toNat = 160 from rfl, show (0x9F : UInt8).toNat = 159 from rfl, show (0x90 : UInt8).toNat = 144 from rfl, show (0x8F : UInt8).toNat = 143 from rfl]
      refine congrArg (· && _) (boolEq ?_)
      simp only [Bool.and_eq_true, Bool.not_eq_true', Bool.and_eq_false_iff, decide_eq_true_eq, decide_eq_false_iff_not]
      simp only [cAt, Nat.reduceAdd]
      omega
    · rcases Nat.lt_or_ge 0xF4 (r.getD 0 0).toNat with h5 | h5
      · rw [if_neg (by omega), first_j h5]
        simp only [okR, contB, inR, accB, show (0xF1 : UInt8).toNat = 241 from rfl, show (0x02 : UInt8).toNat = 2 from rfl, show (0x13 : UInt8).toNat = 19 from rfl, show (0x03 : UInt8).toNat = 3 from rfl, show (0x23 : UInt8).toNat = 35 from rfl, show (0x34 : UInt8).toNat = 52 from rfl, show (0x04 : UInt8).toNat = 4 from rfl, show (0x44 : UInt8).toNat = 68 from rfl, Nat.reduceMod, Nat.reduceDiv, Nat.reduceEqDiff, if_true, if_false, show (0x80 : UInt8).toNat = 128 from rfl, show (0xBF : UInt8).toNat = 191 from rfl, show (0xA0 : UInt8).toNat = 160 from rfl, show (0x9F : UInt8).toNat = 159 from rfl, show (0x90 : UInt8).toNat = 144 from rfl, show (0x8F : UInt8).toNat = 143 from rfl]
        refine (Bool.and_eq_false_iff.2 (.inl ?_)).symm
        simp only [Bool.and_eq_false_iff, decide_eq_false_iff_not, Bool.not_eq_false', Bool.and_eq_true, decide_eq_true_eq]
        simp only [cAt, Nat.reduceAdd]
        omega
      · rw [if_neg (by omega), show (r.getD 0 0).toNat = 0xF4 by omega, first_i]
        simp only [okR, contB, inR, accB, show (0xF1 : UInt8).toNat = 241 from rfl, show (0x02 : UInt8).toNat = 2 from rfl, show (0x13 : UInt8).toNat = 19 from rfl, show (0x03 : UInt8).toNat = 3 from rfl, show (0x23 : UInt8).toNat = 35 from rfl, show (0x34 : UInt8).toNat = 52 from rfl, show (0x04 : UInt8).toNat = 4 from rfl, show (0x44 : UInt8).toNat = 68 from rfl, Nat.reduceMod, Nat.reduceDiv, Nat.reduceEqDiff, if_true, if_false, show (0x80 : UInt8).toNat = 128 from rfl, show (0xBF : UInt8).toNat = 191 from rfl, show (0xA0 : UInt8).toNat = 160 from rfl, show (0x9F : UInt8).toNat = 159 from rfl, show (0x90 : UInt8).toNat = 144 from rfl, show (0x8F : UInt8).toNat = 143 from rfl]
        refine congrArg (· && _) (boolEq ?_)
        simp only [Bool.and_eq_true, Bool.not_eq_true', Bool.and_eq_false_iff, decide_eq_true_eq, decide_eq_false_iff_not]
        simp only [cAt, Nat.reduceAdd]
        omega
  · rw [if_neg (by omega), show (r.getD 0 0).toNat = 0xF0 by omega, first_g]
    simp only [okR, contB, inR, accB, show (0xF1 : UInt8).toNat = 241 from rfl, show (0x02 : UInt8).toNat = 2 from rfl, show (0x13 : UInt8).toNat = 19 from rfl, show (0x03 : UInt8).toNat = 3 from rfl, show (0x23 : UInt8).toNat = 35 from rfl, show (0x34 : UInt8).toNat = 52 from rfl, show (0x04 : UInt8).toNat = 4 from rfl, show (0x44 : UInt8).toNat = 68 from rfl, Nat.reduceMod, Nat.reduceDiv, Nat.reduceEqDiff, if_true, if_false, show (0x80 : UInt8).toNat = 128 from rfl, show (0xBF : UInt8).toNat = 191 from rfl, show (0xA0 : UInt8).toNat = 160 from rfl, show (0x9F : UInt8).toNat = 159 from rfl, show (0x90 : UInt8).toNat = 144 from rfl, show (0x8F : UInt8).toNat = 143 from rfl]
    refine congrArg (· && _) (boolEq ?_)
    simp only [Bool.and_eq_true, Bool.not_eq_true', Bool.and_eq_false_iff, decide_eq_true_eq, decide_eq_false_iff_not]
    simp only [cAt, Nat.reduceAdd]
    omega
theorem utf8_0 {r : List UInt8} (h : 0 < r.length) (h1 : (128 ≤ (r.getD 0 0).toNat ∧ (r.getD 0 0).toNat < 192) ∨ 248 ≤ (r.getD 0 0).toNat) : utf8 r = false := by
  rw [utf8_step r h]
  rcases h1 with h1 | h1
  · rw [if_neg (by omega), first_a h1.1 (by omega)]
    rfl
  · rw [if_neg (by omega), first_j (by omega)]
    rfl
theorem byte_wrap (c : UInt8) : IntKind.i64.wrap ((c.toNat : Nat) : Int) = (c.toNat : Nat) := by
  have := c.toNat_lt
  exact wrap_id (by omega) (by omega)
theorem and31b (c : UInt8) : bitsI .and .i64 (c.toNat : Nat) 31 = ((c.toNat % 32 : Nat) : Int) := i64_and31 ⟨c.toNat, c.toNat_lt⟩
theorem and15b (c : UInt8) : bitsI .and .i64 (c.toNat : Nat) 15 = ((c.toNat % 16 : Nat) : Int) := i64_and15 ⟨c.toNat, c.toNat_lt⟩
theorem and7b (c : UInt8) : bitsI .and .i64 (c.toNat : Nat) 7 = ((c.toNat % 8 : Nat) : Int) := i64_and7 ⟨c.toNat, c.toNat_lt⟩
theorem and63b (c : UInt8) : bitsI .and .u8 (c.toNat : Nat) 63 = ((c.toNat % 64 : Nat) : Int) := u8_and63 ⟨c.toNat, c.toNat_lt⟩
theorem and192b (c : UInt8) : (bitsI .and .u8 (c.toNat : Nat) 192 != 128) = !(decide (128 ≤ c.toNat) && decide (c.toNat < 192)) := u8_and192 ⟨c.toNat, c.toNat_lt⟩
theorem cAt_lt {c : Nat} (r : List UInt8) (hc : c < 32) : ∀ k, k ≤ 3 → cAt c r k < 2 ^ 24
  | 0, _ => by simp only [cAt]; omega
  | 1, _ => by simp only [cAt]; omega
  | 2, _ => by simp only [cAt]; omega
  | 3, _ => by simp only [cAt]; omega
def F112 : FSpec := mkG (fun (a : By) => [a.v]) okB (fun a => utf8 a.l) .bool
theorem okR_no {r : List UInt8} {s j : Nat} (hs : s = 1 ∨ s = 2 ∨ s = 3) (h1 : 1 ≤ j) (h2 : j ≤ s) (h : contB r j = false) : okR r s = false := by
  rcases hs with rfl | rfl | rfl
  · obtain rfl : j = 1 := by omega
    simp only [okR, h, Bool.and_false, Bool.false_and]
  · rcases (show j = 1 ∨ j = 2 by omega) with rfl | rfl <;> simp only [okR, h, Bool.and_false, Bool.false_and]
  · rcases (show j = 1 ∨ j = 2 ∨ j = 3 by omega) with rfl | rfl | rfl <;> simp only [okR, h, Bool.and_false, Bool.false_and]
theorem f112_ok : FOk Tryz.prog [] 135 F112 := mkG_ok fun a ⟨ha, hn⟩ => by
  refine CP.by1 ha ?_
  generalize a.l = l at hn
  generalize a.b = b
  have hΓ := ctxOk Tryz.f135.ntmps [(95, F42)] [] (FL.all (.cons f105_ok .nil)) (HL.all .nil)
  refine CP_of_OK hΓ Tryz.func135 (c := bodyOf Tryz.f135) rfl (by decide) rfl rfl (by simp) (vc_ok hΓ mixed 1000 _ [] _ (by kernel_rfl) rfl ?_)
  conv => whnf
  refine OK_loopC (ι := Nat) (fun i => [(0, byV b l), (3, .int .i64 (i : Nat))]) (fun i => []) (fun i => i ≤ l.length ∧ utf8 (l.drop i) = utf8 l) (fun i => l.length - i) 0 [] ?_ (fun i hi => vc_ok hΓ mixed 1000 _ [] _ (by kernel_rfl) rfl ?_)
  · conv => whnf
    repeat' (first | (refine And.intro (fun _ => ?_) (fun _ => ?_) <;> conv => whnf) | (refine And.intro ?_ ?_ <;> conv => whnf))
    all_goals try first | exact ⟨rfl⟩ | exact ⟨⟨rfl, rfl⟩⟩ | exact ⟨⟨rfl, rfl, rfl⟩⟩ | exact ⟨fun _ _ => rfl⟩ | exact ⟨fun _ _ => trivial⟩ | exact ⟨fun k _ => isU8_bf _ k⟩ | exact ⟨by omega⟩ | exact ⟨⟨by omega, by omega⟩⟩ | exact ⟨⟨by omega, by omega, by omega⟩⟩
    exact ⟨⟨Nat.zero_le _, rfl⟩⟩
  obtain ⟨i1, i2⟩ := hi
  have hst := utf8_step (l.drop i)
  have hu0 := @utf8_0 (l.drop i)
  have hu1 := @utf8_1 (l.drop i)
  have hu2 := @utf8_2 (l.drop i)
  have hu3 := @utf8_3 (l.drop i)
  rw [List.length_drop, i2] at hst hu0 hu1 hu2 hu3
  simp only [getD_drop, List.drop_drop, Nat.add_zero] at hst hu0 hu1 hu2 hu3
  have w1 : IntKind.i64.wrap (IntKind.i64.wrap ((l.length : Int) - (i : Nat)) - 1) = (l.length : Int) - (i : Nat) - 1 := by
    rw [wrap_id (x := (l.length : Int) - (i : Nat)) (by omega) (by omega), wrap_id (by omega) (by omega)]
  have hb0 := byte_lt l i
  conv => whnf
  repeat' (first | (refine And.intro (fun _ => ?_) (fun _ => ?_) <;> conv => whnf) | (refine And.intro ?_ ?_ <;> conv => whnf))
  all_goals try simp only [byte_wrap, and31b, and15b, and7b, Int.toNat_natCast, decide_eq_true_eq, decide_eq_false_iff_not, w1, beq_iff_eq, beq_eq_false_iff_ne, ne_eq] at *
  · exact ⟨by omega⟩
  · refine ⟨i + 1, [], ?_⟩
    conv => whnf
    repeat' (refine And.intro ?_ ?_ <;> conv => whnf)
    all_goals try first | exact ⟨rfl⟩ | exact ⟨⟨rfl, rfl⟩⟩ | exact ⟨⟨rfl, rfl, rfl⟩⟩ | exact ⟨fun _ _ => rfl⟩ | exact ⟨fun _ _ => trivial⟩ | exact ⟨fun k _ => isU8_bf _ k⟩ | exact ⟨by omega⟩ | exact ⟨⟨by omega, by omega⟩⟩ | exact ⟨⟨by omega, by omega, by omega⟩⟩
    · exact ⟨by rw [wrap_id (by omega) (by omega)]; rfl⟩
    · refine ⟨⟨⟨by omega, ?_⟩, by omega⟩⟩
      rw [hst (by omega), if_pos (by omega)]
  all_goals try (exfalso; omega)
  · have hu := hu1 (by omega) (by omega) (by omega)
    refine Ld.of (congrArg V.bool (Eq.symm ?_))
    rw [hu]
    refine Bool.and_eq_false_iff.2 (.inl ?_)
    simp only [okR, Bool.and_eq_false_iff, decide_eq_false_iff_not, List.length_drop]
    omega
  · have hu := hu1 (by omega) (by omega) (by omega)
    have hc0 : (l.getD i 0).toNat % 32 < 32 := by omega
    refine OK_loopC (ι := Nat) (fun k => [(0, byV b l), (3, .int .i64 (i : Nat)), (4, .int .i64 (cAt ((l.getD i 0).toNat % 32) (l.drop i) k : Nat)), (5, .int .i64 1), (6, .int .i64 128), (7, .int .i64 ((k : Nat) + 1))]) (fun k => []) (fun k => k ≤ 1 ∧ ∀ j, 1 ≤ j → j ≤ k → contB (l.drop i) j = true) (fun k => 1 - k) 0 [] ?_ (fun k hk => vc_ok hΓ mixed 1000 _ [] _ (by kernel_rfl) rfl ?_)
    · conv => whnf
      repeat' (first | (refine And.intro (fun _ => ?_) (fun _ => ?_) <;> conv => whnf) | (refine And.intro ?_ ?_ <;> conv => whnf))
      all_goals try first | exact ⟨rfl⟩ | exact ⟨⟨rfl, rfl⟩⟩ | exact ⟨⟨rfl, rfl, rfl⟩⟩ | exact ⟨fun _ _ => rfl⟩ | exact ⟨fun _ _ => trivial⟩ | exact ⟨fun k _ => isU8_bf _ k⟩ | exact ⟨by omega⟩ | exact ⟨⟨by omega, by omega⟩⟩ | exact ⟨⟨by omega, by omega, by omega⟩⟩ | exact ⟨by rw [byte_wrap]; first | exact and31b _ | exact and15b _ | exact and7b _⟩
      all_goals exact ⟨⟨Nat.zero_le _, fun j hj hj' => by omega⟩⟩
    obtain ⟨hk1, hk2⟩ := hk
    have hcl := cAt_lt (l.drop i) hc0 k (by omega)
    have w2 : IntKind.i64.wrap ((i : Int) + ((k : Nat) + 1)) = ((i + (k + 1) : Nat) : Int) := by rw [wrap_id (by omega) (by omega)]; omega
    conv => whnf
    refine And.intro (fun h7 => ?_) (fun h7 => ?_) <;> conv => whnf
    · have hk7 : k + 1 ≤ 1 := by
        have : ((k : Nat) : Int) + 1 ≤ 1 := by simpa using h7
        omega
      conv => whnf
      repeat' (first | (refine And.intro (fun _ => ?_) (fun _ => ?_) <;> conv => whnf) | (refine And.intro ?_ ?_ <;> conv => whnf))
      all_goals try exact ⟨by rw [w2]; omega⟩
      all_goals try exact ⟨by omega⟩
      · rename_i h8
        rw [w2, Int.toNat_natCast, and192b] at h8
        refine Ld.of (congrArg V.bool (Eq.symm ?_))
        rw [hu]
        refine Bool.and_eq_false_iff.2 (.inl ?_)
        refine okR_no (j := k + 1) (by omega) (by omega) (by omega) ?_
        rw [contB, getD_drop]
        simp only [Bool.not_eq_true', Bool.and_eq_true, decide_eq_true_eq] at h8
        exact h8
      · rename_i h8
        rw [w2, Int.toNat_natCast, and192b] at h8
        have h9 : contB (l.drop i) (k + 1) = true := by
          rw [contB, getD_drop]
          simpa using h8
        refine ⟨k + 1, [], ?_⟩
        conv => whnf
        repeat' (refine And.intro ?_ ?_ <;> conv => whnf)
        all_goals try first | exact ⟨rfl⟩ | exact ⟨⟨rfl, rfl⟩⟩ | exact ⟨⟨rfl, rfl, rfl⟩⟩ | exact ⟨fun _ _ => rfl⟩ | exact ⟨fun _ _ => trivial⟩ | exact ⟨fun k _ => isU8_bf _ k⟩ | exact ⟨by omega⟩ | exact ⟨⟨by omega, by omega⟩⟩ | exact ⟨⟨by omega, by omega, by omega⟩⟩
        · refine ⟨?_⟩
          rw [w2, Int.toNat_natCast, and63b, wrap_id (by omega) (by omega), i64_or6 (by omega) (by omega)]
          simp only [cAt, getD_drop]
        · exact ⟨by rw [wrap_id (by omega) (by omega)]; rfl⟩
        · refine ⟨⟨⟨hk7, fun j hj hj' => ?_⟩, by omega⟩⟩
          rcases Nat.lt_or_ge j (k + 1) with h10 | h10
          · exact hk2 j hj (by omega)
          · obtain rfl : j = k + 1 := by omega
            exact h9
    · have hk7 : k = 1 := by
        have : ¬ ((k : Nat) : Int) + 1 ≤ 1 := by simpa using h7
        omega
      subst hk7
      have hlen : (l.drop i).length = l.length - i := by simp
      have hv : cAt ((l.getD i 0).toNat % 32) (l.drop i) 1 < 2 ^ (6 * 1 + 5) := by simp only [cAt]; omega
      have hgo : okR (l.drop i) 1 = true → utf8 (l.drop (i + (1 + 1))) = utf8 l := fun h => by rw [hu, h, Bool.true_and]
      have hno : okR (l.drop i) 1 = false → Ld (V.bool false) (V.bool (utf8 l)) := fun h => Ld.of (congrArg V.bool (by rw [hu, h, Bool.false_and]))
      have he1 : (decide (1 + 1 ≤ (l.drop i).length)) = true := decide_eq_true (by rw [hlen]; omega)
      simp only [okR, getD_drop, Nat.add_zero, he1, hk2 1 (by decide) (by decide), Bool.and_true, Bool.true_and, Nat.reduceAdd] at hgo hno he1
      generalize cAt ((l.getD i 0).toNat % 32) (l.drop i) 1 = v at hv hgo hno ⊢
      have w3 : IntKind.i64.wrap (IntKind.i64.wrap ((i : Int) + 1) + 1) = ((i + (1 + 1) : Nat) : Int) := by rw [wrap_id (x := (i : Int) + 1) (by omega) (by omega), wrap_id (by omega) (by omega)]; omega
      refine vc_ok hΓ mixed 1000 _ [] _ (by kernel_rfl) rfl ?_
      conv => whnf
      conv => whnf
      repeat' (first | (refine And.intro (fun _ => ?_) (fun _ => ?_) <;> conv => whnf) | (refine And.intro ?_ ?_ <;> conv => whnf))
      all_goals try simp only [decide_eq_true_eq, decide_eq_false_iff_not] at *
      · refine hno ?_
        try simp only [Bool.and_eq_false_iff, decide_eq_false_iff_not, Bool.not_eq_false', Bool.and_eq_true, decide_eq_true_eq]
        omega
      · refine hno ?_
        try simp only [Bool.and_eq_false_iff, decide_eq_false_iff_not, Bool.not_eq_false', Bool.and_eq_true, decide_eq_true_eq]
        omega
      · refine ⟨((v : Nat), 55296, 57343), ⟨AE.refl _, AE.refl _, AE.refl _, trivial⟩, ⟨trivial⟩, ?_⟩
        intro q hq
        replace hq : q = (decide ((55296 : Int) ≤ (v : Nat)) && decide (((v : Nat) : Int) ≤ 57343)) := hq
        conv => whnf
        repeat' (first | (refine And.intro (fun _ => ?_) (fun _ => ?_) <;> conv => whnf) | (refine And.intro ?_ ?_ <;> conv => whnf))
        · rename_i hq2
          replace hq2 : q = true := hq2
          rw [hq2] at hq
          have hq3 := hq.symm
          simp only [Bool.and_eq_true, decide_eq_true_eq] at hq3
          refine hno ?_
          try simp only [Bool.and_eq_false_iff, decide_eq_false_iff_not, Bool.not_eq_false', Bool.and_eq_true, decide_eq_true_eq]
          omega
        · rename_i hq2
          replace hq2 : q = false := hq2
          rw [hq2] at hq
          have hq3 := hq.symm
          simp only [Bool.and_eq_false_iff, decide_eq_false_iff_not] at hq3
          refine ⟨i + (1 + 1), [], ?_⟩
          conv => whnf
          repeat' (refine And.intro ?_ ?_ <;> conv => whnf)
          all_goals try first | exact ⟨rfl⟩ | exact ⟨⟨rfl, rfl⟩⟩ | exact ⟨⟨rfl, rfl, rfl⟩⟩ | exact ⟨fun _ _ => rfl⟩ | exact ⟨fun _ _ => trivial⟩ | exact ⟨fun k _ => isU8_bf _ k⟩ | exact ⟨by omega⟩ | exact ⟨⟨by omega, by omega⟩⟩ | exact ⟨⟨by omega, by omega, by omega⟩⟩ | exact ⟨w3⟩
          · refine ⟨⟨⟨by omega, hgo ?_⟩, by omega⟩⟩
            try simp only [Bool.and_eq_true, Bool.not_eq_true', Bool.and_eq_false_iff, decide_eq_true_eq, decide_eq_false_iff_not]
            omega
  · have hu := hu2 (by omega) (by omega) (by omega)
    refine Ld.of (congrArg V.bool (Eq.symm ?_))
    rw [hu]
    refine Bool.and_eq_false_iff.2 (.inl ?_)
    simp only [okR, Bool.and_eq_false_iff, decide_eq_false_iff_not, List.length_drop]
    omega
  · have hu := hu2 (by omega) (by omega) (by omega)
    have hc0 : (l.getD i 0).toNat % 16 < 32 := by omega
    refine OK_loopC (ι := Nat) (fun k => [(0, byV b l), (3, .int .i64 (i : Nat)), (4, .int .i64 (cAt ((l.getD i 0).toNat % 16) (l.drop i) k : Nat)), (5, .int .i64 2), (6, .int .i64 2048), (7, .int .i64 ((k : Nat) + 1))]) (fun k => []) (fun k => k ≤ 2 ∧ ∀ j, 1 ≤ j → j ≤ k → contB (l.drop i) j = true) (fun k => 2 - k) 0 [] ?_ (fun k hk => vc_ok hΓ mixed 1000 _ [] _ (by kernel_rfl) rfl ?_)
    · conv => whnf
      repeat' (first | (refine And.intro (fun _ => ?_) (fun _ => ?_) <;> conv => whnf) | (refine And.intro ?_ ?_ <;> conv => whnf))
      all_goals try first | exact ⟨rfl⟩ | exact ⟨⟨rfl, rfl⟩⟩ | exact ⟨⟨rfl, rfl, rfl⟩⟩ | exact ⟨fun _ _ => rfl⟩ | exact ⟨fun _ _ => trivial⟩ | exact ⟨fun k _ => isU8_bf _ k⟩ | exact ⟨by omega⟩ | exact ⟨⟨by omega, by omega⟩⟩ | exact ⟨⟨by omega, by omega, by omega⟩⟩ | exact ⟨by rw [byte_wrap]; first | exact and31b _ | exact and15b _ | exact and7b _⟩
      all_goals exact ⟨⟨Nat.zero_le _, fun j hj hj' => by omega⟩⟩
    obtain ⟨hk1, hk2⟩ := hk
    have hcl := cAt_lt (l.drop i) hc0 k (by omega)
    have w2 : IntKind.i64.wrap ((i : Int) + ((k : Nat) + 1)) = ((i + (k + 1) : Nat) : Int) := by rw [wrap_id (by omega) (by omega)]; omega
    conv => whnf
    refine And.intro (fun h7 => ?_) (fun h7 => ?_) <;> conv => whnf
    · have hk7 : k + 1 ≤ 2 := by
        have : ((k : Nat) : Int) + 1 ≤ 2 := by simpa using h7
        omega
      conv => whnf
      repeat' (first | (refine And.intro (fun _ => ?_) (fun _ => ?_) <;> conv => whnf) | (refine And.intro ?_ ?_ <;> conv => whnf))
      all_goals try exact ⟨by rw [w2]; omega⟩
      all_goals try exact ⟨by omega⟩
      · rename_i h8
        rw [w2, Int.toNat_natCast, and192b] at h8
        refine Ld.of (congrArg V.bool (Eq.symm ?_))
        rw [hu]
        refine Bool.and_eq_false_iff.2 (.inl ?_)
        refine okR_no (j := k + 1) (by omega) (by omega) (by omega) ?_
        rw [contB, getD_drop]
        simp only [Bool.not_eq_true', Bool.and_eq_true, decide_eq_true_eq] at h8
        exact h8
      · rename_i h8
        rw [w2, Int.toNat_natCast, and192b] at h8
        have h9 : contB (l.drop i) (k + 1) = true := by
          rw [contB, getD_drop]
          simpa using h8
        refine ⟨k + 1, [], ?_⟩
        conv => whnf
        repeat' (refine And.intro ?_ ?_ <;> conv => whnf)
        all_goals try first | exact ⟨rfl⟩ | exact ⟨⟨rfl, rfl⟩⟩ | exact ⟨⟨rfl, rfl, rfl⟩⟩ | exact ⟨fun _ _ => rfl⟩ | exact ⟨fun _ _ => trivial⟩ | exact ⟨fun k _ => isU8_bf _ k⟩ | exact ⟨by omega⟩ | exact ⟨⟨by omega, by omega⟩⟩ | exact ⟨⟨by omega, by omega, by omega⟩⟩
        · refine ⟨?_⟩
          rw [w2, Int.toNat_natCast, and63b, wrap_id (by omega) (by omega), i64_or6 (by omega) (by omega)]
          simp only [cAt, getD_drop]
        · exact ⟨by rw [wrap_id (by omega) (by omega)]; rfl⟩
        · refine ⟨⟨⟨hk7, fun j hj hj' => ?_⟩, by omega⟩⟩
          rcases Nat.lt_or_ge j (k + 1) with h10 | h10
          · exact hk2 j hj (by omega)
          · obtain rfl : j = k + 1 := by omega
            exact h9
    · have hk7 : k = 2 := by
        have : ¬ ((k : Nat) : Int) + 1 ≤ 2 := by simpa using h7
        omega
      subst hk7
      have hlen : (l.drop i).length = l.length - i := by simp
      have hv : cAt ((l.getD i 0).toNat % 16) (l.drop i) 2 < 2 ^ (6 * 2 + 5) := by simp only [cAt]; omega
      have hgo : okR (l.drop i) 2 = true → utf8 (l.drop (i + (2 + 1))) = utf8 l := fun h => by rw [hu, h, Bool.true_and]
      have hno : okR (l.drop i) 2 = false → Ld (V.bool false) (V.bool (utf8 l)) := fun h => Ld.of (congrArg V.bool (by rw [hu, h, Bool.false_and]))
      have he1 : (decide (2 + 1 ≤ (l.drop i).length)) = true := decide_eq_true (by rw [hlen]; omega)
      simp only [okR, getD_drop, Nat.add_zero, he1, hk2 1 (by decide) (by decide), hk2 2 (by decide) (by decide), Bool.and_true, Bool.true_and, Nat.reduceAdd] at hgo hno he1
      generalize cAt ((l.getD i 0).toNat % 16) (l.drop i) 2 = v at hv hgo hno ⊢
      have w3 : IntKind.i64.wrap (IntKind.i64.wrap ((i : Int) + 1) + 2) = ((i + (2 + 1) : Nat) : Int) := by rw [wrap_id (x := (i : Int) + 1) (by omega) (by omega), wrap_id (by omega) (by omega)]; omega
      refine vc_ok hΓ mixed 1000 _ [] _ (by kernel_rfl) rfl ?_
      conv => whnf
      conv => whnf
      repeat' (first | (refine And.intro (fun _ => ?_) (fun _ => ?_) <;> conv => whnf) | (refine And.intro ?_ ?_ <;> conv => whnf))
      all_goals try simp only [decide_eq_true_eq, decide_eq_false_iff_not] at *
      · refine hno ?_
        try simp only [Bool.and_eq_false_iff, decide_eq_false_iff_not, Bool.not_eq_false', Bool.and_eq_true, decide_eq_true_eq]
        omega
      · refine hno ?_
        try simp only [Bool.and_eq_false_iff, decide_eq_false_iff_not, Bool.not_eq_false', Bool.and_eq_true, decide_eq_true_eq]
        omega
      · refine ⟨((v : Nat), 55296, 57343), ⟨AE.refl _, AE.refl _, AE.refl _, trivial⟩, ⟨trivial⟩, ?_⟩
        intro q hq
        replace hq : q = (decide ((55296 : Int) ≤ (v : Nat)) && decide (((v : Nat) : Int) ≤ 57343)) := hq
        conv => whnf
        repeat' (first | (refine And.intro (fun _ => ?_) (fun _ => ?_) <;> conv => whnf) | (refine And.intro ?_ ?_ <;> conv => whnf))
        · rename_i hq2
          replace hq2 : q = true := hq2
          rw [hq2] at hq
          have hq3 := hq.symm
          simp only [Bool.and_eq_true, decide_eq_true_eq] at hq3
          refine hno ?_
          try simp only [Bool.and_eq_false_iff, decide_eq_false_iff_not, Bool.not_eq_false', Bool.and_eq_true, decide_eq_true_eq]
          omega
        · rename_i hq2
          replace hq2 : q = false := hq2
          rw [hq2] at hq
          have hq3 := hq.symm
          simp only [Bool.and_eq_false_iff, decide_eq_false_iff_not] at hq3
          refine ⟨i + (2 + 1), [], ?_⟩
          conv => whnf
          repeat' (refine And.intro ?_ ?_ <;> conv => whnf)
          all_goals try first | exact ⟨rfl⟩ | exact ⟨⟨rfl, rfl⟩⟩ | exact ⟨⟨rfl, rfl, rfl⟩⟩ | exact ⟨fun _ _ => rfl⟩ | exact ⟨fun _ _ => trivial⟩ | exact ⟨fun k _ => isU8_bf _ k⟩ | exact ⟨by omega⟩ | exact ⟨⟨by omega, by omega⟩⟩ | exact ⟨⟨by omega, by omega, by omega⟩⟩ | exact ⟨w3⟩
          · refine ⟨⟨⟨by omega, hgo ?_⟩, by omega⟩⟩
            try simp only [Bool.and_eq_true, Bool.not_eq_true', Bool.and_eq_false_iff, decide_eq_true_eq, decide_eq_false_iff_not]
            omega
  · have hu := hu3 (by omega) (by omega) (by omega)
    refine Ld.of (congrArg V.bool (Eq.symm ?_))
    rw [hu]
    refine Bool.and_eq_false_iff.2 (.inl ?_)
    simp only [okR, Bool.and_eq_false_iff, decide_eq_false_iff_not, List.length_drop]
    omega
  · have hu := hu3 (by omega) (by omega) (by omega)
    have hc0 : (l.getD i 0).toNat % 8 < 32 := by omega
    refine OK_loopC (ι := Nat) (fun k => [(0, byV b l), (3, .int .i64 (i : Nat)), (4, .int .i64 (cAt ((l.getD i 0).toNat % 8) (l.drop i) k : Nat)), (5, .int .i64 3), (6, .int .i64 65536), (7, .int .i64 ((k : Nat) + 1))]) (fun k => []) (fun k => k ≤ 3 ∧ ∀ j, 1 ≤ j → j ≤ k → contB (l.drop i) j = true) (fun k => 3 - k) 0 [] ?_ (fun k hk => vc_ok hΓ mixed 1000 _ [] _ (by kernel_rfl) rfl ?_)
    · conv => whnf
      repeat' (first | (refine And.intro (fun _ => ?_) (fun _ => ?_) <;> conv => whnf) | (refine And.intro ?_ ?_ <;> conv => whnf))
      all_goals try first | exact ⟨rfl⟩ | exact ⟨⟨rfl, rfl⟩⟩ | exact ⟨⟨rfl, rfl, rfl⟩⟩ | exact ⟨fun _ _ => rfl⟩ | exact ⟨fun _ _ => trivial⟩ | exact ⟨fun k _ => isU8_bf _ k⟩ | exact ⟨by omega⟩ | exact ⟨⟨by omega, by omega⟩⟩ | exact ⟨⟨by omega, by omega, by omega⟩⟩ | exact ⟨by rw [byte_wrap]; first | exact and31b _ | exact and15b _ | exact and7b _⟩
      all_goals exact ⟨⟨Nat.zero_le _, fun j hj hj' => by omega⟩⟩
    obtain ⟨hk1, hk2⟩ := hk
    have hcl := cAt_lt (l.drop i) hc0 k (by omega)
    have w2 : IntKind.i64.wrap ((i : Int) + ((k : Nat) + 1)) = ((i + (k + 1) : Nat) : Int) := by rw [wrap_id (by omega) (by omega)]; omega
    conv => whnf
    refine And.intro (fun h7 => ?_) (fun h7 => ?_) <;> conv => whnf
    · have hk7 : k + 1 ≤ 3 := by
        have : ((k : Nat) : Int) + 1 ≤ 3 := by simpa using h7
        omega
      conv => whnf
      repeat' (first | (refine And.intro (fun _ => ?_) (fun _ => ?_) <;> conv => whnf) | (refine And.intro ?_ ?_ <;> conv => whnf))
      all_goals try exact ⟨by rw [w2]; omega⟩
      all_goals try exact ⟨by omega⟩
      · rename_i h8
        rw [w2, Int.toNat_natCast, and192b] at h8
        refine Ld.of (congrArg V.bool (Eq.symm ?_))
        rw [hu]
        refine Bool.and_eq_false_iff.2 (.inl ?_)
        refine okR_no (j := k + 1) (by omega) (by omega) (by omega) ?_
        rw [contB, getD_drop]
        simp only [Bool.not_eq_true', Bool.and_eq_true, decide_eq_true_eq] at h8
        exact h8
      · rename_i h8
        rw [w2, Int.toNat_natCast, and192b] at h8
        have h9 : contB (l.drop i) (k + 1) = true := by
          rw [contB, getD_drop]
          simpa using h8
        refine ⟨k + 1, [], ?_⟩
        conv => whnf
        repeat' (refine And.intro ?_ ?_ <;> conv => whnf)
        all_goals try first | exact ⟨rfl⟩ | exact ⟨⟨rfl, rfl⟩⟩ | exact ⟨⟨rfl, rfl, rfl⟩⟩ | exact ⟨fun _ _ => rfl⟩ | exact ⟨fun _ _ => trivial⟩ | exact ⟨fun k _ => isU8_bf _ k⟩ | exact ⟨by omega⟩ | exact ⟨⟨by omega, by omega⟩⟩ | exact ⟨⟨by omega, by omega, by omega⟩⟩
        · refine ⟨?_⟩
          rw [w2, Int.toNat_natCast, and63b, wrap_id (by omega) (by omega), i64_or6 (by omega) (by omega)]
          simp only [cAt, getD_drop]
        · exact ⟨by rw [wrap_id (by omega) (by omega)]; rfl⟩
        · refine ⟨⟨⟨hk7, fun j hj hj' => ?_⟩, by omega⟩⟩
          rcases Nat.lt_or_ge j (k + 1) with h10 | h10
          · exact hk2 j hj (by omega)
          · obtain rfl : j = k + 1 := by omega
            exact h9
    · have hk7 : k = 3 := by
        have : ¬ ((k : Nat) : Int) + 1 ≤ 3 := by simpa using h7
        omega
      subst hk7
      have hlen : (l.drop i).length = l.length - i := by simp
      have hv : cAt ((l.getD i 0).toNat % 8) (l.drop i) 3 < 2 ^ (6 * 3 + 5) := by simp only [cAt]; omega
      have hgo : okR (l.drop i) 3 = true → utf8 (l.drop (i + (3 + 1))) = utf8 l := fun h => by rw [hu, h, Bool.true_and]
      have hno : okR (l.drop i) 3 = false → Ld (V.bool false) (V.bool (utf8 l)) := fun h => Ld.of (congrArg V.bool (by rw [hu, h, Bool.false_and]))
      have he1 : (decide (3 + 1 ≤ (l.drop i).length)) = true := decide_eq_true (by rw [hlen]; omega)
      simp only [okR, getD_drop, Nat.add_zero, he1, hk2 1 (by decide) (by decide), hk2 2 (by decide) (by decide), hk2 3 (by decide) (by decide), Bool.and_true, Bool.true_and, Nat.reduceAdd] at hgo hno he1
      generalize cAt ((l.getD i 0).toNat % 8) (l.drop i) 3 = v at hv hgo hno ⊢
      have w3 : IntKind.i64.wrap (IntKind.i64.wrap ((i : Int) + 1) + 3) = ((i + (3 + 1) : Nat) : Int) := by rw [wrap_id (x := (i : Int) + 1) (by omega) (by omega), wrap_id (by omega) (by omega)]; omega
      refine vc_ok hΓ mixed 1000 _ [] _ (by kernel_rfl) rfl ?_
      conv => whnf
      conv => whnf
      repeat' (first | (refine And.intro (fun _ => ?_) (fun _ => ?_) <;> conv => whnf) | (refine And.intro ?_ ?_ <;> conv => whnf))
      all_goals try simp only [decide_eq_true_eq, decide_eq_false_iff_not] at *
      · refine hno ?_
        try simp only [Bool.and_eq_false_iff, decide_eq_false_iff_not, Bool.not_eq_false', Bool.and_eq_true, decide_eq_true_eq]
        omega
      · refine hno ?_
        try simp only [Bool.and_eq_false_iff, decide_eq_false_iff_not, Bool.not_eq_false', Bool.and_eq_true, decide_eq_true_eq]
        omega
      · refine ⟨((v : Nat), 55296, 57343), ⟨AE.refl _, AE.refl _, AE.refl _, trivial⟩, ⟨trivial⟩, ?_⟩
        intro q hq
        replace hq : q = (decide ((55296 : Int) ≤ (v : Nat)) && decide (((v : Nat) : Int) ≤ 57343)) := hq
        conv => whnf
        repeat' (first | (refine And.intro (fun _ => ?_) (fun _ => ?_) <;> conv => whnf) | (refine And.intro ?_ ?_ <;> conv => whnf))
        · rename_i hq2
          replace hq2 : q = true := hq2
          rw [hq2] at hq
          have hq3 := hq.symm
          simp only [Bool.and_eq_true, decide_eq_true_eq] at hq3
          refine hno ?_
          try simp only [Bool.and_eq_false_iff, decide_eq_false_iff_not, Bool.not_eq_false', Bool.and_eq_true, decide_eq_true_eq]
          omega
        · rename_i hq2
          replace hq2 : q = false := hq2
          rw [hq2] at hq
          have hq3 := hq.symm
          simp only [Bool.and_eq_false_iff, decide_eq_false_iff_not] at hq3
          refine ⟨i + (3 + 1), [], ?_⟩
          conv => whnf
          repeat' (refine And.intro ?_ ?_ <;> conv => whnf)
          all_goals try first | exact ⟨rfl⟩ | exact ⟨⟨rfl, rfl⟩⟩ | exact ⟨⟨rfl, rfl, rfl⟩⟩ | exact ⟨fun _ _ => rfl⟩ | exact ⟨fun _ _ => trivial⟩ | exact ⟨fun k _ => isU8_bf _ k⟩ | exact ⟨by omega⟩ | exact ⟨⟨by omega, by omega⟩⟩ | exact ⟨⟨by omega, by omega, by omega⟩⟩ | exact ⟨w3⟩
          · refine ⟨⟨⟨by omega, hgo ?_⟩, by omega⟩⟩
            try simp only [Bool.and_eq_true, Bool.not_eq_true', Bool.and_eq_false_iff, decide_eq_true_eq, decide_eq_false_iff_not]
            omega
  · refine Ld.of (congrArg V.bool ?_)
    rw [hu0 (by omega) (by omega)]
  · refine Ld.of (congrArg V.bool ?_)
    rw [hu0 (by omega) (by omega)]
  · refine vc_ok hΓ mixed 1000 _ [] _ (by kernel_rfl) rfl ?_
    conv => whnf
    have hl : i = l.length := by omega
    rw [hl, List.drop_length] at i2
    rw [← i2]
    exact Ld.refl _
end Go.Proofs.YtaihjcpfjgpmoaaGreatDoor

/- The keeper: whether plain data are alike. -/
namespace Go.Proofs.YtaihjcpfjgpmoaaGreatDoor
set_option linter.unusedVariables false
set_option linter.unusedSimpArgs false
set_option maxRecDepth 100000
open Go Go.DD
theorem f18_ok : FOk Tryz.prog [] 17 F71 := mkG_ok fun a ⟨⟨ha, hn⟩, hb⟩ => by
  refine CP.by1 ha (CP.by2 hb ?_)
  generalize a.1.l = l at hn
  generalize a.2.l = m
  generalize a.1.b = b1
  generalize a.2.b = b2
  have hΓ := ctxOk Tryz.f17.ntmps [] [] (FL.all .nil) (HL.all .nil)
  refine CP_of_OK hΓ Tryz.func17 (c := bodyOf Tryz.f17) rfl (by decide) rfl rfl (by simp) (vc_ok hΓ mixed 1000 _ [] _ (by kernel_rfl) rfl ?_)
  conv => whnf
  refine And.intro (fun h1 => ?_) (fun h1 => ?_) <;> conv => whnf
  · have h2 : l.length ≠ m.length := by
      simp only [bne_iff_ne, ne_eq] at h1
      omega
    refine Ld.of (congrArg V.bool ?_)
    exact (decide_eq_false fun e => h2 (by rw [e])).symm
  · have h2 : l.length = m.length := by
      simp only [bne_eq_false_iff_eq] at h1
      omega
    refine OK_loopC (ι := Nat) (fun i => [(0, byV b1 l), (1, byV b2 m), (5, .int .i64 (i : Nat))]) (fun i => []) (fun i => i ≤ l.length ∧ ∀ j, j < i → l.getD j 0 = m.getD j 0) (fun i => l.length - i) 0 [] ?_ (fun i hi => vc_ok hΓ mixed 1000 _ [] _ (by kernel_rfl) rfl ?_)
    · conv => whnf
      repeat' (first | (refine And.intro (fun _ => ?_) (fun _ => ?_) <;> conv => whnf) | (refine And.intro ?_ ?_ <;> conv => whnf))
      all_goals try first | exact ⟨rfl⟩ | exact ⟨⟨rfl, rfl⟩⟩ | exact ⟨⟨rfl, rfl, rfl⟩⟩ | exact ⟨fun _ _ => rfl⟩ | exact ⟨fun _ _ => trivial⟩ | exact ⟨fun k _ => isU8_bf _ k⟩ | exact ⟨by omega⟩ | exact ⟨⟨by omega, by omega⟩⟩ | exact ⟨⟨by omega, by omega, by omega⟩⟩
      all_goals exact ⟨⟨Nat.zero_le _, fun j hj => absurd hj (by omega)⟩⟩
    · obtain ⟨hi1, hi2⟩ := hi
      conv => whnf
      repeat' (first | (refine And.intro (fun _ => ?_) (fun _ => ?_) <;> conv => whnf) | (refine And.intro ?_ ?_ <;> conv => whnf))
      all_goals (try simp only [decide_eq_true_eq, decide_eq_false_iff_not, Int.toNat_natCast, Bool.not_eq_true, Bool.not_eq_false] at *)
      all_goals try first | exact ⟨rfl⟩ | exact ⟨⟨rfl, rfl⟩⟩ | exact ⟨⟨rfl, rfl, rfl⟩⟩ | exact ⟨fun _ _ => rfl⟩ | exact ⟨fun _ _ => trivial⟩ | exact ⟨fun k _ => isU8_bf _ k⟩ | exact ⟨by omega⟩ | exact ⟨⟨by omega, by omega⟩⟩ | exact ⟨⟨by omega, by omega, by omega⟩⟩
      · rename_i hne _
        have h3 : l.getD i 0 ≠ m.getD i 0 := fun e => by simp only [bne_iff_ne, ne_eq, e, not_true] at hne
        refine Ld.of (congrArg V.bool ?_)
        exact (decide_eq_false fun e => h3 (by rw [e])).symm
      · rename_i hne _
        have h3 : l.getD i 0 = m.getD i 0 := by
          refine UInt8.toNat_inj.1 ?_
          simp only [bne_eq_false_iff_eq] at hne
          omega
        refine ⟨i + 1, [], ?_⟩
        conv => whnf
        repeat' (refine And.intro ?_ ?_ <;> conv => whnf)
        all_goals try first | exact ⟨rfl⟩ | exact ⟨⟨rfl, rfl⟩⟩ | exact ⟨⟨rfl, rfl, rfl⟩⟩ | exact ⟨fun _ _ => rfl⟩ | exact ⟨fun _ _ => trivial⟩ | exact ⟨fun k _ => isU8_bf _ k⟩ | exact ⟨by omega⟩ | exact ⟨⟨by omega, by omega⟩⟩ | exact ⟨⟨by omega, by omega, by omega⟩⟩
        · exact ⟨by rw [wrap_id (by omega) (by omega)]; rfl⟩
        refine ⟨⟨⟨by omega, fun j hj => ?_⟩, by omega⟩⟩
        rcases Nat.lt_or_ge j i with h4 | h4
        · exact hi2 j h4
        · obtain rfl : j = i := by omega
          exact h3
      · refine vc_ok hΓ mixed 1000 _ [] _ (by kernel_rfl) rfl ?_
        conv => whnf
        refine Ld.of (congrArg V.bool ?_)
        refine (decide_eq_true (List.ext_getElem h2 fun j k1 k2 => ?_)).symm
        have := hi2 j (by omega)
        simpa [List.getD_eq_getElem?_getD, k1, k2] using this
def eqO (a b : Ent) : Bool := decide (a.kind = b.kind) && decide (a.key = b.key) && decide (a.val = b.val)
def eqE (a b : Ent) : Bool := decide (a.author = b.author) && decide (a.seq = b.seq) && decide (a.prev = b.prev) && decide (a.stamp = b.stamp) && eqO a b && decide (a.sig = b.sig)
def eqP (p q : Pf) : Bool := eqE p.a q.a && eqE p.b q.b
def eqEs (n : Nat) (es : Nat → Ent) (m : Nat) (fs : Nat → Ent) : Bool := decide (n = m) && allB (fun k => eqE (es k) (fs k)) n
def eqF (f g : Fd) : Bool := decide (f.author = g.author) && eqEs f.n f.es g.n g.es && decide (f.shut = g.shut) && eqP f.pf g.pf
def eqFs (n : Nat) (l : Nat → Fd) (m : Nat) (k : Nat → Fd) : Bool := decide (n = m) && allB (fun j => eqF (l j) (k j)) n
theorem eqE_iff {a b : Ent} : eqE a b = true ↔ a = b := by
  cases a; cases b
  simp only [eqE, eqO, Bool.and_eq_true, decide_eq_true_eq, Ent.mk.injEq]
  constructor
  · rintro ⟨⟨⟨⟨⟨h1, h2⟩, h3⟩, h4⟩, ⟨h5, h6⟩, h7⟩, h8⟩
    exact ⟨h1, h2, h3, h4, h5, h6, h7, h8⟩
  · rintro ⟨h1, h2, h3, h4, h5, h6, h7, h8⟩
    exact ⟨⟨⟨⟨⟨h1, h2⟩, h3⟩, h4⟩, ⟨h5, h6⟩, h7⟩, h8⟩
def okV (e : Ent) : Prop := wfE e ∧ e.val.length ≤ 9223372036854775807
def F104 : FSpec := mkG (fun (a : Ent × Ent) => [opV a.1, opV a.2]) (fun a => a.1.val.length ≤ 9223372036854775807) (fun a => eqO a.1 a.2) .bool
theorem f104_ok : FOk Tryz.prog [] 110 F104 := mkG_ok fun a hv => by
  have hΓ := ctxOk Tryz.f110.ntmps [(17, F71)] [] (FL.all (.cons f18_ok .nil)) (HL.all .nil)
  refine CP_of_OK hΓ Tryz.func110 (c := bodyOf Tryz.f110) rfl (by decide) rfl rfl (by simp) (vc_ok hΓ mixed 1000 _ [] _ (by kernel_rfl) rfl ?_)
  conv => whnf
  repeat' (first | (refine And.intro (fun _ => ?_) (fun _ => ?_) <;> conv => whnf) | (refine And.intro ?_ ?_ <;> conv => whnf))
  all_goals (try simp only [beq_iff_eq, beq_eq_false_iff_ne, ne_eq] at *)
  · refine ⟨(.of _ _, .of _ _), ⟨AE.refl _, AE.refl _, trivial⟩, ⟨⟨trivial, hv⟩, trivial⟩, ?_⟩
    intro r hr
    conv => whnf
    repeat' (first | (refine And.intro (fun _ => ?_) (fun _ => ?_) <;> conv => whnf) | (refine And.intro ?_ ?_ <;> conv => whnf))
    rename_i g1 g2
    refine Ld.of (congrArg V.bool ?_)
    replace hr : r = decide (a.1.val = a.2.val) := hr
    refine boolEq ?_
    simp [hr, eqO, g1, g2]
  · rename_i g1 g2
    refine Ld.of (congrArg V.bool ?_)
    simp_all [eqO]
  · rename_i g1
    refine Ld.of (congrArg V.bool ?_)
    simp_all [eqO]
def F72 : FSpec := mkG (fun (a : Ent × Ent) => [entV a.1, entV a.2]) (fun a => okV a.1 ∧ wfE a.2) (fun a => eqE a.1 a.2) .bool
theorem f72_ok : FOk Tryz.prog [] 70 F72 := mkG_ok fun a ⟨⟨⟨a1, a2, a3⟩, av⟩, ⟨b1, b2, b3⟩⟩ => by
  have e1 := rowEq_bf a1 b1
  have e2 := rowEq_bf a2 b2
  have e3 := rowEq_bf a3 b3
  have hΓ := ctxOk Tryz.f70.ntmps [(110, F104)] [] (FL.all (.cons f104_ok .nil)) (HL.all .nil)
  refine CP_of_OK hΓ Tryz.func70 (c := bodyOf Tryz.f70) rfl (by decide) rfl rfl (by simp) (vc_ok hΓ mixed 1000 _ [] _ (by kernel_rfl) rfl ?_)
  conv => whnf
  repeat' (first | (refine And.intro (fun _ => ?_) (fun _ => ?_) <;> conv => whnf) | (refine And.intro ?_ ?_ <;> conv => whnf))
  all_goals try first | exact ⟨rfl⟩ | exact ⟨⟨rfl, rfl⟩⟩ | exact ⟨⟨rfl, rfl, rfl⟩⟩ | exact ⟨fun _ _ => rfl⟩ | exact ⟨fun _ _ => trivial⟩ | exact ⟨fun k _ => isU8_bf _ k⟩ | exact ⟨by omega⟩ | exact ⟨⟨by omega, by omega⟩⟩ | exact ⟨⟨by omega, by omega, by omega⟩⟩ | exact ⟨fun _ _ => rfl⟩
  all_goals (try simp only [e1, e2, e3, beq_iff_eq, beq_eq_false_iff_ne, ne_eq, decide_eq_true_eq, decide_eq_false_iff_not] at *)
  · rename_i g1 g2 g3 g4
    refine ⟨(a.1, a.2), ⟨AE.refl _, AE.refl _, trivial⟩, ⟨av⟩, ?_⟩
    intro r hr
    conv => whnf
    repeat' (first | (refine And.intro (fun _ => ?_) (fun _ => ?_) <;> conv => whnf) | (refine And.intro ?_ ?_ <;> conv => whnf))
    · exact ⟨fun _ _ => rfl⟩
    · exact ⟨fun _ _ => rfl⟩
    · rename_i g5
      replace g5 : r = true := g5
      refine Ld.of (congrArg V.bool (boolEq ?_))
      have e3 := rowEq_bf a3 b3
      rw [show rowEq 64 (bf a.1.sig) (bf a.2.sig) = _ from e3]
      simp [eqE, g1, g2, g3, g4, show eqO a.1 a.2 = true from hr.symm.trans g5]
    · rename_i g5
      replace g5 : r = false := g5
      refine Ld.of (congrArg V.bool (boolEq ?_))
      simp [eqE, show eqO a.1 a.2 = false from hr.symm.trans g5]
  all_goals
    refine Ld.of (congrArg V.bool (boolEq ?_))
    simp_all [eqE]
def F73 : FSpec := mkG (fun (a : Pf × Pf) => [pfV a.1, pfV a.2]) (fun a => okV a.1.a ∧ okV a.1.b ∧ wfE a.2.a ∧ wfE a.2.b) (fun a => eqP a.1 a.2) .bool
theorem f73_ok : FOk Tryz.prog [] 32 F73 := mkG_ok fun a ⟨h1, h2, h3, h4⟩ => by
  have hΓ := ctxOk Tryz.f32.ntmps [(70, F72)] [] (FL.all (.cons f72_ok .nil)) (HL.all .nil)
  refine CP_of_OK hΓ Tryz.func32 (c := bodyOf Tryz.f32) rfl (by decide) rfl rfl (by simp) (vc_ok hΓ mixed 1000 _ [] _ (by kernel_rfl) rfl ?_)
  conv => whnf
  repeat' (first | (refine And.intro (fun _ => ?_) (fun _ => ?_) <;> conv => whnf) | (refine And.intro ?_ ?_ <;> conv => whnf))
  all_goals try first | exact ⟨rfl⟩ | exact ⟨⟨rfl, rfl⟩⟩ | exact ⟨⟨rfl, rfl, rfl⟩⟩ | exact ⟨fun _ _ => rfl⟩ | exact ⟨fun _ _ => trivial⟩ | exact ⟨fun k _ => isU8_bf _ k⟩ | exact ⟨by omega⟩ | exact ⟨⟨by omega, by omega⟩⟩ | exact ⟨⟨by omega, by omega, by omega⟩⟩
  refine ⟨(a.1.a, a.2.a), ⟨AE.refl _, AE.refl _, trivial⟩, ⟨h1, h3⟩, ?_⟩
  intro r hr
  conv => whnf
  repeat' (first | (refine And.intro (fun _ => ?_) (fun _ => ?_) <;> conv => whnf) | (refine And.intro ?_ ?_ <;> conv => whnf))
  all_goals try first | exact ⟨rfl⟩ | exact ⟨⟨rfl, rfl⟩⟩ | exact ⟨⟨rfl, rfl, rfl⟩⟩ | exact ⟨fun _ _ => rfl⟩ | exact ⟨fun _ _ => trivial⟩ | exact ⟨fun k _ => isU8_bf _ k⟩ | exact ⟨by omega⟩ | exact ⟨⟨by omega, by omega⟩⟩ | exact ⟨⟨by omega, by omega, by omega⟩⟩
  · rename_i g1
    replace g1 : r = true := g1
    refine ⟨(a.1.b, a.2.b), ⟨AE.refl _, AE.refl _, trivial⟩, ⟨h2, h4⟩, ?_⟩
    intro q hq
    conv => whnf
    repeat' (first | (refine And.intro (fun _ => ?_) (fun _ => ?_) <;> conv => whnf) | (refine And.intro ?_ ?_ <;> conv => whnf))
    refine Ld.of (congrArg V.bool (boolEq ?_))
    rw [eqP, show eqE a.1.a a.2.a = true from hr.symm.trans g1, hq, Bool.true_and]
  · rename_i g1
    replace g1 : r = false := g1
    refine Ld.of (congrArg V.bool (boolEq ?_))
    rw [eqP, show eqE a.1.a a.2.a = false from hr.symm.trans g1, Bool.false_and]
structure ElA where
  b : Bool
  n : Nat
  es : Nat → Ent
  b' : Bool
  m : Nat
  fs : Nat → Ent
def F40 : FSpec := mkG (fun (a : ElA) => [entsV a.b a.n a.es, entsV a.b' a.m a.fs]) (fun a => a.n ≤ 1000000 ∧ (∀ k, k < a.n → okV (a.es k)) ∧ ∀ k, k < a.m → wfE (a.fs k)) (fun a => eqEs a.n a.es a.m a.fs) .bool
theorem f40_ok : FOk Tryz.prog [] 31 F40 := mkG_ok fun a ⟨hn, he, hf⟩ => by
  have hΓ := ctxOk Tryz.f31.ntmps [(70, F72)] [] (FL.all (.cons f72_ok .nil)) (HL.all .nil)
  refine CP_of_OK hΓ Tryz.func31 (c := bodyOf Tryz.f31) rfl (by decide) rfl rfl (by simp) (vc_ok hΓ mixed 1000 _ [] _ (by kernel_rfl) rfl ?_)
  conv => whnf
  refine And.intro (fun h1 => ?_) (fun h1 => ?_) <;> conv => whnf
  · have h2 : a.n ≠ a.m := by
      simp only [bne_iff_ne, ne_eq] at h1
      omega
    refine Ld.of (congrArg V.bool (boolEq ?_))
    simp [eqEs, h2]
  · have h2 : a.n = a.m := by
      simp only [bne_eq_false_iff_eq] at h1
      omega
    refine OK_loopC (ι := Nat) (fun i => [(0, entsV a.b a.n a.es), (1, entsV a.b' a.m a.fs), (5, .int .i64 (i : Nat))]) (fun i => []) (fun i => i ≤ a.n ∧ allB (fun k => eqE (a.es k) (a.fs k)) i = true) (fun i => a.n - i) 0 [] ?_ (fun i hi => vc_ok hΓ mixed 1000 _ [] _ (by kernel_rfl) rfl ?_)
    · conv => whnf
      repeat' (first | (refine And.intro (fun _ => ?_) (fun _ => ?_) <;> conv => whnf) | (refine And.intro ?_ ?_ <;> conv => whnf))
      all_goals try first | exact ⟨rfl⟩ | exact ⟨⟨rfl, rfl⟩⟩ | exact ⟨⟨rfl, rfl, rfl⟩⟩ | exact ⟨fun _ _ => rfl⟩ | exact ⟨fun _ _ => trivial⟩ | exact ⟨fun k _ => isU8_bf _ k⟩ | exact ⟨by omega⟩ | exact ⟨⟨by omega, by omega⟩⟩ | exact ⟨⟨by omega, by omega, by omega⟩⟩ | exact ⟨⟨Nat.zero_le _, rfl⟩⟩
    · obtain ⟨hi1, hi2⟩ := hi
      conv => whnf
      refine And.intro (fun h3 => ?_) (fun h3 => ?_) <;> conv => whnf
      · have hin : i < a.n := by simpa using h3
        conv => whnf
        repeat' (first | (refine And.intro (fun _ => ?_) (fun _ => ?_) <;> conv => whnf) | (refine And.intro ?_ ?_ <;> conv => whnf))
        all_goals try first | exact ⟨rfl⟩ | exact ⟨⟨rfl, rfl⟩⟩ | exact ⟨⟨rfl, rfl, rfl⟩⟩ | exact ⟨fun _ _ => rfl⟩ | exact ⟨fun _ _ => trivial⟩ | exact ⟨fun k _ => isU8_bf _ k⟩ | exact ⟨by omega⟩ | exact ⟨⟨by omega, by omega⟩⟩ | exact ⟨⟨by omega, by omega, by omega⟩⟩
        refine ⟨((a.es i, a.fs i)), ⟨AE.refl _, AE.refl _, trivial⟩, ⟨he i hin, hf i (by omega)⟩, ?_⟩
        intro r hr
        conv => whnf
        repeat' (first | (refine And.intro (fun _ => ?_) (fun _ => ?_) <;> conv => whnf) | (refine And.intro ?_ ?_ <;> conv => whnf))
        · rename_i hr2
          have hr3 : r = false := by simpa using hr2
          refine Ld.of (congrArg V.bool (boolEq ?_))
          rw [eqEs, allB_no hin (by rw [← hr3, hr]), Bool.and_false]
        · rename_i hr2
          have hr3 : r = true := by simpa using hr2
          refine ⟨i + 1, [], ?_⟩
          conv => whnf
          repeat' (refine And.intro ?_ ?_ <;> conv => whnf)
          all_goals try first | exact ⟨rfl⟩ | exact ⟨⟨rfl, rfl⟩⟩ | exact ⟨⟨rfl, rfl, rfl⟩⟩ | exact ⟨fun _ _ => rfl⟩ | exact ⟨fun _ _ => trivial⟩ | exact ⟨fun k _ => isU8_bf _ k⟩ | exact ⟨by omega⟩ | exact ⟨⟨by omega, by omega⟩⟩ | exact ⟨⟨by omega, by omega, by omega⟩⟩
          · exact ⟨by rw [wrap_id (by omega) (by omega)]; rfl⟩
          exact ⟨⟨⟨by omega, allB_succ hi2 (by rw [← hr3, hr])⟩, by omega⟩⟩
      · have hin : i = a.n := by
          have : ¬ ((i : Nat) : Int) < (a.n : Nat) := by simpa using h3
          omega
        refine vc_ok hΓ mixed 1000 _ [] _ (by kernel_rfl) rfl ?_
        conv => whnf
        refine Ld.of (congrArg V.bool (boolEq ?_))
        rw [eqEs, ← hin, hi2, hin]
        simp [h2]
def okVF (f : Fd) : Prop := f.author.length = 32 ∧ f.n ≤ 1000000 ∧ (∀ k, k < f.n → okV (f.es k)) ∧ okV f.pf.a ∧ okV f.pf.b
def F41 : FSpec := mkG (fun (a : Fd × Fd) => [fdV a.1, fdV a.2]) (fun a => okVF a.1 ∧ okVF a.2) (fun a => eqF a.1 a.2) .bool
theorem f41_ok : FOk Tryz.prog [] 10 F41 := mkG_ok fun a ⟨⟨a1, a2, a3, a4, a5⟩, ⟨b1, b2, b3, b4, b5⟩⟩ => by
  have e1 := rowEq_bf a1 b1
  have hΓ := ctxOk Tryz.f10.ntmps [(31, F40), (32, F73)] [] (FL.all (.cons f40_ok (.cons f73_ok .nil))) (HL.all .nil)
  refine CP_of_OK hΓ Tryz.func10 (c := bodyOf Tryz.f10) rfl (by decide) rfl rfl (by simp) (vc_ok hΓ mixed 1000 _ [] _ (by kernel_rfl) rfl ?_)
  conv => whnf
  repeat' (first | (refine And.intro (fun _ => ?_) (fun _ => ?_) <;> conv => whnf) | (refine And.intro ?_ ?_ <;> conv => whnf))
  all_goals try first | exact ⟨rfl⟩ | exact ⟨⟨rfl, rfl⟩⟩ | exact ⟨⟨rfl, rfl, rfl⟩⟩ | exact ⟨fun _ _ => rfl⟩ | exact ⟨fun _ _ => trivial⟩ | exact ⟨fun k _ => isU8_bf _ k⟩ | exact ⟨by omega⟩ | exact ⟨⟨by omega, by omega⟩⟩ | exact ⟨⟨by omega, by omega, by omega⟩⟩ | exact ⟨fun _ _ => rfl⟩
  all_goals (try simp only [e1, beq_iff_eq, beq_eq_false_iff_ne, ne_eq, decide_eq_true_eq, decide_eq_false_iff_not] at *)
  · rename_i g1
    refine ⟨⟨false, a.1.n, a.1.es, false, a.2.n, a.2.es⟩, ⟨AE.refl _, AE.refl _, trivial⟩, ⟨a2, a3, fun k hk => (b3 k hk).1⟩, ?_⟩
    intro r hr
    replace hr : r = eqEs a.1.n a.1.es a.2.n a.2.es := hr
    conv => whnf
    repeat' (first | (refine And.intro (fun _ => ?_) (fun _ => ?_) <;> conv => whnf) | (refine And.intro ?_ ?_ <;> conv => whnf))
    all_goals try first | exact ⟨rfl⟩ | exact ⟨⟨rfl, rfl⟩⟩ | exact ⟨⟨rfl, rfl, rfl⟩⟩ | exact ⟨fun _ _ => rfl⟩ | exact ⟨fun _ _ => trivial⟩ | exact ⟨fun k _ => isU8_bf _ k⟩ | exact ⟨by omega⟩ | exact ⟨⟨by omega, by omega⟩⟩ | exact ⟨⟨by omega, by omega, by omega⟩⟩
    · rename_i g2 g3
      replace g2 : r = true := g2
      replace g3 : a.1.shut = a.2.shut := by simpa using g3
      refine ⟨(a.1.pf, a.2.pf), ⟨AE.refl _, AE.refl _, trivial⟩, ⟨a4, a5, b4.1, b5.1⟩, ?_⟩
      intro q hq
      replace hq : q = eqP a.1.pf a.2.pf := hq
      conv => whnf
      repeat' (first | (refine And.intro (fun _ => ?_) (fun _ => ?_) <;> conv => whnf) | (refine And.intro ?_ ?_ <;> conv => whnf))
      refine Ld.of (congrArg V.bool (boolEq ?_))
      rw [hq, eqF, ← hr, g2]
      simp [g1, g3]
    · rename_i g2 g3
      replace g3 : ¬ a.1.shut = a.2.shut := by simpa using g3
      refine Ld.of (congrArg V.bool (boolEq ?_))
      simp [eqF, g3]
    · rename_i g2
      replace g2 : r = false := g2
      refine Ld.of (congrArg V.bool (boolEq ?_))
      simp [eqF, ← hr, g2]
  · rename_i g1
    refine Ld.of (congrArg V.bool (boolEq ?_))
    simp [eqF, g1]
end Go.Proofs.YtaihjcpfjgpmoaaGreatDoor
