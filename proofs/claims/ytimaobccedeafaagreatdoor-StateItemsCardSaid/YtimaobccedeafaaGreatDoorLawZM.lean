/- A state is rows, one behind the other. -/
import Derived.Test.YtimaobccedeafaaGreatDoorLawZL
namespace Go.Proofs.YtimaobccedeafaaGreatDoor
set_option linter.unusedVariables false
set_option linter.unusedSimpArgs false
set_option maxRecDepth 100000
open Go Go.DD
def rowsOf (a : Fds) : List (List Tk) := (fdL a.n a.l).map feedT ++ (viewL a.n a.l).map cellT
def posR (rows : List (List Tk)) (i : Nat) : Nat := ((rows.take i).flatMap rowB).length
theorem feedT_rw {f : Fd} (h : OkF f) : Rw10 (feedT f) ∧ feedB f = rowB (feedT f) := by
  refine ⟨⟨fun t ht => ⟨feedT_flat h.pre.1 h.look t ht, ?_⟩, by unfold feedT; split <;> simp⟩, feedB_eq h.pre.1 h.look⟩
  have hn := h.n
  have hl := h.lastN
  unfold feedT at ht
  split at ht
  · simp only [List.mem_cons, List.mem_nil_iff, or_false] at ht
    rcases ht with rfl | rfl <;> (simp [numT, bytT])
  · simp only [List.mem_cons, List.mem_nil_iff, or_false] at ht
    rcases ht with rfl | rfl | rfl | rfl
    · simp [numT]
    · simp [bytT]
    · show (lastF f).1 ≤ _
      rw [hl.1]; show (lastR f).1 ≤ _; omega
    · simp [bytT]
theorem cellT_rw {c : Ce} (h : OkCe c) : Rw10 (cellT c) ∧ cellB c = rowB (cellT c) := by
  refine ⟨⟨fun t ht => ⟨cellT_flat h t ht, ?_⟩, by simp [cellT]⟩, cellB_eq h⟩
  simp only [cellT, List.mem_cons, List.mem_nil_iff, or_false] at ht
  rcases ht with rfl | rfl | rfl | rfl | rfl | rfl | rfl
  · simp [numT]
  · simp
  · simp [bytT]
  · exact h.st1
  · simp [bytT]
  · simp [bytT]
  · simp only [numT]; split <;> omega
theorem fB_rows : ∀ {l : List Fd}, (∀ f, f ∈ l → OkF f) → fB l = (l.map feedT).flatMap rowB
  | [], _ => rfl
  | f :: l, h => by
    simp only [fB, List.map_cons, List.flatMap_cons]
    rw [(feedT_rw (h f (by simp))).2, fB_rows fun g hg => h g (by simp [hg])]
theorem cB_rows : ∀ {l : List Ce}, (∀ c, c ∈ l → OkCe c) → cB l = (l.map cellT).flatMap rowB
  | [], _ => rfl
  | f :: l, h => by
    simp only [cB, List.map_cons, List.flatMap_cons]
    rw [(cellT_rw (h f (by simp))).2, cB_rows fun g hg => h g (by simp [hg])]
theorem state_rows {a : Fds} (ha : tyL a) (h : feedsOk a.n a.l = true) : (stateR a).1 = (rowsOf a).flatMap rowB := by
  rw [state_fB h, fB_rows (okF_of ha h), cB_rows fun c hc => viewL_mem ha hc, rowsOf, List.flatMap_append]
theorem rows_ok {a : Fds} (ha : tyL a) (h : feedsOk a.n a.l = true) : ∀ r, r ∈ rowsOf a → Rw10 r := fun r hr => by
  rcases List.mem_append.1 hr with hr | hr
  · obtain ⟨f, hf, rfl⟩ := List.mem_map.1 hr
    exact (feedT_rw (okF_of ha h f hf)).1
  · obtain ⟨c, hc, rfl⟩ := List.mem_map.1 hr
    exact (cellT_rw (viewL_mem ha hc)).1
theorem rows_len (a : Fds) : (rowsOf a).length = a.n + (viewL a.n a.l).length := by simp [rowsOf, fdL]
theorem rows_feed {a : Fds} {i : Nat} (hi : i < a.n) : (rowsOf a).getD i [] = feedT (a.l i) := by
  rw [rowsOf, List.getD_eq_getElem?_getD, List.getElem?_append_left (by simp [fdL]; exact hi)]
  simp [fdL, List.getElem?_range hi]
theorem rows_cell {a : Fds} {i : Nat} (h1 : a.n ≤ i) (h2 : i < a.n + (viewL a.n a.l).length) : (rowsOf a).getD i [] = cellT (gce (viewL a.n a.l) (i - a.n)) := by
  have h3 : i - a.n < (viewL a.n a.l).length := by omega
  have e : ((fdL a.n a.l).map feedT).length = a.n := by simp [fdL]
  rw [rowsOf, List.getD_eq_getElem?_getD, List.getElem?_append_right (by rw [e]; exact h1), e, List.getElem?_map, List.getElem?_eq_getElem h3, gce, List.getD_eq_getElem?_getD, List.getElem?_eq_getElem h3]
  rfl
section
variable {rows : List (List Tk)} {i : Nat}
theorem pos_zero : posR rows 0 = 0 := by simp [posR]
theorem pos_succ (h : i < rows.length) : posR rows (i + 1) = posR rows i + (rowB (rows.getD i [])).length := by
  rw [posR, posR, List.take_add_one, List.flatMap_append, List.length_append, List.getD_eq_getElem?_getD, List.getElem?_eq_getElem h]
  simp only [Option.toList_some, List.flatMap_cons, List.flatMap_nil, List.append_nil, Option.getD_some]
theorem pos_all : posR rows rows.length = (rows.flatMap rowB).length := by rw [posR, List.take_length]
theorem pos_le (h : i ≤ rows.length) : posR rows i ≤ (rows.flatMap rowB).length := by
  conv => rhs; rw [← List.take_append_drop i rows]
  rw [List.flatMap_append, List.length_append, posR]
  omega
theorem drop_pos (h : i < rows.length) : (rows.flatMap rowB).drop (posR rows i) = rowB (rows.getD i []) ++ (rows.drop (i + 1)).flatMap rowB := by
  conv => lhs; arg 2; rw [← List.take_append_drop i rows]
  rw [List.flatMap_append, posR, List.drop_left, List.drop_eq_getElem_cons h, List.flatMap_cons]
  rw [List.getD_eq_getElem?_getD, List.getElem?_eq_getElem h]
  rfl
end
/- StateItems. -/
set_option maxRecDepth 100000
open Go Go.DD
def F8 : FSpec := mkG (fun (a : Fds) => [fdsV a.b a.n a.l]) tyL (fun _ => true) .bool
set_option maxHeartbeats 8000000 in
theorem f8_ok : FOk Tryz.prog G 8 F8 := mkG_ok fun a ta => by
  have hΓ := ctxG_ok Tryz.f8.ntmps [(9, F9c), (11, F11), (16, F16), (17, F17), (18, F71), (25, F25c), (26, F26)] [] [] (.cons (f9c_ok.g) (.cons (f11_ok) (.cons (f16_ok) (.cons (f17_ok) (.cons (f18_ok.g) (.cons (f25c_ok) (.cons (f26_ok) .nil))))))) .nil
  refine CP_of_OK hΓ Tryz.func8 (c := bodyOf Tryz.f8) rfl (by decide) rfl rfl (by simp) (vc_ok hΓ mixed 1000 _ [] _ (by kernel_rfl) rfl ?_)
  conv => whnf
  refine ⟨a, ⟨AE.refl _, trivial⟩, ⟨trivial⟩, ?_⟩
  intro r hr
  replace hr : r = heavy18 a.n a.l := hr
  conv => whnf
  repeat' (first | (refine And.intro (fun _ => ?_) (fun _ => ?_) <;> conv => whnf) | (refine And.intro ?_ ?_ <;> conv => whnf))
  · exact Ld.refl _
  rename_i g1
  replace g1 : r = false := g1
  rw [g1] at hr
  obtain ⟨la1, la2⟩ := light hr.symm ta
  refine ⟨a, ⟨AE.refl _, trivial⟩, ⟨fun k hk => (la2 k hk).set⟩, ?_⟩
  intro u hu
  replace hu : u = feedsOk a.n a.l := hu
  conv => whnf
  repeat' (first | (refine And.intro (fun _ => ?_) (fun _ => ?_) <;> conv => whnf) | (refine And.intro ?_ ?_ <;> conv => whnf))
  · exact Ld.refl _
  rename_i g3
  replace g3 : u = true := by simpa using g3
  rw [g3] at hu
  refine ⟨a, ⟨AE.refl _, trivial⟩, ⟨ta⟩, ?_⟩
  intro s hs
  replace hs : s = stateR a := hs
  have s2 : s.2 = 0 := by rw [hs, stateR_err, if_pos hu.symm]
  conv => whnf
  repeat' (first | (refine And.intro (fun _ => ?_) (fun _ => ?_) <;> conv => whnf) | (refine And.intro ?_ ?_ <;> conv => whnf))
  refine ⟨a, ⟨AE.refl _, trivial⟩, ⟨ta⟩, ?_⟩
  intro cs hcs
  replace hcs : cs = viewL a.n a.l := hcs
  conv => whnf
  repeat' (first | (refine And.intro (fun hp => ?_) (fun hp => ?_) <;> first | (exfalso; revert hp; simp [s2]; done) | conv => whnf) | (refine And.intro ?_ ?_ <;> conv => whnf))
  obtain ⟨b, e0⟩ := s
  obtain rfl : e0 = 0 := s2
  have hb : b = (rowsOf a).flatMap rowB := (congrArg Prod.fst hs).trans (state_rows ta hu.symm)
  have hro := rows_ok ta hu.symm
  have hrl := rows_len a
  rw [← hcs] at hrl
  have hbl : b.length ≤ 1000000 := by have := stateR_len ta; rw [← hs] at this; exact this
  have hml : cs.length ≤ 1600 := by rw [hcs]; exact viewL_len _ _
  refine OK_loopC (ι := Nat) (fun i => [(0, fdsV a.b a.n a.l), (3, byV false b), (5, cellsV false cs.length (gce cs)), (6, .int .i64 (posR (rowsOf a) i : Nat)), (7, .int .i64 (i : Nat))]) (fun _ => []) (fun i => i ≤ a.n + cs.length) (fun i => a.n + cs.length - i) 0 [] ?_ (fun i hi => vc_ok hΓ mixed 1000 _ [] _ (by kernel_rfl) rfl ?_)
  · conv => whnf
    repeat' (first | (refine And.intro (fun _ => ?_) (fun _ => ?_) <;> conv => whnf) | (refine And.intro ?_ ?_ <;> conv => whnf))
    all_goals try first | exact ⟨rfl⟩ | exact ⟨⟨rfl, rfl⟩⟩ | exact ⟨⟨rfl, rfl, rfl⟩⟩ | exact ⟨by omega⟩ | exact ⟨⟨by omega, by omega⟩⟩ | exact ⟨⟨by omega, by omega, by omega⟩⟩ | exact ⟨fun _ _ => rfl⟩ | exact ⟨by rw [pos_zero]; rfl⟩
  · conv => whnf
    repeat' (first | (refine And.intro (fun _ => ?_) (fun _ => ?_) <;> conv => whnf) | (refine And.intro ?_ ?_ <;> conv => whnf))
    · revert i
      intro p hi hc
      replace hc : p < a.n + cs.length := by
        have := of_decide_eq_true hc
        rw [wrap_id (by omega) (by omega)] at this
        omega
      have hpr : p < (rowsOf a).length := by omega
      have hd := drop_pos hpr
      have hA := pos_succ hpr
      have hA2 := pos_le (rows := rowsOf a) (i := p + 1) (by omega)
      rw [← hb] at hd hA2
      have hts : Rw10 ((rowsOf a).getD p []) := hro _ (by rw [List.getD_eq_getElem?_getD, List.getElem?_eq_getElem hpr]; exact List.getElem_mem hpr)
      generalize hT : (rowsOf a).getD p [] = ts at hd hA hts
      generalize hAA : posR (rowsOf a) p = A at hd hA
      obtain ⟨hL1, hL2⟩ := rowB_len hts
      refine OK_loopC (ι := Nat) (fun q => [(0, fdsV a.b a.n a.l), (3, byV false b), (5, cellsV false cs.length (gce cs)), (6, .int .i64 (A : Nat)), (7, .int .i64 (p : Nat)), (8, .int .i64 (A + 1 + q : Nat)), (9, .emp)]) (fun _ => []) (fun q => q + 1 ≤ (rowB ts).length) (fun q => (rowB ts).length - q) 0 [] ?_ (fun i hi => vc_ok hΓ mixed 1000 _ [] _ (by kernel_rfl) rfl ?_)
      · conv => whnf
        repeat' (first | (refine And.intro (fun _ => ?_) (fun _ => ?_) <;> conv => whnf) | (refine And.intro ?_ ?_ <;> conv => whnf))
        all_goals try first | exact ⟨rfl⟩ | exact ⟨⟨rfl, rfl⟩⟩ | exact ⟨⟨rfl, rfl, rfl⟩⟩ | exact ⟨by omega⟩ | exact ⟨⟨by omega, by omega⟩⟩ | exact ⟨⟨by omega, by omega, by omega⟩⟩ | exact ⟨fun _ _ => rfl⟩ | exact ⟨by rw [wrap_id (by omega) (by omega)]; omega⟩ | exact ⟨by omega⟩
      · have hle : A + 1 + i ≤ b.length := by omega
        conv => whnf
        repeat' (first | (refine And.intro (fun hp => ?_) (fun hp => ?_) <;> first | (exfalso; revert hp; (intro hp; simp only [decide_eq_false_iff_not] at hp; omega); done) | conv => whnf) | (refine And.intro ?_ ?_ <;> conv => whnf))
        · exact ⟨by omega⟩
        have htk : (b.drop A).take (i + 1) = (rowB ts).take (i + 1) := by rw [hd, List.take_append_of_le_length hi]
        have hcase : (i + 1 < (rowB ts).length ∧ (decR ((rowB ts).take (i + 1))).2 ≠ 0 ∨ i + 1 = (rowB ts).length ∧ decR ((rowB ts).take (i + 1)) = (rowT ts, 0)) ∧ ∀ t, t ∈ (parR ((rowB ts).take (i + 1))).ts → tokOk t := by
          by_cases hlt : i + 1 < (rowB ts).length
          · exact ⟨.inl ⟨hlt, (dec_cut hts hlt).1⟩, (dec_cut hts hlt).2⟩
          · have he : i + 1 = (rowB ts).length := by omega
            rw [List.take_of_length_le (by omega)]
            exact ⟨.inr ⟨he, (dec_whole hts).1⟩, (dec_whole hts).2⟩
        refine ⟨.of false ((b.drop A).take (i + 1)), ⟨AE.imm' ?_ ?_, trivial⟩, ⟨⟨trivial, ?_⟩, ?_⟩, ?_⟩
        · show (((A + 1 + i : Nat) : Int)).toNat - ((A : Nat) : Int).toNat = ((b.drop A).take (i + 1)).length
          rw [Int.toNat_natCast, Int.toNat_natCast, List.length_take, List.length_drop]; omega
        · intro k hk
          replace hk : k < ((b.drop A).take (i + 1)).length := hk
          rw [List.length_take] at hk
          exact (bf_part b (by omega)).symm
        · show ((b.drop A).take (i + 1)).length ≤ 1000000
          rw [List.length_take]; omega
        · show ∀ t, t ∈ (parR ((b.drop A).take (i + 1))).ts → tokOk t
          rw [htk]; exact hcase.2
        intro x hx
        replace hx : x = decR ((b.drop A).take (i + 1)) := hx
        rw [htk] at hx
        conv => whnf
        repeat' (first | (refine And.intro (fun _ => ?_) (fun _ => ?_) <;> conv => whnf) | (refine And.intro ?_ ?_ <;> conv => whnf))
        · rename_i hz
          have hz2 : x.2 = 0 := by simpa using hz
          obtain ⟨hq, hxx⟩ : i + 1 = (rowB ts).length ∧ x = (rowT ts, 0) := by
            rcases hcase.1 with h | h
            · exact absurd (hx ▸ hz2) h.2
            · exact ⟨h.1, hx.trans h.2⟩
          have hend : A + 1 + i = posR (rowsOf a) (p + 1) := by omega
          clear hx hcase hz hz2 hle htk
          rw [hend]
          by_cases hpn : p < a.n
          · have hf := rows_feed hpn
            rw [hT] at hf
            have okf : OkF (a.l p) := ⟨ta p hpn, (feedsOk_look hu.symm).2.2 p hpn⟩
            cases hsh : (a.l p).shut with
            | true =>
              obtain rfl : x = ([⟨5, 2, false, []⟩, ⟨1, 5, false, []⟩, ⟨3, 0, false, (a.l p).author⟩], 0) := by
                rw [hxx, hf, feedT, if_pos hsh]; rfl
              refine vc_ok hΓ mixed 1000 _ [] _ (by kernel_rfl) rfl ?_
              conv => whnf
              conv => whnf
              repeat' (first | (refine And.intro (fun hp => ?_) (fun hp => ?_) <;> first | (exfalso; revert hp; simp [lTk, hsh, hpn]; done) | conv => whnf) | (refine And.intro ?_ ?_ <;> conv => whnf))
              all_goals try first | exact ⟨rfl⟩ | exact ⟨⟨rfl, rfl⟩⟩ | exact ⟨⟨rfl, rfl, rfl⟩⟩ | exact ⟨by omega⟩ | exact ⟨⟨by omega, by omega⟩⟩ | exact ⟨⟨by omega, by omega, by omega⟩⟩ | (refine ⟨?_⟩; simp; done) | exact ⟨fun _ _ => rfl⟩ | exact ⟨by decide⟩ | exact ⟨fun k _ => isU8_bf _ k⟩
              refine ⟨(.of false (a.l p).author, .of a.b (a.l p).author), ⟨AE.of rfl, AE.imm' ?_ ?_, trivial⟩, ⟨⟨trivial, by show (a.l p).author.length ≤ 1000000; have := okf.pre.1; omega⟩, trivial⟩, ?_⟩
              · show (32 : Int).toNat - Int.toNat 0 = (a.l p).author.length
                rw [okf.pre.1]; rfl
              · intro k _
                exact congrArg (bf (a.l p).author) (Nat.zero_add k)
              intro t7 ht7
              replace ht7 : t7 = true := ht7.trans (decide_eq_true rfl)
              conv => whnf
              repeat' (first | (refine And.intro (fun hp => ?_) (fun hp => ?_) <;> first | (exfalso; revert hp; simp [lTk, hsh, hpn, ht7]; done) | conv => whnf) | (refine And.intro ?_ ?_ <;> conv => whnf))
              all_goals try first | exact ⟨rfl⟩ | exact ⟨⟨rfl, rfl⟩⟩ | exact ⟨⟨rfl, rfl, rfl⟩⟩ | exact ⟨by omega⟩ | exact ⟨⟨by omega, by omega⟩⟩ | exact ⟨⟨by omega, by omega, by omega⟩⟩ | (refine ⟨?_⟩; simp; done) | exact ⟨fun _ _ => rfl⟩ | exact ⟨by decide⟩ | exact ⟨fun k _ => isU8_bf _ k⟩
              refine vc_ok hΓ mixed 1000 _ [] _ (by kernel_rfl) rfl ?_
              conv => whnf
              refine ⟨p + 1, [], ?_⟩
              conv => whnf
              repeat' (refine And.intro ?_ ?_ <;> conv => whnf)
              all_goals try first | exact ⟨rfl⟩ | exact ⟨⟨rfl, rfl⟩⟩ | exact ⟨⟨rfl, rfl, rfl⟩⟩ | exact ⟨by omega⟩ | exact ⟨⟨by omega, by omega⟩⟩ | exact ⟨⟨by omega, by omega, by omega⟩⟩ | exact ⟨fun _ _ => rfl⟩ | exact ⟨by rw [wrap_id (by omega) (by omega)]; rfl⟩
            | false =>
              obtain rfl : x = ([⟨5, 4, false, []⟩, ⟨1, 6, false, []⟩, ⟨3, 0, false, (a.l p).author⟩, ⟨1, (lastF (a.l p)).1, false, []⟩, ⟨3, 0, false, (lastF (a.l p)).2.1⟩], 0) := by
                rw [hxx, hf, feedT, if_neg (by simp [hsh])]; rfl
              refine vc_ok hΓ mixed 1000 _ [] _ (by kernel_rfl) rfl ?_
              conv => whnf
              conv => whnf
              repeat' (first | (refine And.intro (fun hp => ?_) (fun hp => ?_) <;> first | (exfalso; revert hp; simp [lTk, hsh, hpn]; done) | conv => whnf) | (refine And.intro ?_ ?_ <;> conv => whnf))
              all_goals try first | exact ⟨rfl⟩ | exact ⟨⟨rfl, rfl⟩⟩ | exact ⟨⟨rfl, rfl, rfl⟩⟩ | exact ⟨by omega⟩ | exact ⟨⟨by omega, by omega⟩⟩ | exact ⟨⟨by omega, by omega, by omega⟩⟩ | (refine ⟨?_⟩; simp; done) | exact ⟨fun _ _ => rfl⟩ | exact ⟨by decide⟩ | exact ⟨fun k _ => isU8_bf _ k⟩
              refine ⟨(.of false (a.l p).author, .of a.b (a.l p).author), ⟨AE.of rfl, AE.imm' ?_ ?_, trivial⟩, ⟨⟨trivial, by show (a.l p).author.length ≤ 1000000; have := okf.pre.1; omega⟩, trivial⟩, ?_⟩
              · show (32 : Int).toNat - Int.toNat 0 = (a.l p).author.length
                rw [okf.pre.1]; rfl
              · intro k _
                exact congrArg (bf (a.l p).author) (Nat.zero_add k)
              intro t7 ht7
              replace ht7 : t7 = true := ht7.trans (decide_eq_true rfl)
              have hln : (lastF (a.l p)).1 = ((a.l p).n : Int) := by rw [okf.lastN.1]; exact okf.lastN.2.1
              conv => whnf
              repeat' (first | (refine And.intro (fun hp => ?_) (fun hp => ?_) <;> first | (exfalso; revert hp; simp [lTk, hsh, hpn, ht7, hln]; done) | conv => whnf) | (refine And.intro ?_ ?_ <;> conv => whnf))
              all_goals try first | exact ⟨rfl⟩ | exact ⟨⟨rfl, rfl⟩⟩ | exact ⟨⟨rfl, rfl, rfl⟩⟩ | exact ⟨by omega⟩ | exact ⟨⟨by omega, by omega⟩⟩ | exact ⟨⟨by omega, by omega, by omega⟩⟩ | (refine ⟨?_⟩; simp; done) | exact ⟨fun _ _ => rfl⟩ | exact ⟨by decide⟩ | exact ⟨fun k _ => isU8_bf _ k⟩
              refine vc_ok hΓ mixed 1000 _ [] _ (by kernel_rfl) rfl ?_
              conv => whnf
              refine ⟨p + 1, [], ?_⟩
              conv => whnf
              repeat' (refine And.intro ?_ ?_ <;> conv => whnf)
              all_goals try first | exact ⟨rfl⟩ | exact ⟨⟨rfl, rfl⟩⟩ | exact ⟨⟨rfl, rfl, rfl⟩⟩ | exact ⟨by omega⟩ | exact ⟨⟨by omega, by omega⟩⟩ | exact ⟨⟨by omega, by omega, by omega⟩⟩ | exact ⟨fun _ _ => rfl⟩ | exact ⟨by rw [wrap_id (by omega) (by omega)]; rfl⟩
          · have hf := rows_cell (a := a) (i := p) (by omega) (by rw [← hcs]; omega)
            rw [hT, ← hcs] at hf
            generalize hce : gce cs (p - a.n) = c at hf
            obtain rfl : x = ([⟨5, 7, false, []⟩, ⟨1, 7, false, []⟩, ⟨4, 0, false, c.key⟩, ⟨3, 0, false, c.val⟩, ⟨1, c.stamp, false, []⟩, ⟨3, 0, false, c.author⟩, ⟨3, 0, false, c.id⟩, ⟨1, if c.gone then 1 else 0, false, []⟩], 0) := by
              rw [hxx, hf]; rfl
            refine vc_ok hΓ mixed 1000 _ [] _ (by kernel_rfl) rfl ?_
            conv => whnf
            have ew : IntKind.i64.wrap ((p : Int) - a.n) = ((p - a.n : Nat) : Int) := by rw [wrap_id (by omega) (by omega)]; omega
            have hg : gce cs (IntKind.i64.wrap ((p : Int) - a.n)).toNat = c := by rw [ew, Int.toNat_natCast, hce]
            have okc : OkCe c := viewL_mem ta (hcs ▸ hce ▸ gce_mem (by omega))
            conv => whnf
            repeat' (first | (refine And.intro (fun hp => ?_) (fun hp => ?_) <;> first | (exfalso; revert hp; simp [lTk, hpn, hg, bytesOf_bf]; done) | conv => whnf) | (refine And.intro ?_ ?_ <;> conv => whnf))
            all_goals try first | exact ⟨rfl⟩ | exact ⟨⟨rfl, rfl⟩⟩ | exact ⟨⟨rfl, rfl, rfl⟩⟩ | exact ⟨by omega⟩ | exact ⟨⟨by omega, by omega⟩⟩ | exact ⟨⟨by omega, by omega, by omega⟩⟩ | (refine ⟨?_⟩; simp; done) | exact ⟨fun _ _ => rfl⟩ | exact ⟨by decide⟩ | exact ⟨fun k _ => isU8_bf _ k⟩ | exact ⟨by rw [ew]; omega⟩
            refine ⟨(.of false c.val, .of false c.val), ⟨AE.of rfl, AE.of (congrArg (fun q : Ce => byV false q.val) hg), trivial⟩, ⟨⟨trivial, by show c.val.length ≤ 1000000; have := okc.val; omega⟩, trivial⟩, ?_⟩
            intro t7 ht7
            replace ht7 : t7 = true := ht7.trans (decide_eq_true rfl)
            conv => whnf
            repeat' (first | (refine And.intro (fun hp => ?_) (fun hp => ?_) <;> first | (exfalso; revert hp; simp [lTk, hpn, hg, ht7]; done) | conv => whnf) | (refine And.intro ?_ ?_ <;> conv => whnf))
            all_goals try first | exact ⟨rfl⟩ | exact ⟨⟨rfl, rfl⟩⟩ | exact ⟨⟨rfl, rfl, rfl⟩⟩ | exact ⟨by omega⟩ | exact ⟨⟨by omega, by omega⟩⟩ | exact ⟨⟨by omega, by omega, by omega⟩⟩ | (refine ⟨?_⟩; simp; done) | exact ⟨fun _ _ => rfl⟩ | exact ⟨by decide⟩ | exact ⟨fun k _ => isU8_bf _ k⟩ | exact ⟨by rw [ew]; omega⟩
            refine vc_ok hΓ mixed 1000 _ [] _ (by kernel_rfl) rfl ?_
            conv => whnf
            refine ⟨p + 1, [], ?_⟩
            conv => whnf
            repeat' (refine And.intro ?_ ?_ <;> conv => whnf)
            all_goals try first | exact ⟨rfl⟩ | exact ⟨⟨rfl, rfl⟩⟩ | exact ⟨⟨rfl, rfl, rfl⟩⟩ | exact ⟨by omega⟩ | exact ⟨⟨by omega, by omega⟩⟩ | exact ⟨⟨by omega, by omega, by omega⟩⟩ | exact ⟨fun _ _ => rfl⟩ | exact ⟨by rw [wrap_id (by omega) (by omega)]; rfl⟩
        · rename_i hz
          have hz2 : x.2 ≠ 0 := by simpa using hz
          have hlt : i + 1 < (rowB ts).length := by
            rcases hcase.1 with h | h
            · exact h.1
            · rw [hx, h.2] at hz2; exact absurd rfl hz2
          refine ⟨i + 1, [], ?_⟩
          conv => whnf
          repeat' (refine And.intro ?_ ?_ <;> conv => whnf)
          all_goals try first | exact ⟨rfl⟩ | exact ⟨⟨rfl, rfl⟩⟩ | exact ⟨⟨rfl, rfl, rfl⟩⟩ | exact ⟨by omega⟩ | exact ⟨⟨by omega, by omega⟩⟩ | exact ⟨⟨by omega, by omega, by omega⟩⟩ | exact ⟨fun _ _ => rfl⟩ | exact ⟨by rw [wrap_id (by omega) (by omega)]; omega⟩ | exact ⟨⟨by omega, by omega⟩⟩
    · rename_i hc
      have hpe : i = (rowsOf a).length := by
        have := of_decide_eq_false hc
        rw [wrap_id (by omega) (by omega)] at this
        omega
      have hat : posR (rowsOf a) i = b.length := by rw [hpe, pos_all, ← hb]
      refine vc_ok hΓ mixed 1000 _ [] _ (by kernel_rfl) rfl ?_
      conv => whnf
      conv => whnf
      repeat' (first | (refine And.intro (fun hp => ?_) (fun hp => ?_) <;> first | (exfalso; revert hp; simp [hat]; done) | conv => whnf) | (refine And.intro ?_ ?_ <;> conv => whnf))
      refine ⟨(), trivial, ⟨trivial⟩, ?_⟩
      intro z hz
      obtain rfl : z = true := hz
      conv => whnf
      repeat' (first | (refine And.intro (fun _ => ?_) (fun _ => ?_) <;> conv => whnf) | (refine And.intro ?_ ?_ <;> conv => whnf))
      exact Ld.refl _
end Go.Proofs.YtimaobccedeafaaGreatDoor
