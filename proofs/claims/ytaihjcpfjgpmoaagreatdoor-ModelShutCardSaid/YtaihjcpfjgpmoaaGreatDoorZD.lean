/- Part of the claim: Z37, Z38, Z39, Z40, Z41, Z42. -/
import Derived.Test.YtaihjcpfjgpmoaaGreatDoorZC
import Derived.Test.YtaihjcpfjgpmoaaGreatDoorDC
/- Items of CBOR as trees; what the program's writer makes of them. -/
namespace Go.Proofs.YtaihjcpfjgpmoaaGreatDoor
set_option linter.unusedVariables false
set_option linter.unusedSimpArgs false
set_option maxRecDepth 100000
open Go Go.DD
mutual
inductive Tr where
  | leaf (t : Tk)
  | arr (l : Trs)
inductive Trs where
  | nil
  | cons (t : Tr) (l : Trs)
end
def Trs.len : Trs → Nat | .nil => 0 | .cons _ l => l.len + 1
mutual
/-- The tokens of an item. -/
def Tr.tk : Tr → List Tk | .leaf t => [t] | .arr l => ⟨5, (l.len : Nat), false, []⟩ :: l.tk
def Trs.tk : Trs → List Tk | .nil => [] | .cons t l => t.tk ++ l.tk
end
mutual
/-- Its bytes. -/
def Tr.by : Tr → List UInt8 | .leaf t => itemB t | .arr l => headL 4 l.len ++ l.by
def Trs.by : Trs → List UInt8 | .nil => [] | .cons t l => t.by ++ l.by
end
mutual
def Tr.ok (k : Nat) : Tr → Prop | .leaf t => FlatT t | .arr l => ∃ j, k = j + 1 ∧ l.len ≤ 64 ∧ l.ok j
def Trs.ok (k : Nat) : Trs → Prop | .nil => True | .cons t l => t.ok k ∧ l.ok k
end
/-- These tokens stand there from a place on. -/
def At (a : Toks) (p : Nat) (l : List Tk) : Prop := p + l.length ≤ a.n ∧ ∀ j, j < l.length → a.ts (p + j) = lTk l j
theorem At.head {a : Toks} {p : Nat} {t : Tk} {l : List Tk} (h : At a p (t :: l)) : a.ts p = t ∧ p < a.n ∧ At a (p + 1) l := by
  obtain ⟨h1, h2⟩ := h
  simp only [List.length_cons] at h1
  refine ⟨by simpa [lTk] using h2 0 (by simp), by omega, by omega, fun j hj => ?_⟩
  have := h2 (j + 1) (by simp; omega)
  simp only [lTk, List.getD_cons_succ] at this ⊢
  rw [← this]
  congr 1; omega
theorem At.app {a : Toks} : ∀ {l m : List Tk} {p : Nat}, At a p (l ++ m) → At a p l ∧ At a (p + l.length) m
  | [], m, p, h => ⟨⟨by have := h.1; simp at this ⊢; omega, fun j hj => by simp at hj⟩, by simpa using h⟩
  | t :: l, m, p, h => by
    obtain ⟨h1, h2, h3⟩ := At.head (l := l ++ m) h
    obtain ⟨h4, h5⟩ := At.app h3
    refine ⟨⟨by have := h4.1; simp; omega, fun j hj => ?_⟩, by rw [List.length_cons, show p + (l.length + 1) = p + 1 + l.length by omega]; exact h5⟩
    rcases j with _ | j
    · simpa [lTk] using h1
    · have := h4.2 j (by simpa using hj)
      simp only [lTk, List.getD_cons_succ] at this ⊢
      rw [← this]
      congr 1; omega
mutual
theorem Tr.tk_pos : ∀ t : Tr, 1 ≤ t.tk.length
  | .leaf t => by simp [Tr.tk]
  | .arr l => by simp [Tr.tk]
end
mutual
/-- The program's writer, at an item. -/
theorem wItem_tree {a : Toks} : ∀ (t : Tr) (k : Nat) (s : WS), t.ok k → At a s.at' t.tk → s.out.length + t.by.length ≤ 32768 → s.bad = false → wItem a k s = ⟨s.at' + t.tk.length, s.out ++ t.by, false⟩
  | .leaf t, k, s, hk, ha, hl, hb => by
    simp only [Tr.ok] at hk
    simp only [Tr.tk] at ha ⊢
    simp only [Tr.by] at hl ⊢
    obtain ⟨h1, h2, _⟩ := ha.head
    rw [wItem_flat h2 (by omega) hb (by rw [h1]; exact hk), h1]
    rfl
  | .arr l, k, s, hk, ha, hl, hb => by
    simp only [Tr.ok] at hk
    obtain ⟨j, rfl, h64, hj⟩ := hk
    simp only [Tr.tk] at ha ⊢
    simp only [Tr.by] at hl ⊢
    obtain ⟨h1, h2, h3⟩ := ha.head
    rw [wItem_arr (n := l.len) h2 (by omega) hb (by rw [h1]) (by rw [h1]) (by rw [h1]) h64, wRep_tree l j _ hj h3 (by simp only [List.length_append] at hl ⊢; omega) rfl]
    simp only [List.length_cons, List.append_assoc]
    congr 1
    omega
theorem wRep_tree {a : Toks} : ∀ (l : Trs) (k : Nat) (s : WS), l.ok k → At a s.at' l.tk → s.out.length + l.by.length ≤ 32768 → s.bad = false → wRep (wItem a k) l.len s = ⟨s.at' + l.tk.length, s.out ++ l.by, false⟩
  | .nil, k, s, hk, ha, hl, hb => by
    obtain ⟨x, y, z⟩ := s
    simp only at hb
    subst hb
    simp [Trs.len, wRep, Trs.tk, Trs.by]
  | .cons t l, k, s, hk, ha, hl, hb => by
    simp only [Trs.ok] at hk
    simp only [Trs.tk] at ha ⊢
    simp only [Trs.by, List.length_append] at hl ⊢
    obtain ⟨h1, h2⟩ := At.app ha
    rw [Trs.len, wRep, hb, if_neg (by simp), wItem_tree t k s hk.1 h1 (by omega) hb, wRep_tree l k _ hk.2 h2 (by simp only [List.length_append]; omega) rfl]
    simp only [List.append_assoc]
    congr 1
    omega
end
/-- What the program's writer makes of an item's tokens. -/
theorem enc_tree {a : Toks} {t : Tr} (hk : t.ok 6) (ha : At a 0 t.tk) (hn : a.n = t.tk.length) (hm : a.n ≤ 600) (hl : t.by.length ≤ 32768) : enc a = (t.by, 0) := by
  have h := wItem_tree t 6 ⟨0, [], false⟩ hk ha (by simpa using hl) rfl
  simp only [Nat.zero_add, List.nil_append] at h
  rw [enc, if_neg (by omega), h, if_neg (by simp only []; simp [hn]; omega)]
/-- An entry, as an item. -/
def entTr (e : Ent) : Tr := .arr (.cons (.leaf ⟨1, 1, false, []⟩) (.cons (.leaf ⟨3, 0, true, e.author⟩) (.cons (.leaf ⟨1, e.seq, false, []⟩) (.cons (.leaf ⟨3, 0, true, e.prev⟩) (.cons (.leaf ⟨1, e.stamp, false, []⟩)
  (.cons (.arr (.cons (.leaf ⟨1, e.kind, false, []⟩) (.cons (.leaf ⟨4, 0, false, e.key⟩) (.cons (.leaf ⟨3, 0, false, e.val⟩) .nil)))) (.cons (.leaf ⟨3, 0, true, e.sig⟩) .nil)))))))
theorem entTr_ok {e : Ent} (hw : wfE e) (he : entOk e = true) (k : Nat) : (entTr e).ok (k + 2) := by
  obtain ⟨h1, h2, h3, h4, h5, h6, h7, h8⟩ := entOk_len he
  obtain ⟨w1, w2, w3⟩ := hw
  have hn : ∀ n : Int, 0 ≤ n → FlatT ⟨1, n, false, []⟩ := fun n h => ⟨by simp, .inl ⟨rfl, h, rfl⟩⟩
  have hb : ∀ (b : Bool) (l : List UInt8), l.length ≤ 2000 → FlatT ⟨3, 0, b, l⟩ := fun b l h => ⟨h, .inr (.inl ⟨rfl, rfl⟩)⟩
  simp only [entTr, Tr.ok, Trs.ok, Trs.len]
  exact ⟨k + 1, rfl, by omega, hn _ (by omega), hb _ _ (by omega), hn _ (by omega), hb _ _ (by omega), hn _ h4, ⟨k, rfl, by omega, hn _ (by omega), ⟨by show e.key.length ≤ 2000; omega, .inr (.inr ⟨rfl, rfl, h6⟩)⟩, hb _ _ (by omega), trivial⟩, hb _ _ (by omega), trivial⟩
def tkW (t : Tk) : Nat := 9 + t.l.length
mutual
theorem Tr.by_len : ∀ (t : Tr) (k : Nat), t.ok k → t.by.length ≤ (t.tk.map tkW).sum
  | .leaf t, k, h => by
    simp only [Tr.ok] at h
    have := itemB_len h
    simp only [Tr.by, Tr.tk, List.map_cons, List.map_nil, List.sum_cons, List.sum_nil, tkW]
    omega
  | .arr l, k, h => by
    simp only [Tr.ok] at h
    obtain ⟨j, _, _, h⟩ := h
    have h1 := Trs.by_len l j h
    have h2 := headL_length 4 l.len
    simp only [Tr.by, Tr.tk, List.map_cons, List.sum_cons, tkW, List.length_nil, List.length_append]
    have h3 : (List.map tkW l.tk).sum = (List.map (fun t => 9 + t.l.length) l.tk).sum := rfl
    simp only [h3] at h1
    omega
theorem Trs.by_len : ∀ (l : Trs) (k : Nat), l.ok k → l.by.length ≤ (l.tk.map tkW).sum
  | .nil, k, h => by simp [Trs.by]
  | .cons t l, k, h => by
    simp only [Trs.ok] at h
    have h1 := Tr.by_len t k h.1
    have h2 := Trs.by_len l k h.2
    simp only [Trs.by, Trs.tk, List.length_append, List.map_append, List.sum_append]
    omega
end
theorem entTr_len {e : Ent} (hw : wfE e) (he : entOk e = true) : (entTr e).by.length ≤ 400 := by
  obtain ⟨h1, h2, h3, h4, h5, h6, h7, h8⟩ := entOk_len he
  obtain ⟨w1, w2, w3⟩ := hw
  refine Nat.le_trans (Tr.by_len _ 6 (entTr_ok ⟨w1, w2, w3⟩ he 4)) ?_
  simp only [entTr, Tr.tk, Trs.tk, Trs.len, List.map_cons, List.map_nil, List.map_append, List.sum_cons, List.sum_nil, List.sum_append, List.cons_append, List.nil_append, List.append_nil, tkW, List.length_nil, w1, w2, w3]
  omega
theorem entTr_at (e : Ent) : At (entToks e) 0 (entTr e).tk := by
  refine ⟨Nat.le_refl 11, fun j hj => ?_⟩
  have hj : j < 11 := hj
  match j, hj with
  | 0, _ | 1, _ | 2, _ | 3, _ | 4, _ | 5, _ | 6, _ | 7, _ | 8, _ | 9, _ | 10, _ => rfl
theorem encE_eq {e : Ent} (hw : wfE e) (he : entOk e = true) : encE e = ((entTr e).by, 0) := by
  rw [encE, if_pos he]
  exact enc_tree (entTr_ok hw he 4) (entTr_at e) rfl (by show 11 ≤ 600; omega) (by have := entTr_len hw he; omega)
end Go.Proofs.YtaihjcpfjgpmoaaGreatDoor

/- The reference: heads of CBOR, items. -/
namespace Go.Proofs.YtaihjcpfjgpmoaaGreatDoor
set_option linter.unusedVariables false
set_option linter.unusedSimpArgs false
set_option maxRecDepth 100000
open Go Go.DD
def F135 : FSpec := mkG (fun (a : Nat × Nat) => [.int .i64 (a.1 : Nat), .int .i64 (a.2 : Nat)]) (fun a => a.2 ≤ 8) (fun a => beU a.1 a.2 a.2) (byV false)
theorem be_byte' {n B i : Nat} (hi : i < B) (hB : B ≤ 8) : IntKind.u8.wrap (shrI .i64 (n : Nat) (IntKind.u64.wrap (IntKind.i64.wrap (8 * ((B : Int) - 1 - (i : Nat)))))) = ((UInt8.ofNat (n / 2 ^ (8 * (B - 1 - i)))).toNat : Nat) := by
  rw [← be_byte hi hB]
  have h1 : IntKind.i64.wrap (8 * ((B : Int) - 1 - (i : Nat))) = 8 * ((B : Int) - 1 - (i : Nat)) := by rw [IntKind.wrap_i64]; omega
  have h2 : IntKind.u64.wrap (8 * ((B : Int) - 1 - (i : Nat))) = 8 * ((B : Int) - 1 - (i : Nat)) := by rw [IntKind.wrap_u64]; omega
  rw [h1, h2]
theorem f135_ok : FOk Tryz.prog [] 257 F135 := mkG_ok fun ⟨n, B⟩ hB => by
  replace hB : B ≤ 8 := hB
  show CP _ _ _ [.int .i64 (n : Nat), .int .i64 (B : Nat)] fun v => Ld v (byV false (beU n B B))
  have hΓ := ctxOk Tryz.f257.ntmps [] [] (FL.all .nil) (HL.all .nil)
  refine CP_of_OK hΓ Tryz.func257 (c := bodyOf Tryz.f257) rfl (by decide) rfl rfl (by simp) (vc_ok hΓ mixed 1000 _ [] _ (by kernel_rfl) rfl ?_)
  conv => whnf
  refine OK_loopC (ι := Nat) (fun i => [(0, .int .i64 (n : Nat)), (5, .sl 0 [] 1 0 i i), (6, .int .i64 ((B : Int) - 1 - (i : Nat)))]) (fun i => [some (.row 1 i (bf (beU n B i)))]) (fun i => i ≤ B) (fun i => B - i) 0 [none] ?_ (fun i hi => vc_ok hΓ mixed 1000 _ [] _ (by kernel_rfl) rfl ?_)
  · conv => whnf
    repeat' (first | (refine And.intro (fun _ => ?_) (fun _ => ?_) <;> conv => whnf) | (refine And.intro ?_ ?_ <;> conv => whnf))
    all_goals try first | exact ⟨rfl⟩ | exact ⟨⟨rfl, rfl⟩⟩ | exact ⟨⟨rfl, rfl, rfl⟩⟩ | exact ⟨fun _ _ => rfl⟩ | exact ⟨fun _ _ => trivial⟩ | exact ⟨fun k _ => isU8_bf _ k⟩ | exact ⟨by omega⟩ | exact ⟨⟨by omega, by omega⟩⟩ | exact ⟨⟨by omega, by omega, by omega⟩⟩
    · exact ⟨by rw [wrap_id (by omega) (by omega)]; simp⟩
  conv => whnf
  refine And.intro (fun h1 => ?_) (fun h1 => ?_) <;> conv => whnf
  · have hi2 : i < B := by
      have : 0 ≤ (B : Int) - 1 - (i : Nat) := by simpa using h1
      omega
    conv => whnf
    repeat' (first | (refine And.intro (fun _ => ?_) (fun _ => ?_) <;> conv => whnf) | (refine And.intro ?_ ?_ <;> conv => whnf))
    · exact ⟨by rw [IntKind.wrap_u64]; omega⟩
    · exact ⟨by omega⟩
    refine Or.inl ?_
    conv => whnf
    repeat' (first | (refine And.intro (fun _ => ?_) (fun _ => ?_) <;> conv => whnf) | (refine And.intro ?_ ?_ <;> conv => whnf))
    all_goals try first | exact ⟨rfl⟩ | exact ⟨⟨rfl, rfl⟩⟩ | exact ⟨⟨rfl, rfl, rfl⟩⟩ | exact ⟨fun _ _ => rfl⟩ | exact ⟨fun _ _ => trivial⟩ | exact ⟨fun k _ => isU8_bf _ k⟩ | exact ⟨by omega⟩ | exact ⟨⟨by omega, by omega⟩⟩ | exact ⟨⟨by omega, by omega, by omega⟩⟩ | exact ⟨⟨by simp only []; omega, by omega⟩⟩
    refine ⟨i + 1, [some 2], ?_⟩
    conv => whnf
    repeat' (refine And.intro ?_ ?_ <;> conv => whnf)
    all_goals try first | exact ⟨rfl⟩ | exact ⟨⟨rfl, rfl⟩⟩ | exact ⟨⟨rfl, rfl, rfl⟩⟩ | exact ⟨fun _ _ => rfl⟩ | exact ⟨fun _ _ => trivial⟩ | exact ⟨fun k _ => isU8_bf _ k⟩ | exact ⟨by omega⟩ | exact ⟨⟨by omega, by omega⟩⟩ | exact ⟨⟨by omega, by omega, by omega⟩⟩
    · exact ⟨by rw [wrap_id (by omega) (by omega)]; omega⟩
    · refine ⟨?_⟩
      refine leV_snoc (i := i) ?_ ?_ fun k _ => trivial
      · intro k hk
        refine (if_pos hk).trans ?_
        simp only [beU]
        exact (bf_lt _ _ (by rw [beU_length]; exact hk)).symm
      · simp only [beU]
        rw [bf_at' _ _ _ (by rw [beU_length]), ← be_byte' hi2 hB]
        exact (if_neg (Nat.lt_irrefl _)).trans (by rw [Nat.sub_self]; rfl)
  · have hi2 : i = B := by
      have : ¬ 0 ≤ (B : Int) - 1 - (i : Nat) := by simpa using h1
      omega
    subst hi2
    refine vc_ok hΓ mixed 1000 _ [] _ (by kernel_rfl) rfl ?_
    conv => whnf
    conv => whnf
    repeat' (refine And.intro ?_ ?_ <;> conv => whnf)
    · exact ⟨by omega⟩
    · exact ⟨fun k _ => own_bf _ _⟩
    · rw [byV, beU_length]
      exact Ld.imm fun k hk => by rw [Nat.zero_add]
structure HeA where
  major : Nat
  n : Nat
def H111 : SpecH := mkHS (fun (x : HeA) => [.int .i64 (x.major : Nat), .int .i64 (x.n : Nat)]) (fun x => []) (fun x => x.major < 8)
  (fun x => slV 0 (headL x.major x.n)) (fun x => [some (rowV (headL x.major x.n))])
theorem hd_b' : ∀ (m : Fin 8) (s : Fin 28), bitsI .or .u8 (IntKind.u8.wrap (shlI .i64 (m.val : Nat) 5)) (IntKind.u8.wrap (s.val : Nat)) = ((UInt8.ofNat (m.val * 32 + s.val)).toNat : Nat) := by decide
theorem hd_b {m s : Nat} (hm : m < 8) (hs : s ≤ 27) : bitsI .or .u8 (IntKind.u8.wrap (shlI .i64 (m : Nat) 5)) (IntKind.u8.wrap (s : Nat)) = ((UInt8.ofNat (m * 32 + s)).toNat : Nat) := hd_b' ⟨m, hm⟩ ⟨s, by omega⟩
theorem c111_ok : CtxOk Tryz.prog (ctx Tryz.f230.ntmps [(257, F135)] []) := ctxOk Tryz.f230.ntmps [(257, F135)] [] (FL.all (.cons f135_ok .nil)) (HL.all .nil)
def S111 : SpecH := fun xs h κ => xs.length = 2 ∧ inlineS Tryz.prog (ctx Tryz.f230.ntmps [(257, F135)] []) (bodyOf Tryz.f230) Tryz.f230.results.toList xs h κ
theorem s111_ok : SpecHOk Tryz.prog [] 230 S111 := inline_ok (c := bodyOf Tryz.f230) (np := 2) c111_ok Tryz.func230 rfl (by decide) rfl (by decide)
theorem h111_ok : SpecHOk Tryz.prog [] 230 H111 := mkHS_ok s111_ok (fun x κ hm h => by
  replace hm : x.major < 8 := hm
  refine ⟨rfl, ?_⟩
  refine vc_ok (CtxOk.inner c111_ok _) mixed 1000 _ [] _ (by kernel_rfl) rfl ?_
  conv => whnf
  conv => whnf
  repeat' (first | (refine And.intro (fun _ => ?_) (fun _ => ?_) <;> conv => whnf) | (refine And.intro ?_ ?_ <;> conv => whnf))
  all_goals try simp only [decide_eq_true_eq, decide_eq_false_iff_not] at *
  all_goals try exact ⟨by omega⟩
  · have hs : sizeB x.n = (0, x.n) := by rw [sizeB, if_pos (by omega)]
    have e : headL x.major x.n = [UInt8.ofNat (x.major * 32 + x.n)] := by rw [headL, hs]; rfl
    refine ⟨[some 0], slV 0 (headL x.major x.n), [some (rowV (headL x.major x.n))], ?_⟩
    rw [e]
    conv => whnf
    repeat' (refine And.intro ?_ ?_ <;> conv => whnf)
    all_goals try first | exact ⟨rfl⟩ | exact ⟨⟨rfl, rfl⟩⟩ | exact ⟨⟨rfl, rfl, rfl⟩⟩ | exact ⟨by omega⟩ | exact ⟨⟨by omega, by omega⟩⟩ | exact ⟨⟨by omega, by omega, by omega⟩⟩
    · refine ⟨fun k hk => leV_eq ?_ trivial⟩
      replace hk : k < 1 := hk
      obtain rfl : k = 0 := by omega
      refine Eq.trans ?_ (congrArg (V.int .u8) (hd_b hm (show x.n ≤ 27 by omega)))
      rfl
    · rw [e] at h
      exact h
  · have hs : sizeB x.n = (1, 24) := by rw [sizeB, if_neg (by omega), if_pos (by omega)]
    refine ⟨(x.n, 1), ⟨AE.refl _, AE.refl _, trivial⟩, ⟨by show 1 ≤ 8; omega⟩, ?_⟩
    intro r hr
    replace hr : r = beU x.n 1 1 := hr
    have hl : r.length = 1 := by rw [hr, beU_length]
    refine Or.inl ?_
    conv => whnf
    repeat' (first | (refine And.intro (fun _ => ?_) (fun _ => ?_) <;> conv => whnf) | (refine And.intro ?_ ?_ <;> conv => whnf))
    · exact ⟨rfl⟩
    · exact ⟨⟨by show (1 + r.length) * 1 ≤ _; omega, by omega⟩⟩
    have e : headL x.major x.n = UInt8.ofNat (x.major * 32 + 24) :: r := by rw [headL, hs, hr]
    refine ⟨[some 1], slV 0 (headL x.major x.n), [some (rowV (headL x.major x.n))], ?_⟩
    rw [e]
    conv => whnf
    repeat' (refine And.intro ?_ ?_ <;> conv => whnf)
    · exact ⟨⟨rfl, rfl, rfl⟩⟩
    · exact ⟨⟨rfl, by simp; omega, by simp; omega⟩⟩
    · exact ⟨rfl⟩
    · exact ⟨by simp; omega⟩
    · refine ⟨fun k hk => leV_eq ?_ trivial⟩
      rcases k with _ | k
      · refine Eq.trans ?_ (congrArg (V.int .u8) (hd_b hm (show 24 ≤ 27 by omega)))
        rfl
      · refine (if_neg (by omega)).trans ?_
        simp [bf, List.getD_eq_getElem?_getD]
    · rw [e] at h
      exact h
  · have hs : sizeB x.n = (2, 25) := by rw [sizeB, if_neg (by omega), if_neg (by omega), if_pos (by omega)]
    refine ⟨(x.n, 2), ⟨AE.refl _, AE.refl _, trivial⟩, ⟨by show 2 ≤ 8; omega⟩, ?_⟩
    intro r hr
    replace hr : r = beU x.n 2 2 := hr
    have hl : r.length = 2 := by rw [hr, beU_length]
    refine Or.inl ?_
    conv => whnf
    repeat' (first | (refine And.intro (fun _ => ?_) (fun _ => ?_) <;> conv => whnf) | (refine And.intro ?_ ?_ <;> conv => whnf))
    · exact ⟨rfl⟩
    · exact ⟨⟨by show (1 + r.length) * 1 ≤ _; omega, by omega⟩⟩
    have e : headL x.major x.n = UInt8.ofNat (x.major * 32 + 25) :: r := by rw [headL, hs, hr]
    refine ⟨[some 1], slV 0 (headL x.major x.n), [some (rowV (headL x.major x.n))], ?_⟩
    rw [e]
    conv => whnf
    repeat' (refine And.intro ?_ ?_ <;> conv => whnf)
    · exact ⟨⟨rfl, rfl, rfl⟩⟩
    · exact ⟨⟨rfl, by simp; omega, by simp; omega⟩⟩
    · exact ⟨rfl⟩
    · exact ⟨by simp; omega⟩
    · refine ⟨fun k hk => leV_eq ?_ trivial⟩
      rcases k with _ | k
      · refine Eq.trans ?_ (congrArg (V.int .u8) (hd_b hm (show 25 ≤ 27 by omega)))
        rfl
      · refine (if_neg (by omega)).trans ?_
        simp [bf, List.getD_eq_getElem?_getD]
    · rw [e] at h
      exact h
  · have hs : sizeB x.n = (4, 26) := by rw [sizeB, if_neg (by omega), if_neg (by omega), if_neg (by omega), if_pos (by omega)]
    refine ⟨(x.n, 4), ⟨AE.refl _, AE.refl _, trivial⟩, ⟨by show 4 ≤ 8; omega⟩, ?_⟩
    intro r hr
    replace hr : r = beU x.n 4 4 := hr
    have hl : r.length = 4 := by rw [hr, beU_length]
    refine Or.inl ?_
    conv => whnf
    repeat' (first | (refine And.intro (fun _ => ?_) (fun _ => ?_) <;> conv => whnf) | (refine And.intro ?_ ?_ <;> conv => whnf))
    · exact ⟨rfl⟩
    · exact ⟨⟨by show (1 + r.length) * 1 ≤ _; omega, by omega⟩⟩
    have e : headL x.major x.n = UInt8.ofNat (x.major * 32 + 26) :: r := by rw [headL, hs, hr]
    refine ⟨[some 1], slV 0 (headL x.major x.n), [some (rowV (headL x.major x.n))], ?_⟩
    rw [e]
    conv => whnf
    repeat' (refine And.intro ?_ ?_ <;> conv => whnf)
    · exact ⟨⟨rfl, rfl, rfl⟩⟩
    · exact ⟨⟨rfl, by simp; omega, by simp; omega⟩⟩
    · exact ⟨rfl⟩
    · exact ⟨by simp; omega⟩
    · refine ⟨fun k hk => leV_eq ?_ trivial⟩
      rcases k with _ | k
      · refine Eq.trans ?_ (congrArg (V.int .u8) (hd_b hm (show 26 ≤ 27 by omega)))
        rfl
      · refine (if_neg (by omega)).trans ?_
        simp [bf, List.getD_eq_getElem?_getD]
    · rw [e] at h
      exact h
  · have hs : sizeB x.n = (8, 27) := by rw [sizeB, if_neg (by omega), if_neg (by omega), if_neg (by omega), if_neg (by omega)]
    refine ⟨(x.n, 8), ⟨AE.refl _, AE.refl _, trivial⟩, ⟨by show 8 ≤ 8; omega⟩, ?_⟩
    intro r hr
    replace hr : r = beU x.n 8 8 := hr
    have hl : r.length = 8 := by rw [hr, beU_length]
    refine Or.inl ?_
    conv => whnf
    repeat' (first | (refine And.intro (fun _ => ?_) (fun _ => ?_) <;> conv => whnf) | (refine And.intro ?_ ?_ <;> conv => whnf))
    · exact ⟨rfl⟩
    · exact ⟨⟨by show (1 + r.length) * 1 ≤ _; omega, by omega⟩⟩
    have e : headL x.major x.n = UInt8.ofNat (x.major * 32 + 27) :: r := by rw [headL, hs, hr]
    refine ⟨[some 1], slV 0 (headL x.major x.n), [some (rowV (headL x.major x.n))], ?_⟩
    rw [e]
    conv => whnf
    repeat' (refine And.intro ?_ ?_ <;> conv => whnf)
    · exact ⟨⟨rfl, rfl, rfl⟩⟩
    · exact ⟨⟨rfl, by simp; omega, by simp; omega⟩⟩
    · exact ⟨rfl⟩
    · exact ⟨by simp; omega⟩
    · refine ⟨fun k hk => leV_eq ?_ trivial⟩
      rcases k with _ | k
      · refine Eq.trans ?_ (congrArg (V.int .u8) (hd_b hm (show 27 ≤ 27 by omega)))
        rfl
      · refine (if_neg (by omega)).trans ?_
        simp [bf, List.getD_eq_getElem?_getD]
    · rw [e] at h
      exact h
  ) (fun _ => by simp) (fun _ => by simp only [slV, rok]) (fun l u hu => by simp at hu; subst hu; exact rok_rowV _)
end Go.Proofs.YtaihjcpfjgpmoaaGreatDoor

/- The reference: items of CBOR. -/
namespace Go.Proofs.YtaihjcpfjgpmoaaGreatDoor
set_option linter.unusedVariables false
set_option linter.unusedSimpArgs false
set_option maxRecDepth 100000
open Go Go.DD
structure ItX where
  a : Toks
  p : Nat
  t : Tr
def walkV (p : Nat) (l : List UInt8) : V := .st (.cons (.int .i64 (p : Nat)) (.cons (byV false l) (.cons (.bool false) .nil)))
def F80 (k : Nat) : FSpec := mkG (fun (x : ItX) => [toksV x.a, .int .i64 (x.p : Nat), .int .i64 (6 - (k : Nat))]) (fun x => x.t.ok k ∧ At x.a x.p x.t.tk ∧ x.t.by.length ≤ 32768 ∧ x.a.n ≤ 600 ∧ k ≤ 6)
  (fun x => (x.p + x.t.tk.length, x.t.by)) (fun r => walkV r.1 r.2)
structure ItL where
  i : Nat
  pos : Nat
  out : List UInt8
  rest : Trs
theorem f80_of (k : Nat) (F : FSpec) (hF : FOk Tryz.prog G 184 F) (hk : ∀ j, k = j + 1 → F = F80 j) : FOk Tryz.prog G 184 (F80 k) := mkG_ok fun x ⟨hok, hat, hby, hn, hk6⟩ => by
  obtain ⟨a, p, t⟩ := x
  replace hok : t.ok k := hok
  replace hat : At a p t.tk := hat
  replace hby : t.by.length ≤ 32768 := hby
  replace hn : a.n ≤ 600 := hn
  replace hk6 : k ≤ 6 := hk6
  show CP _ _ _ [toksV a, .int .i64 (p : Nat), .int .i64 (6 - (k : Nat))] fun v => Ld v (walkV (p + t.tk.length) t.by)
  have hΓ := ctxG_ok Tryz.f184.ntmps [(135, F112), (184, F)] [(230, H111)] [(13, .one 0 (.one 1 (.one 2 (.one 3 (.one 4 (.one 6 (.many (.cons 5 (.one 7 (.one 8 (.one 9 (.one 10 (.done))))) (.cons 7 (.one 5 (.one 8 (.one 9 (.one 10 (.done))))) (.nil)))))))))), (17, .one 0 (.one 1 (.one 2 (.one 3 (.one 4 (.one 6 (.many (.cons 5 (.one 7 (.one 8 (.one 9 (.one 10 (.done))))) (.cons 7 (.one 5 (.one 8 (.one 9 (.one 10 (.done))))) (.nil)))))))))), (38, .one 0 (.one 2 (.one 3 (.one 4 (.one 5 (.many (.cons 1 (.one 6 (.one 7 (.one 8 (.one 9 (.one 10 (.done)))))) (.cons 6 (.one 1 (.one 7 (.one 8 (.one 9 (.one 10 (.done)))))) (.nil)))))))))] (.cons (f112_ok.g) (.cons (hF) .nil)) (.cons (hg h111_ok) .nil)
  refine CP_of_OK hΓ Tryz.func184 (c := bodyOf Tryz.f184) rfl (by decide) rfl rfl (by simp) (vc_ok hΓ mixed 1000 _ [] _ (by kernel_rfl) rfl ?_)
  cases t with
  | leaf t =>
    simp only [Tr.ok] at hok
    simp only [Tr.tk] at hat
    simp only [Tr.by] at hby
    obtain ⟨h1, h2, _⟩ := hat.head
    obtain ⟨hl, ⟨k1, k2, k3⟩ | ⟨k1, k2⟩ | ⟨k1, k2, k3⟩⟩ := hok
    · conv => whnf
      repeat' (first | (refine And.intro (fun hp => ?_) (fun hp => ?_) <;> first | (exfalso; revert hp; simp [h1, k1, k2, k3] <;> omega; done) | conv => whnf) | (refine And.intro ?_ ?_ <;> conv => whnf))
      · exact ⟨by omega⟩
      obtain ⟨m, hm⟩ : ∃ m : Nat, t.n = m := ⟨t.n.toNat, by omega⟩
      have hb : itemB t = headL 0 m := by rw [itemB, if_pos k1, hm, Int.toNat_natCast]
      refine ⟨⟨0, m⟩, [], ?_⟩
      conv => whnf
      repeat' (first | (refine And.intro (fun _ => ?_) (fun _ => ?_) <;> conv => whnf) | (refine And.intro ?_ ?_ <;> conv => whnf))
      all_goals try first | exact ⟨rfl⟩ | exact ⟨⟨rfl, rfl⟩⟩ | exact ⟨⟨rfl, rfl, rfl⟩⟩ | exact ⟨by omega⟩ | exact ⟨⟨by omega, by omega⟩⟩ | exact ⟨⟨by omega, by omega, by omega⟩⟩ | exact ⟨show 0 < 8 by decide⟩ | exact ⟨fun _ _ => own_bf _ _⟩
      · exact ⟨(congrArg Tk.n h1).trans hm⟩
      · refine Ld.st (.cons (LdR.of (congrArg (V.int .i64) ?_)) (.cons (LdR.imm ?_ fun k _ => ?_) (.cons (LdR.refl _) .nil)))
        · rw [wrap_id (by omega) (by omega)]; rfl
        · exact congrArg List.length hb.symm
        · show bf (headL 0 m) (0 + k) = bf (itemB t) k
          rw [Nat.zero_add, hb]
    · have hb : itemB t = headL 2 t.l.length ++ t.l := by rw [itemB, if_neg (by omega), if_neg (by omega)]
      conv => whnf
      repeat' (first | (refine And.intro (fun hp => ?_) (fun hp => ?_) <;> first | (exfalso; revert hp; simp [h1, k1, k2] <;> omega; done) | conv => whnf) | (refine And.intro ?_ ?_ <;> conv => whnf))
      · exact ⟨by omega⟩
      all_goals try exact trivial
      all_goals
        refine ⟨⟨2, t.l.length⟩, [], ?_⟩
        conv => whnf
        repeat' (first | (refine And.intro (fun _ => ?_) (fun _ => ?_) <;> conv => whnf) | (refine And.intro ?_ ?_ <;> conv => whnf))
        all_goals try first | exact ⟨rfl⟩ | exact ⟨⟨rfl, rfl⟩⟩ | exact ⟨⟨rfl, rfl, rfl⟩⟩ | exact ⟨by omega⟩ | exact ⟨⟨by omega, by omega⟩⟩ | exact ⟨⟨by omega, by omega, by omega⟩⟩ | exact ⟨show 2 < 8 by decide⟩ | exact ⟨fun _ _ => own_bf _ _⟩
        · exact ⟨congrArg (fun x : Tk => ((x.l.length : Nat) : Int)) h1⟩
        have hh := headL_length 2 t.l.length
        refine Or.inl ?_
        conv => whnf
        repeat' (first | (refine And.intro (fun _ => ?_) (fun _ => ?_) <;> conv => whnf) | (refine And.intro ?_ ?_ <;> conv => whnf))
        all_goals try first | exact ⟨rfl⟩ | exact ⟨⟨rfl, rfl⟩⟩ | exact ⟨⟨rfl, rfl, rfl⟩⟩ | exact ⟨by omega⟩ | exact ⟨⟨by omega, by omega⟩⟩ | exact ⟨⟨by omega, by omega, by omega⟩⟩
        · refine ⟨?_⟩
          show ((headL 2 t.l.length).length + (a.ts p).l.length) * 1 ≤ _ ∧ (headL 2 t.l.length).length + (a.ts p).l.length ≤ _
          rw [h1]
          omega
        · exact ⟨fun k _ => by
            show own (if 0 + k < (headL 2 t.l.length).length then bf (headL 2 t.l.length) (0 + k) else bf (a.ts p).l (0 + k - (headL 2 t.l.length).length))
            split <;> exact own_bf _ _⟩
        · refine Ld.st (.cons (LdR.of (congrArg (V.int .i64) ?_)) (.cons (LdR.imm ?_ fun k _ => ?_) (.cons (LdR.refl _) .nil)))
          · rw [wrap_id (by omega) (by omega)]; rfl
          · show (headL 2 t.l.length).length + (a.ts p).l.length = (itemB t).length
            rw [h1, hb, List.length_append]
          · show (if 0 + k < (headL 2 t.l.length).length then bf (headL 2 t.l.length) (0 + k) else bf (a.ts p).l (0 + k - (headL 2 t.l.length).length)) = bf (itemB t) k
            rw [Nat.zero_add, h1, hb, bsn]
    · have hb : itemB t = headL 3 t.l.length ++ t.l := by rw [itemB, if_neg (by omega), if_pos (by omega)]
      conv => whnf
      repeat' (first | (refine And.intro (fun hp => ?_) (fun hp => ?_) <;> first | (exfalso; revert hp; simp [h1, k1, k2, k3] <;> omega; done) | conv => whnf) | (refine And.intro ?_ ?_ <;> conv => whnf))
      · exact ⟨by omega⟩
      refine ⟨.of (a.ts p).lent (a.ts p).l, ⟨AE.refl _, trivial⟩, ⟨trivial, by show (a.ts p).l.length ≤ 1000000; rw [h1]; omega⟩, ?_⟩
      intro r hr
      replace hr : r = utf8 (a.ts p).l := hr
      rw [h1, k3] at hr
      subst hr
      conv => whnf
      repeat' (first | (refine And.intro (fun hp => ?_) (fun hp => ?_) <;> first | (exfalso; revert hp; simp [h1, k1, k2, k3] <;> omega; done) | conv => whnf) | (refine And.intro ?_ ?_ <;> conv => whnf))
      all_goals try exact trivial
      all_goals
        refine ⟨⟨3, t.l.length⟩, [], ?_⟩
        conv => whnf
        repeat' (first | (refine And.intro (fun _ => ?_) (fun _ => ?_) <;> conv => whnf) | (refine And.intro ?_ ?_ <;> conv => whnf))
        all_goals try first | exact ⟨rfl⟩ | exact ⟨⟨rfl, rfl⟩⟩ | exact ⟨⟨rfl, rfl, rfl⟩⟩ | exact ⟨by omega⟩ | exact ⟨⟨by omega, by omega⟩⟩ | exact ⟨⟨by omega, by omega, by omega⟩⟩ | exact ⟨show 3 < 8 by decide⟩ | exact ⟨fun _ _ => own_bf _ _⟩
        · exact ⟨congrArg (fun x : Tk => ((x.l.length : Nat) : Int)) h1⟩
        have hh := headL_length 3 t.l.length
        refine Or.inl ?_
        conv => whnf
        repeat' (first | (refine And.intro (fun _ => ?_) (fun _ => ?_) <;> conv => whnf) | (refine And.intro ?_ ?_ <;> conv => whnf))
        all_goals try first | exact ⟨rfl⟩ | exact ⟨⟨rfl, rfl⟩⟩ | exact ⟨⟨rfl, rfl, rfl⟩⟩ | exact ⟨by omega⟩ | exact ⟨⟨by omega, by omega⟩⟩ | exact ⟨⟨by omega, by omega, by omega⟩⟩
        · refine ⟨?_⟩
          show ((headL 3 t.l.length).length + (a.ts p).l.length) * 1 ≤ _ ∧ (headL 3 t.l.length).length + (a.ts p).l.length ≤ _
          rw [h1]
          omega
        · exact ⟨fun k _ => by
            show own (if 0 + k < (headL 3 t.l.length).length then bf (headL 3 t.l.length) (0 + k) else bf (a.ts p).l (0 + k - (headL 3 t.l.length).length))
            split <;> exact own_bf _ _⟩
        · refine Ld.st (.cons (LdR.of (congrArg (V.int .i64) ?_)) (.cons (LdR.imm ?_ fun k _ => ?_) (.cons (LdR.refl _) .nil)))
          · rw [wrap_id (by omega) (by omega)]; rfl
          · show (headL 3 t.l.length).length + (a.ts p).l.length = (itemB t).length
            rw [h1, hb, List.length_append]
          · show (if 0 + k < (headL 3 t.l.length).length then bf (headL 3 t.l.length) (0 + k) else bf (a.ts p).l (0 + k - (headL 3 t.l.length).length)) = bf (itemB t) k
            rw [Nat.zero_add, h1, hb, bsn]
  | arr l =>
    simp only [Tr.ok] at hok
    obtain ⟨j, hkj, h64, hok⟩ := hok
    have hF2 := hk j hkj
    subst hF2
    simp only [Tr.tk] at hat
    have hby2 : (headL 4 l.len).length + l.by.length ≤ 32768 := by simpa [Tr.by] using hby
    obtain ⟨h1, h2, h3⟩ := hat.head
    conv => whnf
    repeat' (first | (refine And.intro (fun hp => ?_) (fun hp => ?_) <;> first | (exfalso; revert hp; simp [h1] <;> omega; done) | conv => whnf) | (refine And.intro ?_ ?_ <;> conv => whnf))
    · exact ⟨by omega⟩
    refine ⟨⟨4, l.len⟩, [], ?_⟩
    conv => whnf
    repeat' (first | (refine And.intro (fun hp => ?_) (fun hp => ?_) <;> first | (exfalso; revert hp; simp [h1] <;> omega; done) | conv => whnf) | (refine And.intro ?_ ?_ <;> conv => whnf))
    all_goals try first | exact ⟨rfl⟩ | exact ⟨⟨rfl, rfl⟩⟩ | exact ⟨⟨rfl, rfl, rfl⟩⟩ | exact ⟨by omega⟩ | exact ⟨⟨by omega, by omega⟩⟩ | exact ⟨⟨by omega, by omega, by omega⟩⟩ | exact ⟨show 4 < 8 by decide⟩
    · exact ⟨congrArg Tk.n h1⟩
    refine OK_loopC (ι := ItL) (fun x => [(0, toksV a), (2, .int .i64 (6 - (k : Nat))), (6, .ref 0 []), (7, .ref 1 []), (8, .ref 2 []), (9, .int .i64 (l.len : Nat)), (10, .ref 3 []), (11, .emp), (12, .int .i64 (x.i : Nat))])
      (fun x => [some (.st (.cons (.int .i64 0) (.cons .emp (.cons .ff .nil)))), some (.st (.cons (.int .i64 0) (.cons .emp (.cons .tt .nil)))), some (tokV (a.ts p)), some (.st (.cons (.int .i64 (x.pos : Nat)) (.cons (slV 4 x.out) (.cons .ff .nil)))), some (rowV x.out)])
      (fun x => x.i + x.rest.len = l.len ∧ x.rest.ok j ∧ At a x.pos x.rest.tk ∧ x.out ++ x.rest.by = (Tr.arr l).by ∧ x.pos + x.rest.tk.length = p + (Tr.arr l).tk.length) (fun x => x.rest.len) ⟨0, p + 1, headL 4 l.len, l⟩ [some 0, some 1, some 2, some 4, some 3] ?_ (fun x hx => vc_ok hΓ mixed 1000 _ [] _ (by kernel_rfl) rfl ?_)
    · conv => whnf
      repeat' (first | (refine And.intro (fun _ => ?_) (fun _ => ?_) <;> conv => whnf) | (refine And.intro ?_ ?_ <;> conv => whnf))
      all_goals try first | exact ⟨rfl⟩ | exact ⟨⟨rfl, rfl⟩⟩ | exact ⟨⟨rfl, rfl, rfl⟩⟩ | exact ⟨by omega⟩ | exact ⟨⟨by omega, by omega⟩⟩ | exact ⟨⟨by omega, by omega, by omega⟩⟩ | exact ⟨fun _ _ => rfl⟩ | exact ⟨fun k _ => leV_refl _ trivial⟩
      · exact ⟨congrArg Tk.n h1⟩
      · exact ⟨by rw [wrap_id (by omega) (by omega)]; rfl⟩
      · exact ⟨⟨Nat.zero_add _, hok, h3, by simp only [Tr.by], by simp only [Tr.tk, List.length_cons]; omega⟩⟩
    obtain ⟨x1, x2, x3, x4, x5⟩ := hx
    have xlen : x.out.length + x.rest.by.length ≤ 32768 := by rw [← List.length_append, x4]; exact hby
    have xpos := x3.1
    conv => whnf
    refine And.intro (fun h5 => ?_) (fun h5 => ?_) <;> conv => whnf
    · have hi : x.i < l.len := by simpa using h5
      obtain ⟨i, pos, out, rest⟩ := x
      cases rest with
      | nil => exfalso; simp only [Trs.len] at x1; simp only [] at hi; omega
      | cons t r =>
        simp only [Trs.ok] at x2
        simp only [Trs.tk] at x3 x5 xpos
        simp only [Trs.by, List.length_append] at x4 xlen
        simp only [Trs.len] at x1
        obtain ⟨y1, y2⟩ := At.app x3
        simp only [List.length_append] at xpos x5
        conv => whnf
        repeat' (first | (refine And.intro (fun hp => ?_) (fun hp => ?_) <;> first | (exfalso; revert hp; simp [h1] <;> omega; done) | conv => whnf) | (refine And.intro ?_ ?_ <;> conv => whnf))
        refine ⟨⟨a, pos, t⟩, ⟨AE.refl _, AE.refl _, AE.of (congrArg (V.int .i64) ?_), trivial⟩, ⟨x2.1, y1, by show t.by.length ≤ 32768; omega, hn, by omega⟩, ?_⟩
        · rw [wrap_id (by omega) (by omega)]
          omega
        intro w hw
        obtain ⟨w1, w2⟩ := w
        obtain ⟨rfl, rfl⟩ : w1 = pos + t.tk.length ∧ w2 = t.by := by
          have := Prod.mk.inj hw; exact this
        conv => whnf
        repeat' (first | (refine And.intro (fun hp => ?_) (fun hp => ?_) <;> first | (exfalso; revert hp; simp [h1] <;> omega; done) | conv => whnf) | (refine And.intro ?_ ?_ <;> conv => whnf))
        all_goals try exact trivial
        · exfalso
          rw [wrap_id (by show _ ≤ ((out.length : Nat) : Int) + (t.by.length : Nat); omega) (by show ((out.length : Nat) : Int) + (t.by.length : Nat) ≤ _; omega)] at hp
          have : (32768 : Int) < (out.length : Nat) + (t.by.length : Nat) := of_decide_eq_true hp
          omega
        all_goals
          refine Or.inl ?_
          conv => whnf
          repeat' (first | (refine And.intro (fun _ => ?_) (fun _ => ?_) <;> conv => whnf) | (refine And.intro ?_ ?_ <;> conv => whnf))
          all_goals try first | exact ⟨rfl⟩ | exact ⟨⟨rfl, rfl⟩⟩ | exact ⟨⟨rfl, rfl, rfl⟩⟩ | exact ⟨by omega⟩ | exact ⟨⟨by omega, by omega⟩⟩ | exact ⟨⟨by omega, by omega, by omega⟩⟩
          · refine ⟨?_⟩
            show (out.length + t.by.length) * 1 ≤ _ ∧ out.length + t.by.length ≤ _
            omega
          refine ⟨⟨i + 1, pos + t.tk.length, out ++ t.by, r⟩, [some 0, some 1, some 2, some 3, some 6], ?_⟩
          conv => whnf
          repeat' (refine And.intro ?_ ?_ <;> conv => whnf)
          all_goals try first | exact ⟨rfl⟩ | exact ⟨⟨rfl, rfl⟩⟩ | exact ⟨⟨rfl, rfl, rfl⟩⟩ | exact ⟨by omega⟩ | exact ⟨⟨by omega, by omega⟩⟩ | exact ⟨⟨by omega, by omega, by omega⟩⟩ | exact ⟨fun _ _ => rfl⟩ | exact ⟨fun k _ => leV_refl _ trivial⟩ | exact ⟨fun k _ => leV_eq (bsn _ _ k) trivial⟩ | exact ⟨⟨rfl, List.length_append.symm, List.length_append.symm⟩⟩ | exact ⟨List.length_append.symm⟩
          · exact ⟨by rw [wrap_id (by omega) (by omega)]; rfl⟩
          · exact ⟨⟨⟨by show i + 1 + r.len = l.len; omega, x2.2, y2, by rw [List.append_assoc]; exact x4, by show pos + t.tk.length + r.tk.length = _; omega⟩, by show r.len < r.len + 1; omega⟩⟩
    · have hi : x.i = l.len := by
        have : ¬ ((x.i : Nat) : Int) < (l.len : Nat) := by simpa using h5
        omega
      have hr : x.rest = .nil := by
        have h6 : x.rest.len = 0 := by omega
        generalize x.rest = q at h6
        cases q with
        | nil => rfl
        | cons t r => simp only [Trs.len] at h6; omega
      rw [hr] at x4 x5
      simp only [Trs.by, Trs.tk, List.append_nil, List.length_nil, Nat.add_zero] at x4 x5
      refine vc_ok hΓ mixed 1000 _ [] _ (by kernel_rfl) rfl ?_
      conv => whnf
      conv => whnf
      repeat' (first | (refine And.intro (fun _ => ?_) (fun _ => ?_) <;> conv => whnf) | (refine And.intro ?_ ?_ <;> conv => whnf))
      · exact ⟨by omega⟩
      · exact ⟨fun _ _ => own_bf _ _⟩
      · refine Ld.st (.cons (LdR.of (congrArg (V.int .i64) ?_)) (.cons (LdR.imm (congrArg List.length x4) fun k _ => ?_) (.cons (LdR.refl _) .nil)))
        · rw [x5]
        · rw [Nat.zero_add, x4]
theorem f80_ok : ∀ k, FOk Tryz.prog G 184 (F80 k)
  | 0 => f80_of 0 (fun _ _ => False) ⟨fun _ _ h => h.elim, fun _ _ h => h.elim⟩ (fun j h => by omega)
  | k + 1 => f80_of (k + 1) (F80 k) (f80_ok k) (fun j h => congrArg F80 (by omega))
structure EnX where
  a : Toks
  t : Tr
def F48 : FSpec := mkG (fun (x : EnX) => [toksV x.a]) (fun x => x.t.ok 6 ∧ At x.a 0 x.t.tk ∧ x.t.by.length ≤ 32768 ∧ x.a.n ≤ 600 ∧ x.a.n = x.t.tk.length) (fun x => x.t.by) (fun r => .tup (.cons (byV false r) (.cons (.bool true) .nil)))
theorem f48_ok : FOk Tryz.prog G 138 F48 := mkG_ok fun x ⟨h1, h2, h3, h4, h5⟩ => by
  have hΓ := ctxG_ok Tryz.f138.ntmps [(184, F80 6)] [] [] (.cons (f80_ok 6) .nil) .nil
  refine CP_of_OK hΓ Tryz.func138 (c := bodyOf Tryz.f138) rfl (by decide) rfl rfl (by simp) (vc_ok hΓ mixed 1000 _ [] _ (by kernel_rfl) rfl ?_)
  conv => whnf
  repeat' (first | (refine And.intro (fun hp => ?_) (fun hp => ?_) <;> first | (exfalso; revert hp; simp <;> omega; done) | conv => whnf) | (refine And.intro ?_ ?_ <;> conv => whnf))
  refine ⟨⟨x.a, 0, x.t⟩, ⟨AE.refl _, AE.refl _, AE.refl _, trivial⟩, ⟨h1, h2, h3, h4, by omega⟩, ?_⟩
  intro w hw
  obtain ⟨w1, w2⟩ := w
  obtain ⟨rfl, rfl⟩ : w1 = 0 + x.t.tk.length ∧ w2 = x.t.by := Prod.mk.inj hw
  conv => whnf
  repeat' (first | (refine And.intro (fun hp => ?_) (fun hp => ?_) <;> first | (exfalso; revert hp; simp <;> omega; done) | conv => whnf) | (refine And.intro ?_ ?_ <;> conv => whnf))
  · exact ⟨fun _ _ => own_bf _ _⟩
  · exact Ld.refl _
end Go.Proofs.YtaihjcpfjgpmoaaGreatDoor

/- The reference: operations, entries, their bytes. -/
namespace Go.Proofs.YtaihjcpfjgpmoaaGreatDoor
set_option linter.unusedVariables false
set_option linter.unusedSimpArgs false
set_option maxRecDepth 100000
open Go Go.DD
theorem AE.tok {l : Bool} {n : Nat} {f : Nat → V} {ts : Nat → Tk} (h : ∀ k, k < n → isTok (f k) (ts k)) : AE (.imm l 3 n f) (.imm l 3 n fun k => tokV (ts k)) := fun _ _ hT => T_imm_tok h hT
def F105c : FSpec := F42
def F106 : FSpec := mkG (fun (e : Ent) => [opV e]) (fun _ => True) opOk .bool
theorem f106_ok : FOk Tryz.prog [] 96 F106 := mkG_ok fun e _ => by
  have hΓ := ctxOk Tryz.f96.ntmps [(95, F42), (135, F112)] [] (FL.all (.cons f105_ok (.cons f112_ok .nil))) (HL.all .nil)
  refine CP_of_OK hΓ Tryz.func96 (c := bodyOf Tryz.f96) rfl (by decide) rfl rfl (by simp) (vc_ok hΓ mixed 1000 _ [] _ (by kernel_rfl) rfl ?_)
  conv => whnf
  repeat' (first | (refine And.intro (fun _ => ?_) (fun _ => ?_) <;> conv => whnf) | (refine And.intro ?_ ?_ <;> conv => whnf))
  refine ⟨((e.key.length : Nat), 1, 16), ⟨AE.refl _, AE.refl _, AE.refl _, trivial⟩, ⟨trivial⟩, ?_⟩
  intro r hr
  replace hr : r = (decide ((1 : Int) ≤ (e.key.length : Nat)) && decide (((e.key.length : Nat) : Int) ≤ 16)) := hr
  conv => whnf
  repeat' (first | (refine And.intro (fun _ => ?_) (fun _ => ?_) <;> conv => whnf) | (refine And.intro ?_ ?_ <;> conv => whnf))
  · rename_i g1
    replace g1 : r = true := g1
    rw [g1] at hr
    have hr := hr.symm
    simp only [Bool.and_eq_true, decide_eq_true_eq] at hr
    refine ⟨.of false e.key, ⟨AE.refl _, trivial⟩, ⟨trivial, by show e.key.length ≤ 1000000; omega⟩, ?_⟩
    intro q hq
    replace hq : q = utf8 e.key := hq
    have k1 : decide (1 ≤ e.key.length) = true := decide_eq_true (by omega)
    have k2 : decide (e.key.length ≤ 16) = true := decide_eq_true (by omega)
    have e1 : opOk e = (q && ((decide (e.kind = 1) && decide (e.val.length ≤ 40)) || (decide (e.kind = 2) && decide (e.val.length = 0)))) := by
      rw [opOk, k1, k2, hq]
      rfl
    rw [e1]
    clear hq e1 hr
    conv => whnf
    repeat' (first | (refine And.intro (fun _ => ?_) (fun _ => ?_) <;> conv => whnf) | (refine And.intro ?_ ?_ <;> conv => whnf))
    all_goals
      simp only [beq_iff_eq, beq_eq_false_iff_ne, ne_eq, decide_eq_true_eq, decide_eq_false_iff_not] at *
      refine Ld.of (congrArg V.bool (boolEq ?_))
      simp_all
      try omega
  · rename_i g1
    replace g1 : r = false := g1
    rw [g1] at hr
    have hr := hr.symm
    simp only [Bool.and_eq_false_iff, decide_eq_false_iff_not] at hr
    refine Ld.of (congrArg V.bool (boolEq ?_))
    simp [opOk]
    omega
theorem f74_ok : FOk Tryz.prog [] 54 (mkG (fun (e : Ent) => [entV e]) wfE entOk .bool) := mkG_ok fun e ⟨w1, w2, w3⟩ => by
  have hΓ := ctxOk Tryz.f54.ntmps [(95, F42), (96, F106)] [] (FL.all (.cons f105_ok (.cons f106_ok .nil))) (HL.all .nil)
  refine CP_of_OK hΓ Tryz.func54 (c := bodyOf Tryz.f54) rfl (by decide) rfl rfl (by simp) (vc_ok hΓ mixed 1000 _ [] _ (by kernel_rfl) rfl ?_)
  conv => whnf
  repeat' (first | (refine And.intro (fun _ => ?_) (fun _ => ?_) <;> conv => whnf) | (refine And.intro ?_ ?_ <;> conv => whnf))
  all_goals try first | exact ⟨rfl⟩ | exact ⟨⟨rfl, rfl⟩⟩ | exact ⟨⟨rfl, rfl, rfl⟩⟩ | exact ⟨fun _ _ => rfl⟩ | exact ⟨fun _ _ => trivial⟩ | exact ⟨fun k _ => isU8_bf _ k⟩ | exact ⟨by omega⟩ | exact ⟨⟨by omega, by omega⟩⟩ | exact ⟨⟨by omega, by omega, by omega⟩⟩
  refine ⟨(e.seq, 1, 200), ⟨AE.refl _, AE.refl _, AE.refl _, trivial⟩, ⟨trivial⟩, ?_⟩
  intro r hr
  replace hr : r = (decide ((1 : Int) ≤ e.seq) && decide (e.seq ≤ 200)) := hr
  have hz := rowEq_zero' w2
  have e1 : entOk e = (r && (!decide (e.seq = 1) || decide (e.prev = List.replicate 32 0)) && decide (0 ≤ e.stamp) && opOk e) := by
    rw [entOk, hr, show rowEq 32 (bf e.prev) (bf []) = _ from rowEq_zero w2]
  rw [e1]
  conv => whnf
  repeat' (first | (refine And.intro (fun _ => ?_) (fun _ => ?_) <;> conv => whnf) | (refine And.intro ?_ ?_ <;> conv => whnf))
  all_goals try first | exact ⟨rfl⟩ | exact ⟨⟨rfl, rfl⟩⟩ | exact ⟨⟨rfl, rfl, rfl⟩⟩ | exact ⟨fun _ _ => rfl⟩ | exact ⟨fun _ _ => trivial⟩ | exact ⟨fun k _ => isU8_bf _ k⟩ | exact ⟨by omega⟩ | exact ⟨⟨by omega, by omega⟩⟩ | exact ⟨⟨by omega, by omega, by omega⟩⟩ | exact ⟨fun _ _ => rfl⟩
  · rename_i g1 g2 g3
    replace g1 : r = true := g1
    simp only [decide_eq_true_eq] at g2 g3
    refine ⟨e, ⟨AE.refl _, trivial⟩, ⟨trivial⟩, ?_⟩
    intro q hq
    replace hq : q = opOk e := hq
    conv => whnf
    repeat' (first | (refine And.intro (fun _ => ?_) (fun _ => ?_) <;> conv => whnf) | (refine And.intro ?_ ?_ <;> conv => whnf))
    refine Ld.of (congrArg V.bool (boolEq ?_))
    rw [← hq]
    simp [g1, g3, show ¬ e.seq = 1 by omega]
  · rename_i g1 g2 g3
    simp only [decide_eq_false_iff_not] at g3
    refine Ld.of (congrArg V.bool (boolEq ?_))
    simp [g3]
  · rename_i g1 g2 g3 g4
    replace g1 : r = true := g1
    replace g3 : (rowEq 32 (bf e.prev) fun _ => .int .u8 0) = true := g3
    rw [hz] at g3
    simp only [decide_eq_true_eq] at g3 g4
    refine ⟨e, ⟨AE.refl _, trivial⟩, ⟨trivial⟩, ?_⟩
    intro q hq
    replace hq : q = opOk e := hq
    conv => whnf
    repeat' (first | (refine And.intro (fun _ => ?_) (fun _ => ?_) <;> conv => whnf) | (refine And.intro ?_ ?_ <;> conv => whnf))
    refine Ld.of (congrArg V.bool (boolEq ?_))
    rw [← hq]
    rw [decide_eq_true g3]
    simp [g1, g4]
  · rename_i g1 g2 g3 g4
    simp only [decide_eq_false_iff_not] at g4
    refine Ld.of (congrArg V.bool (boolEq ?_))
    simp [g4]
  · rename_i g1 g2 g3
    replace g1 : r = true := g1
    replace g3 : (rowEq 32 (bf e.prev) fun _ => .int .u8 0) = false := g3
    rw [hz] at g3
    simp only [decide_eq_false_iff_not] at g2 g3
    have g4 : e.seq = 1 := by
      rw [g1] at hr
      have hr := hr.symm
      simp only [Bool.and_eq_true, decide_eq_true_eq] at hr
      omega
    refine Ld.of (congrArg V.bool (boolEq ?_))
    rw [decide_eq_false g3, decide_eq_true g4]
    simp
  · rename_i g1
    replace g1 : r = false := g1
    refine Ld.of (congrArg V.bool (boolEq ?_))
    simp [g1]
def F74 : FSpec := mkG (fun (e : Ent) => [entV e]) wfE entOk .bool
def F129 : FSpec := F68
theorem f129_ok : FOk Tryz.prog [] 136 F68 := mkF_ok fun n _ Φ h => by
  have hΓ := ctxOk Tryz.f136.ntmps [] [] (FL.all .nil) (HL.all .nil)
  refine CP_of_OK hΓ Tryz.func136 (c := bodyOf Tryz.f136) rfl (by decide) rfl rfl (by simp) (vc_ok hΓ mixed 1000 _ [] _ (by kernel_rfl) rfl ?_)
  conv => whnf
  repeat' (first | (refine And.intro (fun _ => ?_) (fun _ => ?_) <;> conv => whnf) | (refine And.intro ?_ ?_ <;> conv => whnf))
  exact h
theorem f141_ok : FOk Tryz.prog [] 183 F31 := mkF_ok fun n _ Φ h => by
  have hΓ := ctxOk Tryz.f183.ntmps [] [] (FL.all .nil) (HL.all .nil)
  refine CP_of_OK hΓ Tryz.func183 (c := bodyOf Tryz.f183) rfl (by decide) rfl rfl (by simp) (vc_ok hΓ mixed 1000 _ [] _ (by kernel_rfl) rfl ?_)
  conv => whnf
  repeat' (first | (refine And.intro (fun _ => ?_) (fun _ => ?_) <;> conv => whnf) | (refine And.intro ?_ ?_ <;> conv => whnf))
  exact h
theorem c131_ok : CtxOk Tryz.prog (ctx Tryz.f139.ntmps [] []) := ctxOk Tryz.f139.ntmps [] [] (FL.all .nil) (HL.all .nil)
def S131 : SpecH := fun xs h κ => xs.length = 1 ∧ inlineS Tryz.prog (ctx Tryz.f139.ntmps [] []) (bodyOf Tryz.f139) Tryz.f139.results.toList xs h κ
theorem s131_ok : SpecHOk Tryz.prog [] 139 S131 := inline_ok (c := bodyOf Tryz.f139) (np := 1) c131_ok Tryz.func139 rfl (by decide) rfl (by decide)
theorem p131_ok : SpecPOk Tryz.prog [] 139 P32 := mkOS_ok s131_ok (fun a _ => by
  refine ⟨rfl, ?_⟩
  cases a with
  | sl lo len cap =>
    refine vc_ok (CtxOk.inner c131_ok _) mixed 1000 _ [] _ (by kernel_rfl) rfl ?_
    conv => whnf
    refine ⟨[some 0], .st (.cons (.int .i64 3) (.cons (.int .i64 0) (.cons (.sl 0 [] 1 lo len cap) .nil))), noneH 1, ?_⟩
    conv => whnf
    repeat' (refine And.intro ?_ ?_ <;> conv => whnf)
    all_goals try first | exact ⟨rfl⟩ | exact ⟨⟨rfl, rfl⟩⟩ | exact ⟨⟨rfl, rfl, rfl⟩⟩ | exact ⟨by omega⟩ | exact ⟨⟨by omega, by omega⟩⟩ | exact ⟨⟨by omega, by omega, by omega⟩⟩ | exact ⟨fun _ _ => rfl⟩
    all_goals rfl
  | fld k off lo len cap =>
    refine vc_ok (CtxOk.inner c131_ok _) mixed 1000 _ [] _ (by kernel_rfl) rfl ?_
    conv => whnf
    refine ⟨[some 0], .st (.cons (.int .i64 3) (.cons (.int .i64 0) (.cons (.sl 0 [.f k off] 1 lo len cap) .nil))), noneH 1, ?_⟩
    conv => whnf
    repeat' (refine And.intro ?_ ?_ <;> conv => whnf)
    all_goals try first | exact ⟨rfl⟩ | exact ⟨⟨rfl, rfl⟩⟩ | exact ⟨⟨rfl, rfl, rfl⟩⟩ | exact ⟨by omega⟩ | exact ⟨⟨by omega, by omega⟩⟩ | exact ⟨⟨by omega, by omega, by omega⟩⟩ | exact ⟨fun _ _ => rfl⟩
    all_goals rfl
  | imm b n f =>
    refine vc_ok (CtxOk.inner c131_ok _) mixed 1000 _ [] _ (by kernel_rfl) rfl ?_
    conv => whnf
    refine ⟨[], .st (.cons (.int .i64 3) (.cons (.int .i64 0) (.cons (.imm b 1 n f) .nil))), noneH 0, ?_⟩
    conv => whnf
    repeat' (refine And.intro ?_ ?_ <;> conv => whnf)
    all_goals try first | exact ⟨rfl⟩ | exact ⟨⟨rfl, rfl⟩⟩ | exact ⟨⟨rfl, rfl, rfl⟩⟩ | exact ⟨by omega⟩ | exact ⟨⟨by omega, by omega⟩⟩ | exact ⟨⟨by omega, by omega, by omega⟩⟩ | exact ⟨fun _ _ => rfl⟩
    all_goals rfl
  | emp =>
    refine vc_ok (CtxOk.inner c131_ok _) mixed 1000 _ [] _ (by kernel_rfl) rfl ?_
    conv => whnf
    refine ⟨[], .st (.cons (.int .i64 3) (.cons (.int .i64 0) (.cons (.emp) .nil))), noneH 0, ?_⟩
    conv => whnf
    repeat' (refine And.intro ?_ ?_ <;> conv => whnf)
    all_goals try first | exact ⟨rfl⟩ | exact ⟨⟨rfl, rfl⟩⟩ | exact ⟨⟨rfl, rfl, rfl⟩⟩ | exact ⟨by omega⟩ | exact ⟨⟨by omega, by omega⟩⟩ | exact ⟨⟨by omega, by omega, by omega⟩⟩ | exact ⟨fun _ _ => rfl⟩
    all_goals rfl
  ) (fun a => by cases a <;> simp [rok, roks, StrA.v])
theorem c130_ok : CtxOk Tryz.prog (ctxS Tryz.f137.ntmps [(136, F68), (183, F31)] [(139, P32)] [] []) := ctxS_ok _ _ _ _ _ (.cons f129_ok.g (.cons f141_ok.g .nil)) (.cons (pg p131_ok) .nil) .nil
def S130 : SpecH := fun xs h κ => xs.length = 1 ∧ inlineS Tryz.prog (ctxS Tryz.f137.ntmps [(136, F68), (183, F31)] [(139, P32)] [] []) (bodyOf Tryz.f137) Tryz.f137.results.toList xs h κ
theorem s130_ok : SpecHOk Tryz.prog G 137 S130 := inline_ok (c := bodyOf Tryz.f137) (np := 1) c130_ok Tryz.func137 rfl (by decide) rfl (by decide)
def F107 : FSpec := mkG (fun (e : Ent) => [entV e]) (fun e => preE e ∧ entOk e = true) (fun e => (entTr e).by) (byV false)
set_option maxHeartbeats 1000000 in
theorem f107_ok : FOk Tryz.prog G 97 F107 := mkG_ok fun e ⟨⟨hw, hst⟩, hok⟩ => by
  have hΓ : CtxOk Tryz.prog (ctxS Tryz.f97.ntmps [(136, F68), (138, F48)] [(139, P32)] [(137, S130)] [(1, .one 0 (.many (.cons 1 (.one 2 (.one 3 (.one 4 (.one 5 (.done))))) (.cons 2 (.many (.cons 1 (.one 3 (.one 4 (.one 5 (.done)))) (.cons 3 (.one 1 (.one 4 (.one 5 (.done)))) (.nil)))) (.nil)))))]) := ctxS_ok _ _ _ _ _ (.cons f129_ok.g (.cons f48_ok .nil)) (.cons (pg p131_ok) .nil) (.cons s130_ok .nil)
  refine CP_of_OK hΓ Tryz.func97 (c := bodyOf Tryz.f97) rfl (by decide) rfl rfl (by simp) (vc_ok hΓ mixed 1000 _ [] _ (by kernel_rfl) rfl ?_)
  conv => whnf
  refine ⟨7, rfl, ⟨trivial⟩, ?_⟩
  conv => whnf
  repeat' (first | (refine And.intro (fun _ => ?_) (fun _ => ?_) <;> conv => whnf) | (refine And.intro ?_ ?_ <;> conv => whnf))
  all_goals try exact trivial
  all_goals try exact rfl
  · refine vc_ok (CtxOk.inner c130_ok _) mixed 1000 _ [] _ (by kernel_rfl) rfl ?_
    conv => whnf
    refine ⟨1, rfl, ⟨trivial⟩, ?_⟩
    conv => whnf
    repeat' (first | (refine And.intro (fun _ => ?_) (fun _ => ?_) <;> conv => whnf) | (refine And.intro ?_ ?_ <;> conv => whnf))
    all_goals try first | exact ⟨rfl⟩ | exact ⟨⟨rfl, rfl⟩⟩ | exact ⟨⟨rfl, rfl, rfl⟩⟩ | exact ⟨by omega⟩ | exact ⟨⟨by omega, by omega⟩⟩ | exact ⟨⟨by omega, by omega, by omega⟩⟩ | exact ⟨trivial⟩
    refine ⟨.fld 0 0 0 32 32, [some 2], ?_⟩
    conv => whnf
    repeat' (first | (refine And.intro (fun _ => ?_) (fun _ => ?_) <;> conv => whnf) | (refine And.intro ?_ ?_ <;> conv => whnf))
    all_goals try first | exact ⟨rfl⟩ | exact ⟨⟨rfl, rfl⟩⟩ | exact ⟨⟨rfl, rfl, rfl⟩⟩ | exact ⟨by omega⟩ | exact ⟨⟨by omega, by omega⟩⟩ | exact ⟨⟨by omega, by omega, by omega⟩⟩ | exact ⟨trivial⟩
    refine ⟨e.seq, rfl, ⟨trivial⟩, ?_⟩
    conv => whnf
    repeat' (first | (refine And.intro (fun _ => ?_) (fun _ => ?_) <;> conv => whnf) | (refine And.intro ?_ ?_ <;> conv => whnf))
    all_goals try first | exact ⟨rfl⟩ | exact ⟨⟨rfl, rfl⟩⟩ | exact ⟨⟨rfl, rfl, rfl⟩⟩ | exact ⟨by omega⟩ | exact ⟨⟨by omega, by omega⟩⟩ | exact ⟨⟨by omega, by omega, by omega⟩⟩ | exact ⟨trivial⟩
    refine ⟨.fld 2 33 0 32 32, [some 2], ?_⟩
    conv => whnf
    repeat' (first | (refine And.intro (fun _ => ?_) (fun _ => ?_) <;> conv => whnf) | (refine And.intro ?_ ?_ <;> conv => whnf))
    all_goals try first | exact ⟨rfl⟩ | exact ⟨⟨rfl, rfl⟩⟩ | exact ⟨⟨rfl, rfl, rfl⟩⟩ | exact ⟨by omega⟩ | exact ⟨⟨by omega, by omega⟩⟩ | exact ⟨⟨by omega, by omega, by omega⟩⟩ | exact ⟨trivial⟩
    refine ⟨e.stamp, rfl, ⟨trivial⟩, ?_⟩
    conv => whnf
    repeat' (first | (refine And.intro (fun _ => ?_) (fun _ => ?_) <;> conv => whnf) | (refine And.intro ?_ ?_ <;> conv => whnf))
    all_goals try first | exact ⟨rfl⟩ | exact ⟨⟨rfl, rfl⟩⟩ | exact ⟨⟨rfl, rfl, rfl⟩⟩ | exact ⟨by omega⟩ | exact ⟨⟨by omega, by omega⟩⟩ | exact ⟨⟨by omega, by omega, by omega⟩⟩ | exact ⟨trivial⟩
    refine ⟨3, rfl, ⟨trivial⟩, ?_⟩
    conv => whnf
    repeat' (first | (refine And.intro (fun _ => ?_) (fun _ => ?_) <;> conv => whnf) | (refine And.intro ?_ ?_ <;> conv => whnf))
    all_goals try first | exact ⟨rfl⟩ | exact ⟨⟨rfl, rfl⟩⟩ | exact ⟨⟨rfl, rfl, rfl⟩⟩ | exact ⟨by omega⟩ | exact ⟨⟨by omega, by omega⟩⟩ | exact ⟨⟨by omega, by omega, by omega⟩⟩ | exact ⟨trivial⟩
    refine ⟨e.kind, rfl, ⟨trivial⟩, ?_⟩
    conv => whnf
    repeat' (first | (refine And.intro (fun _ => ?_) (fun _ => ?_) <;> conv => whnf) | (refine And.intro ?_ ?_ <;> conv => whnf))
    all_goals try first | exact ⟨rfl⟩ | exact ⟨⟨rfl, rfl⟩⟩ | exact ⟨⟨rfl, rfl, rfl⟩⟩ | exact ⟨by omega⟩ | exact ⟨⟨by omega, by omega⟩⟩ | exact ⟨⟨by omega, by omega, by omega⟩⟩ | exact ⟨trivial⟩
    refine ⟨.imm false e.val.length (bf e.val), [], ?_⟩
    conv => whnf
    repeat' (first | (refine And.intro (fun _ => ?_) (fun _ => ?_) <;> conv => whnf) | (refine And.intro ?_ ?_ <;> conv => whnf))
    all_goals try first | exact ⟨rfl⟩ | exact ⟨⟨rfl, rfl⟩⟩ | exact ⟨⟨rfl, rfl, rfl⟩⟩ | exact ⟨by omega⟩ | exact ⟨⟨by omega, by omega⟩⟩ | exact ⟨⟨by omega, by omega, by omega⟩⟩ | exact ⟨fun _ _ => rfl⟩ | exact ⟨trivial⟩
    refine Or.inl ?_
    conv => whnf
    repeat' (first | (refine And.intro (fun _ => ?_) (fun _ => ?_) <;> conv => whnf) | (refine And.intro ?_ ?_ <;> conv => whnf))
    all_goals try first | exact ⟨rfl⟩ | exact ⟨⟨rfl, rfl⟩⟩ | exact ⟨⟨rfl, rfl, rfl⟩⟩ | exact ⟨by omega⟩ | exact ⟨⟨by omega, by omega⟩⟩ | exact ⟨⟨by omega, by omega, by omega⟩⟩ | exact ⟨⟨by decide, by decide⟩⟩
    refine ⟨.fld 5 69 0 64 64, [some 0], ?_⟩
    conv => whnf
    repeat' (first | (refine And.intro (fun _ => ?_) (fun _ => ?_) <;> conv => whnf) | (refine And.intro ?_ ?_ <;> conv => whnf))
    all_goals try first | exact ⟨rfl⟩ | exact ⟨⟨rfl, rfl⟩⟩ | exact ⟨⟨rfl, rfl, rfl⟩⟩ | exact ⟨by omega⟩ | exact ⟨⟨by omega, by omega⟩⟩ | exact ⟨⟨by omega, by omega, by omega⟩⟩ | exact ⟨trivial⟩
    refine Or.inl ?_
    conv => whnf
    repeat' (first | (refine And.intro (fun _ => ?_) (fun _ => ?_) <;> conv => whnf) | (refine And.intro ?_ ?_ <;> conv => whnf))
    all_goals try first | exact ⟨rfl⟩ | exact ⟨⟨rfl, rfl⟩⟩ | exact ⟨⟨rfl, rfl, rfl⟩⟩ | exact ⟨by omega⟩ | exact ⟨⟨by omega, by omega⟩⟩ | exact ⟨⟨by omega, by omega, by omega⟩⟩ | exact ⟨⟨by decide, by decide⟩⟩
    · refine ⟨?_⟩
      refine (lt_step ?_ (lt_step ?_ (lt_step ?_ (lt_step ?_ (lt_step ?_ (lt_step ?_ (lt_step ?_ (lt_step ?_ (lt_step ?_ (lt_step ?_ (lt_step ?_ lt_zero)))))))))))
      all_goals (conv => whnf)
      all_goals (repeat' (refine And.intro ?_ ?_ <;> conv => whnf))
      all_goals first
        | trivial
        | exact ⟨⟨rfl, by decide⟩⟩
        | exact ⟨fun _ _ => trivial⟩
    refine ⟨⟨entToks e, entTr e⟩, ⟨AE.tok (n := 11) ?_, trivial⟩, ⟨entTr_ok hw hok 4, entTr_at e, by have := entTr_len hw hok; show (entTr e).by.length ≤ 32768; omega, by show 11 ≤ 600; omega, rfl⟩, ?_⟩
    · refine (lt_step ?_ (lt_step ?_ (lt_step ?_ (lt_step ?_ (lt_step ?_ (lt_step ?_ (lt_step ?_ (lt_step ?_ (lt_step ?_ (lt_step ?_ (lt_step ?_ lt_zero)))))))))))
      · exact .inl (Eq.trans rfl (tok_arr hw.2.2))
      · exact .inl rfl
      · exact .inl rfl
      · exact .inr ⟨rfl, rfl⟩
      · exact .inr ⟨rfl, rfl⟩
      · exact .inr ⟨rfl, rfl⟩
      · exact .inl (Eq.trans rfl (tok_arr hw.2.1))
      · exact .inr ⟨rfl, rfl⟩
      · exact .inl (Eq.trans rfl (tok_arr hw.1))
      · exact .inr ⟨rfl, rfl⟩
      · exact .inr ⟨rfl, rfl⟩
    intro r hr
    replace hr : r = (entTr e).by := hr
    rw [← hr]
    conv => whnf
    repeat' (first | (refine And.intro (fun _ => ?_) (fun _ => ?_) <;> conv => whnf) | (refine And.intro ?_ ?_ <;> conv => whnf))
    · exact ⟨fun _ _ => own_bf _ _⟩
    · exact Ld.refl _
  · refine vc_ok (CtxOk.inner c130_ok _) mixed 1000 _ [] _ (by kernel_rfl) rfl ?_
    conv => whnf
    refine ⟨1, rfl, ⟨trivial⟩, ?_⟩
    conv => whnf
    repeat' (first | (refine And.intro (fun _ => ?_) (fun _ => ?_) <;> conv => whnf) | (refine And.intro ?_ ?_ <;> conv => whnf))
    all_goals try first | exact ⟨rfl⟩ | exact ⟨⟨rfl, rfl⟩⟩ | exact ⟨⟨rfl, rfl, rfl⟩⟩ | exact ⟨by omega⟩ | exact ⟨⟨by omega, by omega⟩⟩ | exact ⟨⟨by omega, by omega, by omega⟩⟩ | exact ⟨trivial⟩
    refine ⟨.fld 0 0 0 32 32, [some 2], ?_⟩
    conv => whnf
    repeat' (first | (refine And.intro (fun _ => ?_) (fun _ => ?_) <;> conv => whnf) | (refine And.intro ?_ ?_ <;> conv => whnf))
    all_goals try first | exact ⟨rfl⟩ | exact ⟨⟨rfl, rfl⟩⟩ | exact ⟨⟨rfl, rfl, rfl⟩⟩ | exact ⟨by omega⟩ | exact ⟨⟨by omega, by omega⟩⟩ | exact ⟨⟨by omega, by omega, by omega⟩⟩ | exact ⟨trivial⟩
    refine ⟨e.seq, rfl, ⟨trivial⟩, ?_⟩
    conv => whnf
    repeat' (first | (refine And.intro (fun _ => ?_) (fun _ => ?_) <;> conv => whnf) | (refine And.intro ?_ ?_ <;> conv => whnf))
    all_goals try first | exact ⟨rfl⟩ | exact ⟨⟨rfl, rfl⟩⟩ | exact ⟨⟨rfl, rfl, rfl⟩⟩ | exact ⟨by omega⟩ | exact ⟨⟨by omega, by omega⟩⟩ | exact ⟨⟨by omega, by omega, by omega⟩⟩ | exact ⟨trivial⟩
    refine ⟨.fld 2 33 0 32 32, [some 2], ?_⟩
    conv => whnf
    repeat' (first | (refine And.intro (fun _ => ?_) (fun _ => ?_) <;> conv => whnf) | (refine And.intro ?_ ?_ <;> conv => whnf))
    all_goals try first | exact ⟨rfl⟩ | exact ⟨⟨rfl, rfl⟩⟩ | exact ⟨⟨rfl, rfl, rfl⟩⟩ | exact ⟨by omega⟩ | exact ⟨⟨by omega, by omega⟩⟩ | exact ⟨⟨by omega, by omega, by omega⟩⟩ | exact ⟨trivial⟩
    refine ⟨e.stamp, rfl, ⟨trivial⟩, ?_⟩
    conv => whnf
    repeat' (first | (refine And.intro (fun _ => ?_) (fun _ => ?_) <;> conv => whnf) | (refine And.intro ?_ ?_ <;> conv => whnf))
    all_goals try first | exact ⟨rfl⟩ | exact ⟨⟨rfl, rfl⟩⟩ | exact ⟨⟨rfl, rfl, rfl⟩⟩ | exact ⟨by omega⟩ | exact ⟨⟨by omega, by omega⟩⟩ | exact ⟨⟨by omega, by omega, by omega⟩⟩ | exact ⟨trivial⟩
    refine ⟨3, rfl, ⟨trivial⟩, ?_⟩
    conv => whnf
    repeat' (first | (refine And.intro (fun _ => ?_) (fun _ => ?_) <;> conv => whnf) | (refine And.intro ?_ ?_ <;> conv => whnf))
    all_goals try first | exact ⟨rfl⟩ | exact ⟨⟨rfl, rfl⟩⟩ | exact ⟨⟨rfl, rfl, rfl⟩⟩ | exact ⟨by omega⟩ | exact ⟨⟨by omega, by omega⟩⟩ | exact ⟨⟨by omega, by omega, by omega⟩⟩ | exact ⟨trivial⟩
    refine ⟨e.kind, rfl, ⟨trivial⟩, ?_⟩
    conv => whnf
    repeat' (first | (refine And.intro (fun _ => ?_) (fun _ => ?_) <;> conv => whnf) | (refine And.intro ?_ ?_ <;> conv => whnf))
    all_goals try first | exact ⟨rfl⟩ | exact ⟨⟨rfl, rfl⟩⟩ | exact ⟨⟨rfl, rfl, rfl⟩⟩ | exact ⟨by omega⟩ | exact ⟨⟨by omega, by omega⟩⟩ | exact ⟨⟨by omega, by omega, by omega⟩⟩ | exact ⟨trivial⟩
    refine ⟨.imm false e.val.length (bf e.val), [], ?_⟩
    conv => whnf
    repeat' (first | (refine And.intro (fun _ => ?_) (fun _ => ?_) <;> conv => whnf) | (refine And.intro ?_ ?_ <;> conv => whnf))
    all_goals try first | exact ⟨rfl⟩ | exact ⟨⟨rfl, rfl⟩⟩ | exact ⟨⟨rfl, rfl, rfl⟩⟩ | exact ⟨by omega⟩ | exact ⟨⟨by omega, by omega⟩⟩ | exact ⟨⟨by omega, by omega, by omega⟩⟩ | exact ⟨fun _ _ => rfl⟩ | exact ⟨trivial⟩
    refine Or.inl ?_
    conv => whnf
    repeat' (first | (refine And.intro (fun _ => ?_) (fun _ => ?_) <;> conv => whnf) | (refine And.intro ?_ ?_ <;> conv => whnf))
    all_goals try first | exact ⟨rfl⟩ | exact ⟨⟨rfl, rfl⟩⟩ | exact ⟨⟨rfl, rfl, rfl⟩⟩ | exact ⟨by omega⟩ | exact ⟨⟨by omega, by omega⟩⟩ | exact ⟨⟨by omega, by omega, by omega⟩⟩ | exact ⟨⟨by decide, by decide⟩⟩
    refine ⟨.fld 5 69 0 64 64, [some 0], ?_⟩
    conv => whnf
    repeat' (first | (refine And.intro (fun _ => ?_) (fun _ => ?_) <;> conv => whnf) | (refine And.intro ?_ ?_ <;> conv => whnf))
    all_goals try first | exact ⟨rfl⟩ | exact ⟨⟨rfl, rfl⟩⟩ | exact ⟨⟨rfl, rfl, rfl⟩⟩ | exact ⟨by omega⟩ | exact ⟨⟨by omega, by omega⟩⟩ | exact ⟨⟨by omega, by omega, by omega⟩⟩ | exact ⟨trivial⟩
    refine Or.inl ?_
    conv => whnf
    repeat' (first | (refine And.intro (fun _ => ?_) (fun _ => ?_) <;> conv => whnf) | (refine And.intro ?_ ?_ <;> conv => whnf))
    all_goals try first | exact ⟨rfl⟩ | exact ⟨⟨rfl, rfl⟩⟩ | exact ⟨⟨rfl, rfl, rfl⟩⟩ | exact ⟨by omega⟩ | exact ⟨⟨by omega, by omega⟩⟩ | exact ⟨⟨by omega, by omega, by omega⟩⟩ | exact ⟨⟨by decide, by decide⟩⟩
    · refine ⟨?_⟩
      refine (lt_step ?_ (lt_step ?_ (lt_step ?_ (lt_step ?_ (lt_step ?_ (lt_step ?_ (lt_step ?_ (lt_step ?_ (lt_step ?_ (lt_step ?_ (lt_step ?_ lt_zero)))))))))))
      all_goals (conv => whnf)
      all_goals (repeat' (refine And.intro ?_ ?_ <;> conv => whnf))
      all_goals first
        | trivial
        | exact ⟨⟨rfl, by decide⟩⟩
        | exact ⟨fun _ _ => trivial⟩
    refine ⟨⟨entToks e, entTr e⟩, ⟨AE.tok (n := 11) ?_, trivial⟩, ⟨entTr_ok hw hok 4, entTr_at e, by have := entTr_len hw hok; show (entTr e).by.length ≤ 32768; omega, by show 11 ≤ 600; omega, rfl⟩, ?_⟩
    · refine (lt_step ?_ (lt_step ?_ (lt_step ?_ (lt_step ?_ (lt_step ?_ (lt_step ?_ (lt_step ?_ (lt_step ?_ (lt_step ?_ (lt_step ?_ (lt_step ?_ lt_zero)))))))))))
      · exact .inl (Eq.trans rfl (tok_arr hw.2.2))
      · exact .inl rfl
      · exact .inl rfl
      · exact .inr ⟨rfl, rfl⟩
      · exact .inr ⟨rfl, rfl⟩
      · exact .inr ⟨rfl, rfl⟩
      · exact .inl (Eq.trans rfl (tok_arr hw.2.1))
      · exact .inr ⟨rfl, rfl⟩
      · exact .inl (Eq.trans rfl (tok_arr hw.1))
      · exact .inr ⟨rfl, rfl⟩
      · exact .inr ⟨rfl, rfl⟩
    intro r hr
    replace hr : r = (entTr e).by := hr
    rw [← hr]
    conv => whnf
    repeat' (first | (refine And.intro (fun _ => ?_) (fun _ => ?_) <;> conv => whnf) | (refine And.intro ?_ ?_ <;> conv => whnf))
    · exact ⟨fun _ _ => own_bf _ _⟩
    · exact Ld.refl _
  · refine vc_ok (CtxOk.inner c130_ok _) mixed 1000 _ [] _ (by kernel_rfl) rfl ?_
    conv => whnf
    refine ⟨1, rfl, ⟨trivial⟩, ?_⟩
    conv => whnf
    repeat' (first | (refine And.intro (fun _ => ?_) (fun _ => ?_) <;> conv => whnf) | (refine And.intro ?_ ?_ <;> conv => whnf))
    all_goals try first | exact ⟨rfl⟩ | exact ⟨⟨rfl, rfl⟩⟩ | exact ⟨⟨rfl, rfl, rfl⟩⟩ | exact ⟨by omega⟩ | exact ⟨⟨by omega, by omega⟩⟩ | exact ⟨⟨by omega, by omega, by omega⟩⟩ | exact ⟨trivial⟩
    refine ⟨.fld 0 0 0 32 32, [some 1], ?_⟩
    conv => whnf
    repeat' (first | (refine And.intro (fun _ => ?_) (fun _ => ?_) <;> conv => whnf) | (refine And.intro ?_ ?_ <;> conv => whnf))
    all_goals try first | exact ⟨rfl⟩ | exact ⟨⟨rfl, rfl⟩⟩ | exact ⟨⟨rfl, rfl, rfl⟩⟩ | exact ⟨by omega⟩ | exact ⟨⟨by omega, by omega⟩⟩ | exact ⟨⟨by omega, by omega, by omega⟩⟩ | exact ⟨trivial⟩
    refine ⟨e.seq, rfl, ⟨trivial⟩, ?_⟩
    conv => whnf
    repeat' (first | (refine And.intro (fun _ => ?_) (fun _ => ?_) <;> conv => whnf) | (refine And.intro ?_ ?_ <;> conv => whnf))
    all_goals try first | exact ⟨rfl⟩ | exact ⟨⟨rfl, rfl⟩⟩ | exact ⟨⟨rfl, rfl, rfl⟩⟩ | exact ⟨by omega⟩ | exact ⟨⟨by omega, by omega⟩⟩ | exact ⟨⟨by omega, by omega, by omega⟩⟩ | exact ⟨trivial⟩
    refine ⟨.fld 2 33 0 32 32, [some 1], ?_⟩
    conv => whnf
    repeat' (first | (refine And.intro (fun _ => ?_) (fun _ => ?_) <;> conv => whnf) | (refine And.intro ?_ ?_ <;> conv => whnf))
    all_goals try first | exact ⟨rfl⟩ | exact ⟨⟨rfl, rfl⟩⟩ | exact ⟨⟨rfl, rfl, rfl⟩⟩ | exact ⟨by omega⟩ | exact ⟨⟨by omega, by omega⟩⟩ | exact ⟨⟨by omega, by omega, by omega⟩⟩ | exact ⟨trivial⟩
    refine ⟨e.stamp, rfl, ⟨trivial⟩, ?_⟩
    conv => whnf
    repeat' (first | (refine And.intro (fun _ => ?_) (fun _ => ?_) <;> conv => whnf) | (refine And.intro ?_ ?_ <;> conv => whnf))
    all_goals try first | exact ⟨rfl⟩ | exact ⟨⟨rfl, rfl⟩⟩ | exact ⟨⟨rfl, rfl, rfl⟩⟩ | exact ⟨by omega⟩ | exact ⟨⟨by omega, by omega⟩⟩ | exact ⟨⟨by omega, by omega, by omega⟩⟩ | exact ⟨trivial⟩
    refine ⟨3, rfl, ⟨trivial⟩, ?_⟩
    conv => whnf
    repeat' (first | (refine And.intro (fun _ => ?_) (fun _ => ?_) <;> conv => whnf) | (refine And.intro ?_ ?_ <;> conv => whnf))
    all_goals try first | exact ⟨rfl⟩ | exact ⟨⟨rfl, rfl⟩⟩ | exact ⟨⟨rfl, rfl, rfl⟩⟩ | exact ⟨by omega⟩ | exact ⟨⟨by omega, by omega⟩⟩ | exact ⟨⟨by omega, by omega, by omega⟩⟩ | exact ⟨trivial⟩
    refine ⟨e.kind, rfl, ⟨trivial⟩, ?_⟩
    conv => whnf
    repeat' (first | (refine And.intro (fun _ => ?_) (fun _ => ?_) <;> conv => whnf) | (refine And.intro ?_ ?_ <;> conv => whnf))
    all_goals try first | exact ⟨rfl⟩ | exact ⟨⟨rfl, rfl⟩⟩ | exact ⟨⟨rfl, rfl, rfl⟩⟩ | exact ⟨by omega⟩ | exact ⟨⟨by omega, by omega⟩⟩ | exact ⟨⟨by omega, by omega, by omega⟩⟩ | exact ⟨trivial⟩
    refine ⟨.imm false e.val.length (bf e.val), [], ?_⟩
    conv => whnf
    repeat' (first | (refine And.intro (fun _ => ?_) (fun _ => ?_) <;> conv => whnf) | (refine And.intro ?_ ?_ <;> conv => whnf))
    all_goals try first | exact ⟨rfl⟩ | exact ⟨⟨rfl, rfl⟩⟩ | exact ⟨⟨rfl, rfl, rfl⟩⟩ | exact ⟨by omega⟩ | exact ⟨⟨by omega, by omega⟩⟩ | exact ⟨⟨by omega, by omega, by omega⟩⟩ | exact ⟨fun _ _ => rfl⟩ | exact ⟨trivial⟩
    refine Or.inl ?_
    conv => whnf
    repeat' (first | (refine And.intro (fun _ => ?_) (fun _ => ?_) <;> conv => whnf) | (refine And.intro ?_ ?_ <;> conv => whnf))
    all_goals try first | exact ⟨rfl⟩ | exact ⟨⟨rfl, rfl⟩⟩ | exact ⟨⟨rfl, rfl, rfl⟩⟩ | exact ⟨by omega⟩ | exact ⟨⟨by omega, by omega⟩⟩ | exact ⟨⟨by omega, by omega, by omega⟩⟩ | exact ⟨⟨by decide, by decide⟩⟩
    refine ⟨.fld 5 69 0 64 64, [some 0], ?_⟩
    conv => whnf
    repeat' (first | (refine And.intro (fun _ => ?_) (fun _ => ?_) <;> conv => whnf) | (refine And.intro ?_ ?_ <;> conv => whnf))
    all_goals try first | exact ⟨rfl⟩ | exact ⟨⟨rfl, rfl⟩⟩ | exact ⟨⟨rfl, rfl, rfl⟩⟩ | exact ⟨by omega⟩ | exact ⟨⟨by omega, by omega⟩⟩ | exact ⟨⟨by omega, by omega, by omega⟩⟩ | exact ⟨trivial⟩
    refine Or.inl ?_
    conv => whnf
    repeat' (first | (refine And.intro (fun _ => ?_) (fun _ => ?_) <;> conv => whnf) | (refine And.intro ?_ ?_ <;> conv => whnf))
    all_goals try first | exact ⟨rfl⟩ | exact ⟨⟨rfl, rfl⟩⟩ | exact ⟨⟨rfl, rfl, rfl⟩⟩ | exact ⟨by omega⟩ | exact ⟨⟨by omega, by omega⟩⟩ | exact ⟨⟨by omega, by omega, by omega⟩⟩ | exact ⟨⟨by decide, by decide⟩⟩
    · refine ⟨?_⟩
      refine (lt_step ?_ (lt_step ?_ (lt_step ?_ (lt_step ?_ (lt_step ?_ (lt_step ?_ (lt_step ?_ (lt_step ?_ (lt_step ?_ (lt_step ?_ (lt_step ?_ lt_zero)))))))))))
      all_goals (conv => whnf)
      all_goals (repeat' (refine And.intro ?_ ?_ <;> conv => whnf))
      all_goals first
        | trivial
        | exact ⟨⟨rfl, by decide⟩⟩
        | exact ⟨fun _ _ => trivial⟩
    refine ⟨⟨entToks e, entTr e⟩, ⟨AE.tok (n := 11) ?_, trivial⟩, ⟨entTr_ok hw hok 4, entTr_at e, by have := entTr_len hw hok; show (entTr e).by.length ≤ 32768; omega, by show 11 ≤ 600; omega, rfl⟩, ?_⟩
    · refine (lt_step ?_ (lt_step ?_ (lt_step ?_ (lt_step ?_ (lt_step ?_ (lt_step ?_ (lt_step ?_ (lt_step ?_ (lt_step ?_ (lt_step ?_ (lt_step ?_ lt_zero)))))))))))
      · exact .inl (Eq.trans rfl (tok_arr hw.2.2))
      · exact .inl rfl
      · exact .inl rfl
      · exact .inr ⟨rfl, rfl⟩
      · exact .inr ⟨rfl, rfl⟩
      · exact .inr ⟨rfl, rfl⟩
      · exact .inl (Eq.trans rfl (tok_arr hw.2.1))
      · exact .inr ⟨rfl, rfl⟩
      · exact .inl (Eq.trans rfl (tok_arr hw.1))
      · exact .inr ⟨rfl, rfl⟩
      · exact .inr ⟨rfl, rfl⟩
    intro r hr
    replace hr : r = (entTr e).by := hr
    rw [← hr]
    conv => whnf
    repeat' (first | (refine And.intro (fun _ => ?_) (fun _ => ?_) <;> conv => whnf) | (refine And.intro ?_ ?_ <;> conv => whnf))
    · exact ⟨fun _ _ => own_bf _ _⟩
    · exact Ld.refl _
end Go.Proofs.YtaihjcpfjgpmoaaGreatDoor

/- The reference: SHA-256. -/
namespace Go.Proofs.YtaihjcpfjgpmoaaGreatDoor
set_option linter.unusedVariables false
set_option linter.unusedSimpArgs false
set_option maxRecDepth 100000
open Go Go.DD
def F84 : FSpec := mkG (fun (a : UInt32 × Int) => [u32 a.1, .int .i64 a.2]) (fun _ => True) (fun a => rotl a.1 (IntKind.i64.wrap (0 - a.2))) u32
def F113c : FSpec := mkG (fun (a : UInt32 × Int) => [u32 a.1, .int .i64 a.2]) (fun _ => True) (fun a => rotl a.1 a.2) u32
theorem f113c_ok : FOk Tryz.prog [] 118 F113c := mkG_of f113_ok
theorem f84_ok : FOk Tryz.prog [] 75 F84 := mkG_ok fun a _ => by
  have hΓ := ctxOk Tryz.f75.ntmps [(118, F113c)] [] (FL.all (.cons f113c_ok .nil)) (HL.all .nil)
  refine CP_of_OK hΓ Tryz.func75 (c := bodyOf Tryz.f75) rfl (by decide) rfl rfl (by simp) (vc_ok hΓ mixed 1000 _ [] _ (by kernel_rfl) rfl ?_)
  conv => whnf
  repeat' (first | (refine And.intro (fun _ => ?_) (fun _ => ?_) <;> conv => whnf) | (refine And.intro ?_ ?_ <;> conv => whnf))
  refine ⟨(a.1, IntKind.i64.wrap (0 - a.2)), ⟨AE.refl _, AE.refl _, trivial⟩, ⟨trivial⟩, ?_⟩
  intro r hr
  conv => whnf
  repeat' (first | (refine And.intro (fun _ => ?_) (fun _ => ?_) <;> conv => whnf) | (refine And.intro ?_ ?_ <;> conv => whnf))
  rw [hr]
  exact Ld.refl _
def F82 : FSpec := mkG (fun (a : Unit) => []) (fun _ => True) (fun _ => k256) (fun r => .row 1 64 (wV (gw r)))
theorem f82_ok : FOk Tryz.prog [] 73 F82 := mkG_ok fun a _ => by
  have hΓ := ctxOk Tryz.f73.ntmps [] [] (FL.all .nil) (HL.all .nil)
  refine CP_of_OK hΓ Tryz.func73 (c := bodyOf Tryz.f73) rfl (by decide) rfl rfl (by simp) (vc_ok hΓ mixed 1000 _ [] _ (by kernel_rfl) rfl ?_)
  conv => whnf
  repeat' (first | (refine And.intro (fun _ => ?_) (fun _ => ?_) <;> conv => whnf) | (refine And.intro ?_ ?_ <;> conv => whnf))
  · refine ⟨?_⟩
    repeat (refine lt_step trivial ?_)
    exact lt_zero
  · refine Ld.row ?_
    repeat (refine lt_step rfl ?_)
    exact lt_zero
theorem bf_snoc {l : List UInt8} {c : UInt8} {m : List (Option Nat)} {F : Nat → V} (h1 : ∀ k, k < l.length → F k = bf l k) (h2 : F l.length = .int .u8 (c.toNat : Nat)) : ∀ k, k < l.length + 1 → leV m (F k) (bf (l ++ [c]) k) := fun k hk => leV_eq (by
  rcases Nat.lt_or_ge k l.length with h | h
  · rw [h1 k h, bf_lt _ _ h]
  · obtain rfl : k = l.length := by omega
    rw [h2, bf_at]) trivial
def F83 : FSpec := mkG (fun (a : By) => [a.v, .int .i64 64, .int .i64 8]) okB (fun a => lastL a.l a.l.length) (byV false)
theorem len_byte' {n i : Nat} (hn : n ≤ 1000000) (hi : i < 8) : IntKind.u8.wrap (shrI .u64 (n * 8 : Nat) (IntKind.u64.wrap (8 * IntKind.u64.wrap (7 - (i : Int))))) = ((lenB n (7 - i)).toNat : Nat) := by
  have h3 : (IntKind.u64.wrap (8 * IntKind.u64.wrap (7 - (i : Int)))).toNat = 8 * (7 - i) := by rw [IntKind.wrap_u64, IntKind.wrap_u64]; omega
  simp only [shrI, h3, IntKind.bits]
  rw [Nat.min_eq_left (by omega), Int.fdiv_eq_ediv_of_nonneg _ (by exact Int.le_of_lt (Int.pow_pos (by decide))), IntKind.wrap_u8, lenB, UInt8.toNat_ofNat']
  have : (((n * 8 : Nat) : Int) / 2 ^ (8 * (7 - i))) = ((n * 8 / 2 ^ (8 * (7 - i)) : Nat) : Int) := by simp
  rw [this]
  omega
theorem zerosN_lt (n : Nat) : zerosN n < 64 := Nat.mod_lt _ (by decide)
theorem f83_ok : FOk Tryz.prog [] 74 F83 := mkG_ok fun a ⟨ha, hn⟩ => by
  refine CP.by1 ha ?_
  generalize a.l = l at hn
  generalize a.b = b
  have hΓ := ctxOk Tryz.f74.ntmps [] [] (FL.all .nil) (HL.all .nil)
  refine CP_of_OK hΓ Tryz.func74 (c := bodyOf Tryz.f74) rfl (by decide) rfl rfl (by simp) (vc_ok hΓ mixed 1000 _ [] _ (by kernel_rfl) rfl ?_)
  conv => whnf
  repeat' (first | (refine And.intro (fun _ => ?_) (fun _ => ?_) <;> conv => whnf) | (refine And.intro ?_ ?_ <;> conv => whnf))
  all_goals try first | exact ⟨rfl⟩ | exact ⟨⟨rfl, rfl⟩⟩ | exact ⟨⟨rfl, rfl, rfl⟩⟩ | exact ⟨by omega⟩ | exact ⟨⟨by omega, by omega⟩⟩ | exact ⟨⟨by omega, by omega, by omega⟩⟩
  refine Or.inl ?_
  conv => whnf
  repeat' (first | (refine And.intro (fun _ => ?_) (fun _ => ?_) <;> conv => whnf) | (refine And.intro ?_ ?_ <;> conv => whnf))
  all_goals try first | exact ⟨rfl⟩ | exact ⟨⟨rfl, rfl⟩⟩ | exact ⟨⟨rfl, rfl, rfl⟩⟩ | exact ⟨by omega⟩ | exact ⟨⟨by omega, by omega⟩⟩ | exact ⟨⟨by omega, by omega, by omega⟩⟩ | exact ⟨⟨by show l.length * 1 ≤ _; omega, by omega⟩⟩
  refine Or.inl ?_
  conv => whnf
  repeat' (first | (refine And.intro (fun _ => ?_) (fun _ => ?_) <;> conv => whnf) | (refine And.intro ?_ ?_ <;> conv => whnf))
  · exact ⟨rfl⟩
  · exact ⟨⟨by show (l.length + 1) * 1 ≤ _; omega, by omega⟩⟩
  have hz := zerosN_lt l.length
  refine OK_loopC (ι := Nat) (fun i => [(0, byV b l), (1, .int .i64 64), (2, .int .i64 8), (7, .sl 0 [] 1 0 (l.length + 1 + i) (l.length + 1 + i))]) (fun i => [some (.row 1 (l.length + 1 + i) (bf (l ++ [128] ++ List.replicate i 0)))]) (fun i => i ≤ zerosN l.length) (fun i => zerosN l.length - i) 0 [some 2] ?_ (fun i hi => vc_ok hΓ mixed 1000 _ [] _ (by kernel_rfl) rfl ?_)
  · conv => whnf
    repeat' (first | (refine And.intro (fun _ => ?_) (fun _ => ?_) <;> conv => whnf) | (refine And.intro ?_ ?_ <;> conv => whnf))
    all_goals try first | exact ⟨rfl⟩ | exact ⟨⟨rfl, rfl⟩⟩ | exact ⟨⟨rfl, rfl, rfl⟩⟩ | exact ⟨fun _ _ => rfl⟩ | exact ⟨fun _ _ => trivial⟩ | exact ⟨fun k _ => isU8_bf _ k⟩ | exact ⟨by omega⟩ | exact ⟨⟨by omega, by omega⟩⟩ | exact ⟨⟨by omega, by omega, by omega⟩⟩
    · refine ⟨?_⟩
      simp only [List.replicate_zero, List.append_nil]
      refine bf_snoc (fun k hk => ?_) ?_
      · refine (if_pos hk).trans ?_
        rfl
      · exact (if_neg (Nat.lt_irrefl _)).trans (by rw [Nat.sub_self]; rfl)
  · have hll : (l ++ [128] ++ List.replicate i 0).length = l.length + 1 + i := by simp; omega
    have wl : IntKind.i64.wrap (((l.length + 1 + i : Nat) : Int) + 8) = ((l.length + 1 + i + 8 : Nat) : Int) := by rw [wrap_id (by omega) (by omega)]; omega
    have wm : IntKind.i64.wrap (((l.length + 1 + i + 8 : Nat) : Int).tmod 64) = (((l.length + 1 + i + 8) % 64 : Nat) : Int) := by rw [Int.tmod_eq_emod_of_nonneg (by omega), wrap_id (by omega) (by omega)]; omega
    conv => whnf
    repeat' (first | (refine And.intro (fun _ => ?_) (fun _ => ?_) <;> conv => whnf) | (refine And.intro ?_ ?_ <;> conv => whnf))
    · exact ⟨by decide⟩
    · exact ⟨by omega⟩
    · rename_i g1
      have hi2 : i < zerosN l.length := by
        rcases Nat.lt_or_ge i (zerosN l.length) with h | h
        · exact h
        · exfalso
          have : i = zerosN l.length := by omega
          rw [wl, Int.tmod_eq_emod_of_nonneg (by omega)] at g1
          simp only [bne_iff_ne, ne_eq] at g1
          simp only [zerosN] at this
          omega
      refine Or.inl ?_
      conv => whnf
      repeat' (first | (refine And.intro (fun _ => ?_) (fun _ => ?_) <;> conv => whnf) | (refine And.intro ?_ ?_ <;> conv => whnf))
      all_goals try first | exact ⟨rfl⟩ | exact ⟨⟨rfl, rfl⟩⟩ | exact ⟨⟨rfl, rfl, rfl⟩⟩ | exact ⟨by omega⟩ | exact ⟨⟨by omega, by omega⟩⟩ | exact ⟨⟨by omega, by omega, by omega⟩⟩ | exact ⟨⟨by show (l.length + 1 + i + 1) * 1 ≤ _; omega, by omega⟩⟩
      refine ⟨i + 1, [some 2], ?_⟩
      conv => whnf
      repeat' (refine And.intro ?_ ?_ <;> conv => whnf)
      all_goals try first | exact ⟨rfl⟩ | exact ⟨⟨rfl, rfl⟩⟩ | exact ⟨⟨rfl, rfl, rfl⟩⟩ | exact ⟨fun _ _ => rfl⟩ | exact ⟨fun _ _ => trivial⟩ | exact ⟨fun k _ => isU8_bf _ k⟩ | exact ⟨by omega⟩ | exact ⟨⟨by omega, by omega⟩⟩ | exact ⟨⟨by omega, by omega, by omega⟩⟩
      · refine ⟨?_⟩
        show ∀ k, k < l.length + 1 + i + 1 → _
        rw [zeros_snoc, ← List.append_assoc, ← hll]
        refine bf_snoc (fun k hk => ?_) ?_
        · exact if_pos (by omega)
        · exact (if_neg (by omega)).trans (by rw [hll, Nat.sub_self]; rfl)
      all_goals exact ⟨⟨by omega, by omega⟩⟩
    · rename_i g1
      have hi2 : i = zerosN l.length := by
        rw [wl, Int.tmod_eq_emod_of_nonneg (by omega)] at g1
        simp only [bne_eq_false_iff_eq] at g1
        have h := hi
        simp only [zerosN] at h ⊢
        omega
      subst hi2
      have hM : (lastL l l.length).length = l.length + 1 + zerosN l.length + 8 := lastL_length _ _
      refine vc_ok hΓ mixed 1000 _ [] _ (by kernel_rfl) rfl ?_
      conv => whnf
      refine OK_loopC (ι := Nat) (fun j => [(7, .sl 0 [] 1 0 (l.length + 1 + zerosN l.length + j) (l.length + 1 + zerosN l.length + j)), (8, .int .u64 (l.length * 8 : Nat)), (9, .int .i64 (7 - (j : Nat)))]) (fun j => [some (.row 1 (l.length + 1 + zerosN l.length + j) (bf (l ++ [128] ++ List.replicate (zerosN l.length) 0 ++ lenL l.length j)))]) (fun j => j ≤ 8) (fun j => 8 - j) 0 [some 0] ?_ (fun i hi => vc_ok hΓ mixed 1000 _ [] _ (by kernel_rfl) rfl ?_)
      · conv => whnf
        repeat' (first | (refine And.intro (fun _ => ?_) (fun _ => ?_) <;> conv => whnf) | (refine And.intro ?_ ?_ <;> conv => whnf))
        all_goals try first | exact ⟨rfl⟩ | exact ⟨⟨rfl, rfl⟩⟩ | exact ⟨⟨rfl, rfl, rfl⟩⟩ | exact ⟨fun _ _ => rfl⟩ | exact ⟨fun _ _ => trivial⟩ | exact ⟨fun k _ => isU8_bf _ k⟩ | exact ⟨by omega⟩ | exact ⟨⟨by omega, by omega⟩⟩ | exact ⟨⟨by omega, by omega, by omega⟩⟩
        · refine ⟨?_⟩
          rw [IntKind.wrap_u64, IntKind.wrap_u64]
          omega
        · refine ⟨fun k hk => leV_eq ?_ trivial⟩
          simp only [lenL, List.append_nil]
      · rename_i hi0
        have hll2 : (l ++ [128] ++ List.replicate (zerosN l.length) 0 ++ lenL l.length i).length = l.length + 1 + zerosN l.length + i := by simp [lenL_length]; omega
        conv => whnf
        refine And.intro (fun h1 => ?_) (fun h1 => ?_) <;> conv => whnf
        · have hi8 : i < 8 := by
            have : (0 : Int) ≤ 7 - (i : Nat) := by simpa using h1
            omega
          conv => whnf
          repeat' (first | (refine And.intro (fun hp => ?_) (fun hp => ?_) <;> first | (exfalso; revert hp; simp <;> omega; done) | conv => whnf) | (refine And.intro ?_ ?_ <;> conv => whnf))
          · exact ⟨by rw [IntKind.wrap_u64]; omega⟩
          · exact ⟨by omega⟩
          refine Or.inl ?_
          conv => whnf
          repeat' (first | (refine And.intro (fun _ => ?_) (fun _ => ?_) <;> conv => whnf) | (refine And.intro ?_ ?_ <;> conv => whnf))
          all_goals try first | exact ⟨rfl⟩ | exact ⟨⟨rfl, rfl⟩⟩ | exact ⟨⟨rfl, rfl, rfl⟩⟩ | exact ⟨by omega⟩ | exact ⟨⟨by omega, by omega⟩⟩ | exact ⟨⟨by omega, by omega, by omega⟩⟩ | exact ⟨⟨by show (l.length + 1 + zerosN l.length + i + 1) * 1 ≤ _; omega, by omega⟩⟩
          refine ⟨i + 1, [some 2], ?_⟩
          conv => whnf
          repeat' (refine And.intro ?_ ?_ <;> conv => whnf)
          all_goals try first | exact ⟨rfl⟩ | exact ⟨⟨rfl, rfl⟩⟩ | exact ⟨⟨rfl, rfl, rfl⟩⟩ | exact ⟨fun _ _ => rfl⟩ | exact ⟨fun _ _ => trivial⟩ | exact ⟨fun k _ => isU8_bf _ k⟩ | exact ⟨by omega⟩ | exact ⟨⟨by omega, by omega⟩⟩ | exact ⟨⟨by omega, by omega, by omega⟩⟩
          · exact ⟨by rw [wrap_id (by omega) (by omega)]; omega⟩
          · refine ⟨?_⟩
            show ∀ k, k < l.length + 1 + zerosN l.length + i + 1 → _
            simp only [lenL]
            rw [← List.append_assoc, ← hll2]
            refine bf_snoc (fun k hk => ?_) ?_
            · exact if_pos (by omega)
            · refine (if_neg (by omega)).trans ?_
              rw [hll2, Nat.sub_self]
              show V.int .u8 _ = _
              rw [len_byte' hn hi8]
        · have hi8 : i = 8 := by
            have : ¬ (0 : Int) ≤ 7 - (i : Nat) := by simpa using h1
            omega
          subst hi8
          refine vc_ok hΓ mixed 1000 _ [] _ (by kernel_rfl) rfl ?_
          conv => whnf
          conv => whnf
          repeat' (refine And.intro ?_ ?_ <;> conv => whnf)
          · exact ⟨by omega⟩
          · exact ⟨fun k _ => own_bf _ _⟩
          · rw [byV, hM]
            exact Ld.imm fun k hk => by rw [Nat.zero_add]; rfl
end Go.Proofs.YtaihjcpfjgpmoaaGreatDoor

/- The reference: SHA-256 of bytes. -/
namespace Go.Proofs.YtaihjcpfjgpmoaaGreatDoor
set_option linter.unusedVariables false
set_option linter.unusedSimpArgs false
set_option maxRecDepth 100000
open Go Go.DD
theorem absorb_app (h : Nat → UInt32) (l m : List UInt8) : absorb h (l ++ m) = absorb (absorb h l).1 ((absorb h l).2 ++ m) := by
  induction h, l using absorb.induct with
  | case1 h l h1 ih =>
    have e1 : absorb h (l ++ m) = absorb (takeW h (l.take 64)) (l.drop 64 ++ m) := by
      rw [absorb.eq_1 h (l ++ m), if_pos (by simp; omega), List.take_append_of_le_length h1, List.drop_append_of_le_length h1]
    have e2 : absorb h l = absorb (takeW h (l.take 64)) (l.drop 64) := by rw [absorb.eq_1 h l, if_pos h1]
    rw [e1, e2, ih]
  | case2 h l h1 =>
    have e2 : absorb h l = (h, l) := by rw [absorb.eq_1 h l, if_neg h1]
    rw [e2]
theorem absorb_rest (h : Nat → UInt32) (l : List UInt8) : (absorb h l).2.length = l.length % 64 := by
  induction h, l using absorb.induct with
  | case1 h l h1 ih =>
    rw [absorb.eq_1 h l, if_pos h1, ih, List.length_drop]
    omega
  | case2 h l h1 =>
    rw [absorb.eq_1 h l, if_neg h1]
    show l.length = l.length % 64
    omega
/-- The sum, of whole padded blocks. -/
theorem sha_pad (l : List UInt8) (q : Nat) (hq : (lastL l l.length).length = 64 * q) : sha l = outLs (hsN (gw h256) (lastL l l.length) q) := by
  rw [← absorb_all _ _ _ hq, sha, finW]
  congr 2
  have h1 : lastL l l.length = l ++ ([128] ++ List.replicate (zerosN l.length) 0 ++ lenL l.length 8) := by simp [lastL, List.append_assoc]
  have h2 : lastL (absorb (gw h256) l).2 l.length = (absorb (gw h256) l).2 ++ ([128] ++ List.replicate (zerosN l.length) 0 ++ lenL l.length 8) := by
    rw [lastL, absorb_rest, show zerosN (l.length % 64) = zerosN l.length by simp only [zerosN]; omega]
    simp [List.append_assoc]
  rw [h1, h2, ← absorb_app]
theorem sp_zero (p : List UInt8) : ∀ i k, i ≤ k → sp p i k = 0
  | 0, k, _ => rfl
  | i + 1, k, h => by
    simp only [sp]
    rw [if_neg (by omega)]
    exact sp_zero p i k (by omega)
theorem high_snoc (l : List UInt8) (c : UInt8) : high (l ++ [c]) = high l <<< 8 ||| UInt32.ofNat c.toNat := by
  simp [high]
theorem w_or_byte (x : UInt32) (c : UInt8) : bitsI .or .u32 (shlI .u32 (x.toNat : Nat) 8) (IntKind.u32.wrap (c.toNat : Nat)) = ((x <<< 8 ||| UInt32.ofNat c.toNat).toNat : Nat) := by
  have hc := c.toNat_lt
  have h1 : (UInt32.ofNat c.toNat).toNat = c.toNat := by rw [UInt32.toNat_ofNat']; omega
  rw [← w_or, ← w_shl8, h1, IntKind.wrap_u32]
  congr 1
  omega
theorem high_take (P : List UInt8) {i t m q : Nat} (hP : P.length = 64 * q) (hi : i < q) (hm : m < 4) (ht : t < 16) :
    high ((((P.drop (64 * i)).take 64).drop (4 * t)).take (m + 1)) = high ((((P.drop (64 * i)).take 64).drop (4 * t)).take m) <<< 8 ||| UInt32.ofNat (P.getD (64 * i + 4 * t + m) 0).toNat := by
  have hl : m < (((P.drop (64 * i)).take 64).drop (4 * t)).length := by simp; omega
  rw [List.take_succ_eq_append_getElem hl, high_snoc]
  congr 2
  have hl2 : 64 * i + (4 * t + m) < P.length := by omega
  simp [List.getD_eq_getElem?_getD, hl2, Nat.add_assoc]
theorem add4 (a b c d : UInt32) : a + b + c + d = a + c + b + d := by rw [UInt32.add_assoc a b c, UInt32.add_comm b c, ← UInt32.add_assoc]
theorem padL_mod (l : List UInt8) : (lastL l l.length).length = 64 * ((lastL l l.length).length / 64) := by
  rw [lastL_length]
  simp only [zerosN]
  omega
def blk (P : List UInt8) (j : Nat) : List UInt8 := (P.drop (64 * j)).take 64
def F50 : FSpec := mkG (fun (a : By) => [a.v]) okB (fun a => sha a.l) (arrV 32)
def F82c : FSpec := F82
set_option maxHeartbeats 4000000 in
theorem f50_ok : FOk Tryz.prog [] 34 F50 := mkG_ok fun a ⟨ha, hn⟩ => by
  refine CP.by1 ha ?_
  generalize a.l = l at hn
  generalize a.b = b
  show CP _ _ _ [byV b l] fun v => Ld v (arrV 32 (sha l))
  obtain ⟨q, hq⟩ : ∃ q, (lastL l l.length).length = 64 * q := ⟨_, padL_mod l⟩
  have hz := zerosN_lt l.length
  have hq2 : q ≤ 20000 := by rw [lastL_length] at hq; omega
  rw [sha_pad l q hq]
  have hΓ := ctxOk Tryz.f34.ntmps [(73, F82), (74, F83), (75, F84)] [] (FL.all (.cons f82_ok (.cons f83_ok (.cons f84_ok .nil)))) (HL.all .nil)
  refine CP_of_OK hΓ Tryz.func34 (c := bodyOf Tryz.f34) rfl (by decide) rfl rfl (by simp) (vc_ok hΓ mixed 1000 _ [] _ (by kernel_rfl) rfl ?_)
  conv => whnf
  refine ⟨(), trivial, ⟨trivial⟩, ?_⟩
  intro kk hkk
  replace hkk : kk = k256 := hkk
  subst hkk
  conv => whnf
  repeat' (first | (refine And.intro (fun _ => ?_) (fun _ => ?_) <;> conv => whnf) | (refine And.intro ?_ ?_ <;> conv => whnf))
  all_goals try first | exact ⟨rfl⟩ | exact ⟨⟨rfl, rfl⟩⟩ | exact ⟨⟨rfl, rfl, rfl⟩⟩ | exact ⟨fun _ _ => rfl⟩ | exact ⟨fun _ _ => trivial⟩ | exact ⟨fun k _ => isU8_bf _ k⟩ | exact ⟨by omega⟩ | exact ⟨⟨by omega, by omega⟩⟩ | exact ⟨⟨by omega, by omega, by omega⟩⟩
  refine ⟨.of b l, ⟨AE.refl _, AE.refl _, AE.refl _, trivial⟩, ⟨trivial, hn⟩, ?_⟩
  intro P hP
  replace hP : P = lastL l l.length := hP
  rw [← hP] at hq ⊢
  conv => whnf
  refine OK_loopC (ι := Nat) (fun j => [(2, .ref 0 []), (3, .ref 1 []), (4, .ref 2 []), (5, byV false P), (6, .int .i64 (64 * j : Nat))]) (fun j => [some (arrV 32 []), some (.row 1 64 (wV (gw k256))), some (.row 1 8 (wV (hsN (gw h256) P j)))]) (fun j => j ≤ q) (fun j => q - j) 0 [some 0, some 1, some 2] ?_ (fun i hi => vc_ok hΓ mixed 1000 _ [] _ (by kernel_rfl) rfl ?_)
  · conv => whnf
    repeat' (first | (refine And.intro (fun _ => ?_) (fun _ => ?_) <;> conv => whnf) | (refine And.intro ?_ ?_ <;> conv => whnf))
    all_goals try first | exact ⟨rfl⟩ | exact ⟨⟨rfl, rfl⟩⟩ | exact ⟨⟨rfl, rfl, rfl⟩⟩ | exact ⟨by omega⟩ | exact ⟨⟨by omega, by omega⟩⟩ | exact ⟨⟨by omega, by omega, by omega⟩⟩ | exact ⟨fun k _ => leV_refl _ trivial⟩ | exact ⟨fun _ _ => rfl⟩
    · exact ⟨lt8 (leV_eq rfl trivial) (leV_eq rfl trivial) (leV_eq rfl trivial) (leV_eq rfl trivial) (leV_eq rfl trivial) (leV_eq rfl trivial) (leV_eq rfl trivial) (leV_eq rfl trivial)⟩
  conv => whnf
  refine And.intro (fun h1 => ?_) (fun h1 => ?_) <;> conv => whnf
  · have hj : i < q := by
      have : ((64 * i : Nat) : Int) < (P.length : Nat) := by simpa using h1
      omega
    refine OK_loopC (ι := Nat) (fun t => [(2, .ref 0 []), (3, .ref 1 []), (4, .ref 2 []), (5, byV false P), (6, .int .i64 (64 * i : Nat)), (7, .ref 3 []), (8, .int .i64 (t : Nat))]) (fun t => [some (arrV 32 []), some (.row 1 64 (wV (gw k256))), some (.row 1 8 (wV (hsN (gw h256) P i))), some (.row 1 64 (wV (sp (blk P i) t)))]) (fun t => t ≤ 64) (fun t => 64 - t) 0 [some 0, some 1, some 2, some 3] ?_ (fun t ht => vc_ok hΓ mixed 1000 _ [] _ (by kernel_rfl) rfl ?_)
    · conv => whnf
      repeat' (first | (refine And.intro (fun _ => ?_) (fun _ => ?_) <;> conv => whnf) | (refine And.intro ?_ ?_ <;> conv => whnf))
      all_goals try first | exact ⟨rfl⟩ | exact ⟨⟨rfl, rfl⟩⟩ | exact ⟨⟨rfl, rfl, rfl⟩⟩ | exact ⟨by omega⟩ | exact ⟨⟨by omega, by omega⟩⟩ | exact ⟨⟨by omega, by omega, by omega⟩⟩ | exact ⟨fun k _ => leV_refl _ trivial⟩ | exact ⟨fun _ _ => rfl⟩
    · conv => whnf
      refine And.intro (fun h2 => ?_) (fun h2 => ?_) <;> conv => whnf
      · have ht2 : t < 64 := by
          have : ((t : Nat) : Int) < 64 := of_decide_eq_true h2
          omega
        conv => whnf
        refine And.intro (fun h3 => ?_) (fun h3 => ?_) <;> conv => whnf
        · have ht3 : t < 16 := by
            have : ((t : Nat) : Int) < 16 := of_decide_eq_true h3
            omega
          refine OK_loopC (ι := Nat) (fun m => [(2, .ref 0 []), (3, .ref 1 []), (4, .ref 2 []), (5, byV false P), (6, .int .i64 (64 * i : Nat)), (7, .ref 3 []), (8, .int .i64 (t : Nat)), (9, .int .i64 (m : Nat))]) (fun m => [some (arrV 32 []), some (.row 1 64 (wV (gw k256))), some (.row 1 8 (wV (hsN (gw h256) P i))), some (.row 1 64 (wV fun k => if k = t then high (((blk P i).drop (4 * t)).take m) else sp (blk P i) t k))]) (fun m => m ≤ 4) (fun m => 4 - m) 0 [some 0, some 1, some 2, some 3] ?_ (fun m hm => vc_ok hΓ mixed 1000 _ [] _ (by kernel_rfl) rfl ?_)
          · conv => whnf
            repeat' (first | (refine And.intro (fun _ => ?_) (fun _ => ?_) <;> conv => whnf) | (refine And.intro ?_ ?_ <;> conv => whnf))
            all_goals try first | exact ⟨rfl⟩ | exact ⟨⟨rfl, rfl⟩⟩ | exact ⟨⟨rfl, rfl, rfl⟩⟩ | exact ⟨by omega⟩ | exact ⟨⟨by omega, by omega⟩⟩ | exact ⟨⟨by omega, by omega, by omega⟩⟩ | exact ⟨fun _ _ => rfl⟩
            · refine ⟨fun k _ => leV_eq ?_ trivial⟩
              show u32 (sp (blk P i) t k) = u32 (if k = t then high (((blk P i).drop (4 * t)).take 0) else sp (blk P i) t k)
              by_cases hkt : k = t
              · rw [if_pos hkt, hkt, sp_zero _ _ _ (Nat.le_refl _)]
                rfl
              · rw [if_neg hkt]
          · have hidx : m < 4 → IntKind.i64.wrap (IntKind.i64.wrap (((64 * i : Nat) : Int) + IntKind.i64.wrap (4 * (t : Nat))) + (m : Nat)) = ((64 * i + 4 * t + m : Nat) : Int) := fun hm4 => by
              rw [wrap_id (x := 4 * ((t : Nat) : Int)) (by omega) (by omega), wrap_id (x := ((64 * i : Nat) : Int) + 4 * (t : Nat)) (by omega) (by omega), wrap_id (by omega) (by omega)]
              omega
            conv => whnf
            refine And.intro (fun h4 => ?_) (fun h4 => ?_) <;> conv => whnf
            · have hm4 : m < 4 := by
                have : ((m : Nat) : Int) < 4 := of_decide_eq_true h4
                omega
              replace hidx := hidx hm4
              conv => whnf
              repeat' (first | (refine And.intro (fun _ => ?_) (fun _ => ?_) <;> conv => whnf) | (refine And.intro ?_ ?_ <;> conv => whnf))
              · exact ⟨by omega⟩
              · exact ⟨by omega⟩
              · exact ⟨by decide⟩
              · exact ⟨by rw [hidx]; omega⟩
              · exact ⟨by omega⟩
              · exact ⟨by omega⟩
              refine ⟨m + 1, [some 0, some 1, some 2, some 3], ?_⟩
              conv => whnf
              repeat' (refine And.intro ?_ ?_ <;> conv => whnf)
              all_goals try first | exact ⟨rfl⟩ | exact ⟨⟨rfl, rfl⟩⟩ | exact ⟨⟨rfl, rfl, rfl⟩⟩ | exact ⟨by omega⟩ | exact ⟨⟨by omega, by omega⟩⟩ | exact ⟨⟨by omega, by omega, by omega⟩⟩ | exact ⟨fun k _ => leV_refl _ trivial⟩ | exact ⟨fun _ _ => rfl⟩ | exact ⟨by rw [wrap_id (by omega) (by omega)]; rfl⟩
              refine ⟨fun k hk => leV_eq ?_ trivial⟩
              by_cases hkt : k = t
              · refine (if_pos hkt).trans ?_
                show V.int .u32 (bitsI .or .u32 (shlI .u32 (((if t = t then high (((blk P i).drop (4 * t)).take m) else sp (blk P i) t t).toNat : Nat) : Int) 8) (IntKind.u32.wrap (((P.getD (IntKind.i64.wrap (IntKind.i64.wrap (((64 * i : Nat) : Int) + IntKind.i64.wrap (4 * (t : Nat))) + (m : Nat))).toNat 0).toNat : Nat) : Int))) = u32 (if k = t then high (((blk P i).drop (4 * t)).take (m + 1)) else sp (blk P i) t k)
                rw [if_pos rfl, if_pos hkt, hidx, Int.toNat_natCast, show high (((blk P i).drop (4 * t)).take (m + 1)) = _ from high_take P hq hj hm4 ht3]
                exact congrArg (V.int .u32) (w_or_byte _ _)
              · refine (if_neg hkt).trans ?_
                show u32 (if k = t then high (((blk P i).drop (4 * t)).take m) else sp (blk P i) t k) = u32 (if k = t then high (((blk P i).drop (4 * t)).take (m + 1)) else sp (blk P i) t k)
                rw [if_neg hkt, if_neg hkt]
            · have hm4 : m = 4 := by
                have : ¬ ((m : Nat) : Int) < 4 := of_decide_eq_false h4
                omega
              subst hm4
              refine vc_ok hΓ mixed 1000 _ [] _ (by kernel_rfl) rfl ?_
              conv => whnf
              refine vc_ok hΓ mixed 1000 _ [] _ (by kernel_rfl) rfl ?_
              conv => whnf
              refine ⟨t + 1, [some 0, some 1, some 2, some 3], ?_⟩
              conv => whnf
              repeat' (refine And.intro ?_ ?_ <;> conv => whnf)
              all_goals try first | exact ⟨rfl⟩ | exact ⟨⟨rfl, rfl⟩⟩ | exact ⟨⟨rfl, rfl, rfl⟩⟩ | exact ⟨by omega⟩ | exact ⟨⟨by omega, by omega⟩⟩ | exact ⟨⟨by omega, by omega, by omega⟩⟩ | exact ⟨fun k _ => leV_refl _ trivial⟩ | exact ⟨fun _ _ => rfl⟩ | exact ⟨by rw [wrap_id (by omega) (by omega)]; rfl⟩
              refine ⟨fun k hk => leV_eq ?_ trivial⟩
              show u32 (if k = t then high (((blk P i).drop (4 * t)).take 4) else sp (blk P i) t k) = u32 (sp (blk P i) (t + 1) k)
              simp only [sp]
              by_cases hkt : k = t
              · rw [if_pos hkt, if_pos hkt, if_pos ht3]
              · rw [if_neg hkt, if_neg hkt]
        · have ht3 : ¬ t < 16 := by
            have : ¬ ((t : Nat) : Int) < 16 := of_decide_eq_false h3
            omega
          have e2 : IntKind.i64.wrap ((t : Int) - 2) = ((t - 2 : Nat) : Int) := by rw [IntKind.wrap_i64]; omega
          have e7 : IntKind.i64.wrap ((t : Int) - 7) = ((t - 7 : Nat) : Int) := by rw [IntKind.wrap_i64]; omega
          have e15 : IntKind.i64.wrap ((t : Int) - 15) = ((t - 15 : Nat) : Int) := by rw [IntKind.wrap_i64]; omega
          have e16 : IntKind.i64.wrap ((t : Int) - 16) = ((t - 16 : Nat) : Int) := by rw [IntKind.wrap_i64]; omega
          conv => whnf
          repeat' (first | (refine And.intro (fun _ => ?_) (fun _ => ?_) <;> conv => whnf) | (refine And.intro ?_ ?_ <;> conv => whnf))
          all_goals try exact ⟨by rw [e15]; omega⟩
          all_goals try exact ⟨by rw [e2]; omega⟩
          all_goals try exact ⟨by omega⟩
          refine ⟨(_, 7), ⟨AE.refl _, AE.refl _, trivial⟩, ⟨trivial⟩, ?_⟩
          intro r1 g1
          conv => whnf
          repeat' (first | (refine And.intro (fun _ => ?_) (fun _ => ?_) <;> conv => whnf) | (refine And.intro ?_ ?_ <;> conv => whnf))
          all_goals try exact ⟨by omega⟩
          refine ⟨(_, 18), ⟨AE.refl _, AE.refl _, trivial⟩, ⟨trivial⟩, ?_⟩
          intro r2 g2
          conv => whnf
          repeat' (first | (refine And.intro (fun _ => ?_) (fun _ => ?_) <;> conv => whnf) | (refine And.intro ?_ ?_ <;> conv => whnf))
          all_goals try exact ⟨by omega⟩
          refine ⟨(_, 17), ⟨AE.refl _, AE.refl _, trivial⟩, ⟨trivial⟩, ?_⟩
          intro r3 g3
          conv => whnf
          repeat' (first | (refine And.intro (fun _ => ?_) (fun _ => ?_) <;> conv => whnf) | (refine And.intro ?_ ?_ <;> conv => whnf))
          all_goals try exact ⟨by omega⟩
          refine ⟨(_, 19), ⟨AE.refl _, AE.refl _, trivial⟩, ⟨trivial⟩, ?_⟩
          intro r4 g4
          conv => whnf
          repeat' (first | (refine And.intro (fun _ => ?_) (fun _ => ?_) <;> conv => whnf) | (refine And.intro ?_ ?_ <;> conv => whnf))
          all_goals try exact ⟨by omega⟩
          refine ⟨t + 1, [some 0, some 1, some 2, some 3], ?_⟩
          conv => whnf
          repeat' (refine And.intro ?_ ?_ <;> conv => whnf)
          all_goals try first | exact ⟨rfl⟩ | exact ⟨⟨rfl, rfl⟩⟩ | exact ⟨⟨rfl, rfl, rfl⟩⟩ | exact ⟨by omega⟩ | exact ⟨⟨by omega, by omega⟩⟩ | exact ⟨⟨by omega, by omega, by omega⟩⟩ | exact ⟨fun k _ => leV_refl _ trivial⟩ | exact ⟨fun _ _ => rfl⟩ | exact ⟨by rw [wrap_id (by omega) (by omega)]; rfl⟩
          refine ⟨fun k hk => leV_eq ?_ trivial⟩
          by_cases hki : k = t
          · refine (if_pos hki).trans ?_
            show V.int .u32 _ = u32 (sp (blk P i) (t + 1) k)
            simp only [w_xor, w_shr3, w_shr10, w_add, u32]
            refine congrArg (fun x : UInt32 => V.int .u32 (x.toNat : Nat)) ?_
            simp only [e2, e15, Int.toNat_natCast] at g1 g2 g3 g4
            simp only [sp, if_pos hki, if_neg ht3, nextW, g1, g2, g3, g4, e2, e7, e15, e16, Int.toNat_natCast]
            exact add4 _ _ _ _
          · refine (if_neg hki).trans ?_
            show u32 (sp (blk P i) t k) = u32 (sp (blk P i) (t + 1) k)
            simp only [sp, if_neg hki]
      · have ht2 : t = 64 := by
          have : ¬ ((t : Nat) : Int) < 64 := of_decide_eq_false h2
          omega
        subst ht2
        refine vc_ok hΓ mixed 1000 _ [] _ (by kernel_rfl) rfl ?_
        conv => whnf
        refine OK_loopC (ι := Nat) (fun t => [(2, .ref 0 []), (3, .ref 1 []), (4, .ref 2 []), (5, byV false P), (6, .int .i64 (64 * i : Nat)), (7, .ref 3 []), (12, .ref 4 []), (13, .int .i64 (t : Nat))]) (fun t => [some (arrV 32 []), some (.row 1 64 (wV (gw k256))), some (.row 1 8 (wV (hsN (gw h256) P i))), some (.row 1 64 (wV (sp (blk P i) 64))), some (.row 1 8 (wV (rnd (sp (blk P i) 64) (hsN (gw h256) P i) t)))]) (fun t => t ≤ 64) (fun t => 64 - t) 0 [some 0, some 1, some 2, some 3, some 4] ?_ (fun t ht => vc_ok hΓ mixed 1000 _ [] _ (by kernel_rfl) rfl ?_)
        · conv => whnf
          repeat' (first | (refine And.intro (fun _ => ?_) (fun _ => ?_) <;> conv => whnf) | (refine And.intro ?_ ?_ <;> conv => whnf))
          all_goals try first | exact ⟨rfl⟩ | exact ⟨⟨rfl, rfl⟩⟩ | exact ⟨⟨rfl, rfl, rfl⟩⟩ | exact ⟨by omega⟩ | exact ⟨⟨by omega, by omega⟩⟩ | exact ⟨⟨by omega, by omega, by omega⟩⟩ | exact ⟨fun k _ => leV_refl _ trivial⟩ | exact ⟨fun _ _ => rfl⟩
        · conv => whnf
          refine And.intro (fun h5 => ?_) (fun h5 => ?_) <;> conv => whnf
          · have ht5 : t < 64 := by
              have : ((t : Nat) : Int) < 64 := of_decide_eq_true h5
              omega
            conv => whnf
            repeat' (first | (refine And.intro (fun _ => ?_) (fun _ => ?_) <;> conv => whnf) | (refine And.intro ?_ ?_ <;> conv => whnf))
            all_goals try exact ⟨by omega⟩
            refine ⟨(_, 6), ⟨AE.refl _, AE.refl _, trivial⟩, ⟨trivial⟩, ?_⟩
            intro r1 g1
            conv => whnf
            repeat' (first | (refine And.intro (fun _ => ?_) (fun _ => ?_) <;> conv => whnf) | (refine And.intro ?_ ?_ <;> conv => whnf))
            all_goals try exact ⟨by omega⟩
            refine ⟨(_, 11), ⟨AE.refl _, AE.refl _, trivial⟩, ⟨trivial⟩, ?_⟩
            intro r2 g2
            conv => whnf
            repeat' (first | (refine And.intro (fun _ => ?_) (fun _ => ?_) <;> conv => whnf) | (refine And.intro ?_ ?_ <;> conv => whnf))
            all_goals try exact ⟨by omega⟩
            refine ⟨(_, 25), ⟨AE.refl _, AE.refl _, trivial⟩, ⟨trivial⟩, ?_⟩
            intro r3 g3
            conv => whnf
            repeat' (first | (refine And.intro (fun _ => ?_) (fun _ => ?_) <;> conv => whnf) | (refine And.intro ?_ ?_ <;> conv => whnf))
            all_goals try exact ⟨by omega⟩
            refine ⟨(_, 2), ⟨AE.refl _, AE.refl _, trivial⟩, ⟨trivial⟩, ?_⟩
            intro r4 g4
            conv => whnf
            repeat' (first | (refine And.intro (fun _ => ?_) (fun _ => ?_) <;> conv => whnf) | (refine And.intro ?_ ?_ <;> conv => whnf))
            all_goals try exact ⟨by omega⟩
            refine ⟨(_, 13), ⟨AE.refl _, AE.refl _, trivial⟩, ⟨trivial⟩, ?_⟩
            intro r5 g5
            conv => whnf
            repeat' (first | (refine And.intro (fun _ => ?_) (fun _ => ?_) <;> conv => whnf) | (refine And.intro ?_ ?_ <;> conv => whnf))
            all_goals try exact ⟨by omega⟩
            refine ⟨(_, 22), ⟨AE.refl _, AE.refl _, trivial⟩, ⟨trivial⟩, ?_⟩
            intro r6 g6
            conv => whnf
            repeat' (first | (refine And.intro (fun _ => ?_) (fun _ => ?_) <;> conv => whnf) | (refine And.intro ?_ ?_ <;> conv => whnf))
            all_goals try exact ⟨by omega⟩
            refine ⟨t + 1, [some 0, some 1, some 2, some 3, some 4], ?_⟩
            conv => whnf
            repeat' (refine And.intro ?_ ?_ <;> conv => whnf)
            all_goals try first | exact ⟨rfl⟩ | exact ⟨⟨rfl, rfl⟩⟩ | exact ⟨⟨rfl, rfl, rfl⟩⟩ | exact ⟨by omega⟩ | exact ⟨⟨by omega, by omega⟩⟩ | exact ⟨⟨by omega, by omega, by omega⟩⟩ | exact ⟨fun k _ => leV_refl _ trivial⟩ | exact ⟨fun _ _ => rfl⟩ | exact ⟨by rw [wrap_id (by omega) (by omega)]; rfl⟩
            refine ⟨lt8 ?_ ?_ ?_ ?_ ?_ ?_ ?_ ?_⟩
            all_goals refine leV_eq ?_ trivial
            all_goals show V.int .u32 _ = V.int .u32 _
            all_goals (try simp only [w_xor, w_and, w_not', w_add])
            · simp only [g1, g2, g3, g4, g5, g6]
              exact rfl
            · exact rfl
            · exact rfl
            · exact rfl
            · simp only [g1, g2, g3]
              exact rfl
            · exact rfl
            · exact rfl
            · exact rfl
          · have ht5 : t = 64 := by
              have : ¬ ((t : Nat) : Int) < 64 := of_decide_eq_false h5
              omega
            subst ht5
            refine vc_ok hΓ mixed 1000 _ [] _ (by kernel_rfl) rfl ?_
            conv => whnf
            refine OK_loopC (ι := Nat) (fun t => [(2, .ref 0 []), (3, .ref 1 []), (4, .ref 2 []), (5, byV false P), (6, .int .i64 (64 * i : Nat)), (12, .ref 3 []), (18, .int .i64 (t : Nat))]) (fun t => [some (arrV 32 []), some (.row 1 64 (wV (gw k256))), some (.row 1 8 (wV fun k => if k < t then takeW (hsN (gw h256) P i) (blk P i) k else hsN (gw h256) P i k)), some (.row 1 8 (wV (rnd (sp (blk P i) 64) (hsN (gw h256) P i) 64)))]) (fun t => t ≤ 8) (fun t => 8 - t) 0 [some 0, some 1, some 2, some 4] ?_ (fun t ht => vc_ok hΓ mixed 1000 _ [] _ (by kernel_rfl) rfl ?_)
            · conv => whnf
              repeat' (first | (refine And.intro (fun _ => ?_) (fun _ => ?_) <;> conv => whnf) | (refine And.intro ?_ ?_ <;> conv => whnf))
              all_goals try first | exact ⟨rfl⟩ | exact ⟨⟨rfl, rfl⟩⟩ | exact ⟨⟨rfl, rfl, rfl⟩⟩ | exact ⟨by omega⟩ | exact ⟨⟨by omega, by omega⟩⟩ | exact ⟨⟨by omega, by omega, by omega⟩⟩ | exact ⟨fun k _ => leV_refl _ trivial⟩ | exact ⟨fun _ _ => rfl⟩
            · conv => whnf
              refine And.intro (fun h6 => ?_) (fun h6 => ?_) <;> conv => whnf
              · have ht6 : t < 8 := by
                  have : ((t : Nat) : Int) < 8 := of_decide_eq_true h6
                  omega
                conv => whnf
                repeat' (first | (refine And.intro (fun _ => ?_) (fun _ => ?_) <;> conv => whnf) | (refine And.intro ?_ ?_ <;> conv => whnf))
                all_goals try exact ⟨by omega⟩
                refine ⟨t + 1, [some 0, some 1, some 2, some 3], ?_⟩
                conv => whnf
                repeat' (refine And.intro ?_ ?_ <;> conv => whnf)
                all_goals try first | exact ⟨rfl⟩ | exact ⟨⟨rfl, rfl⟩⟩ | exact ⟨⟨rfl, rfl, rfl⟩⟩ | exact ⟨by omega⟩ | exact ⟨⟨by omega, by omega⟩⟩ | exact ⟨⟨by omega, by omega, by omega⟩⟩ | exact ⟨fun k _ => leV_refl _ trivial⟩ | exact ⟨fun _ _ => rfl⟩ | exact ⟨by rw [wrap_id (by omega) (by omega)]; rfl⟩
                refine ⟨fun k hk => leV_eq ?_ trivial⟩
                by_cases hki : k = t
                · refine (if_pos hki).trans ?_
                  show V.int .u32 _ = _
                  simp only [w_add, Int.toNat_natCast, if_neg (Nat.lt_irrefl t), wV, if_pos (show k < t + 1 by omega)]
                  subst hki
                  rfl
                · refine (if_neg hki).trans ?_
                  simp only [wV]
                  by_cases h2 : k < t
                  · rw [if_pos h2, if_pos (by omega)]
                  · rw [if_neg h2, if_neg (by omega)]
              · have ht6 : t = 8 := by
                  have : ¬ ((t : Nat) : Int) < 8 := of_decide_eq_false h6
                  omega
                subst ht6
                refine vc_ok hΓ mixed 1000 _ [] _ (by kernel_rfl) rfl ?_
                conv => whnf
                refine ⟨i + 1, [some 0, some 1, some 2], ?_⟩
                conv => whnf
                repeat' (refine And.intro ?_ ?_ <;> conv => whnf)
                all_goals try first | exact ⟨rfl⟩ | exact ⟨⟨rfl, rfl⟩⟩ | exact ⟨⟨rfl, rfl, rfl⟩⟩ | exact ⟨by omega⟩ | exact ⟨⟨by omega, by omega⟩⟩ | exact ⟨⟨by omega, by omega, by omega⟩⟩ | exact ⟨fun k _ => leV_refl _ trivial⟩ | exact ⟨fun _ _ => rfl⟩ | exact ⟨by rw [wrap_id (by omega) (by omega)]; omega⟩
                refine ⟨fun k hk => leV_eq ?_ trivial⟩
                show u32 (if k < 8 then takeW (hsN (gw h256) P i) (blk P i) k else hsN (gw h256) P i k) = u32 (hsN (gw h256) P (i + 1) k)
                rw [if_pos hk]
                rfl
  · have hj : i = q := by
      have : ¬ ((64 * i : Nat) : Int) < (P.length : Nat) := by simpa using h1
      omega
    subst hj
    refine vc_ok hΓ mixed 1000 _ [] _ (by kernel_rfl) rfl ?_
    conv => whnf
    refine OK_loopC (ι := Nat) (fun j => [(2, .ref 0 []), (4, .ref 1 []), (19, .ref 2 []), (20, .int .i64 (j : Nat))]) (fun j => [some (arrV 32 []), some (.row 1 8 (wV (hsN (gw h256) P i))), some (.row 1 32 (fun k => .int .u8 ((ob (hsN (gw h256) P i) j k).toNat : Nat)))]) (fun j => j ≤ 32) (fun j => 32 - j) 0 [some 0, some 2, some 3] ?_ (fun j hj => vc_ok hΓ mixed 1000 _ [] _ (by kernel_rfl) rfl ?_)
    · conv => whnf
      repeat' (first | (refine And.intro (fun _ => ?_) (fun _ => ?_) <;> conv => whnf) | (refine And.intro ?_ ?_ <;> conv => whnf))
      all_goals try first | exact ⟨rfl⟩ | exact ⟨⟨rfl, rfl⟩⟩ | exact ⟨⟨rfl, rfl, rfl⟩⟩ | exact ⟨by omega⟩ | exact ⟨⟨by omega, by omega⟩⟩ | exact ⟨⟨by omega, by omega, by omega⟩⟩ | exact ⟨fun k _ => leV_refl _ trivial⟩ | exact ⟨fun _ _ => rfl⟩
    · conv => whnf
      refine And.intro (fun h2 => ?_) (fun h2 => ?_) <;> conv => whnf
      · have hj2 : j < 32 := by
          have : ((j : Nat) : Int) < 32 := of_decide_eq_true h2
          omega
        have t1 : IntKind.i64.wrap ((j : Int).tdiv 4) = ((j / 4 : Nat) : Int) := by rw [Int.tdiv_eq_ediv_of_nonneg (by omega), wrap_id (by omega) (by omega)]; omega
        have t2 : IntKind.u64.wrap (IntKind.i64.wrap (24 - IntKind.i64.wrap (8 * (j : Int).tmod 4))) = ((24 - 8 * (j % 4) : Nat) : Int) := by
          rw [Int.tmod_eq_emod_of_nonneg (by omega), wrap_id (x := 8 * _) (by omega) (by omega), wrap_id (by omega) (by omega), IntKind.wrap_u64]; omega
        conv => whnf
        repeat' (first | (refine And.intro (fun _ => ?_) (fun _ => ?_) <;> conv => whnf) | (refine And.intro ?_ ?_ <;> conv => whnf))
        all_goals try exact ⟨by omega⟩
        all_goals try exact ⟨by decide⟩
        all_goals try exact ⟨by rw [t1]; omega⟩
        all_goals try exact ⟨by rw [t2]; omega⟩
        refine ⟨j + 1, [some 0, some 1, some 2], ?_⟩
        conv => whnf
        repeat' (refine And.intro ?_ ?_ <;> conv => whnf)
        all_goals try first | exact ⟨rfl⟩ | exact ⟨⟨rfl, rfl⟩⟩ | exact ⟨⟨rfl, rfl, rfl⟩⟩ | exact ⟨by omega⟩ | exact ⟨⟨by omega, by omega⟩⟩ | exact ⟨⟨by omega, by omega, by omega⟩⟩ | exact ⟨fun k _ => leV_refl _ trivial⟩ | exact ⟨fun _ _ => rfl⟩ | exact ⟨by rw [wrap_id (by omega) (by omega)]; rfl⟩
        refine ⟨fun k hk => leV_eq ?_ trivial⟩
        by_cases hki : k = j
        · refine (if_pos hki).trans ?_
          show V.int .u8 _ = V.int .u8 ((ob (hsN (gw h256) P i) (j + 1) k).toNat : Nat)
          rw [t1, t2, Int.toNat_natCast, w_shr _ _ (by omega), hki, ob, if_pos (by omega), outB, UInt8.toNat_ofNat', IntKind.wrap_u8]
          congr 1
        · refine (if_neg hki).trans ?_
          simp only [ob]
          by_cases hk2 : k < j
          · rw [if_pos hk2, if_pos (by omega)]
          · rw [if_neg hk2, if_neg (by omega)]
      · have hj2 : j = 32 := by
          have : ¬ ((j : Nat) : Int) < 32 := of_decide_eq_false h2
          omega
        subst hj2
        refine vc_ok hΓ mixed 1000 _ [] _ (by kernel_rfl) rfl ?_
        conv => whnf
        conv => whnf
        repeat' (refine And.intro ?_ ?_ <;> conv => whnf)
        · exact ⟨fun k _ => trivial⟩
        refine Ld.row fun k hk => ?_
        rw [outL_bf _ hk, ob, if_pos (by omega)]
end Go.Proofs.YtaihjcpfjgpmoaaGreatDoor
