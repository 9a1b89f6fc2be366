/- Part of the claim: Z51, Z52, Z53, Z54, Z55, Z56. -/
import Derived.Test.YtaihjcpfjgpmoaaGreatDoorZE
import Derived.Test.YtaihjcpfjgpmoaaGreatDoorDC
/- Collecting what an iterator gives. -/
namespace Go.Proofs.YtaihjcpfjgpmoaaGreatDoor
set_option linter.unusedVariables false
set_option linter.unusedSimpArgs false
set_option maxRecDepth 100000
open Go Go.DD Go.RowKit
/-- The context of a walk in a round: the box stays where it is. -/
def ctxR : Ctx := { ctx 13 [] [] with n0 := 1 }
theorem ctxR_ok : CtxOk Tryz.prog ctxR := ⟨tabOk, (fun p hp => by cases hp), (fun p hp => by cases hp)⟩
structure Ax (B : Nat) (lx : List UInt8) (a : Act) (W : World) : Prop where
  size : a.tmps.size = 13
  defers : a.defers = []
  box : a.eval (.tmp 2) = .pointer (some ⟨B, 0, none⟩)
  v : ∃ b, a.eval (.tmp 5) = .pointer (some ⟨b, 0, none⟩) ∧ Free W B b ∧ ∀ q, q < 32 → W.cell? ⟨b, q, none⟩ = some (.int .u8 ((lx.getD q 0).toNat : Nat))
def opsA : Array Oper := #[{ dst := some 5, op := Op.alloc 25, type := 0, pos := "iter.go:51", after := #[], guard := none },
  { dst := none, op := Op.store 25 (Operand.tmp 5) (Operand.tmp 7), type := 0, pos := "iter.go:51", after := #[{ on := 0, ground := Ground.data }, { on := 0, ground := Ground.phase }], guard := none }]
theorem assign_in {w0 : World} {B m n1 r n : Nat} {l : Nat → List UInt8} {lx : List UInt8} {W : World} {a : Act} {K : Act → World → Prop} (h : Raw w0 B l m W) (hsz : a.tmps.size = 13) (hd : a.defers = []) (h2 : a.eval (.tmp 2) = .pointer (some ⟨B, 0, none⟩)) (h7 : a.eval (.tmp 7) = encA lx)
    (hK : ∀ a' W', KeepsFrom n1 W W' → Below w0.heap.size W W' → Raw w0 B l m W' → Ax B lx a' W' → K a' W') :
    (Code.region 2 opsA false).wpIn (Fence.wide.inRound r) n Tryz.prog (Exit.then K (fun _ _ _ => False)) a W := by
  obtain ⟨rr, z, hs⟩ := h.sim (Γ := ctxR) (fun _ => False) (fun _ h => h.elim) rfl (tl := [(2, .ref 0 []), (7, arrV 32 lx)]) hsz hd (fun E hN hρ _ _ k v hv => by
    simp only [lookV] at hv
    split at hv
    · rename_i e
      cases hv
      rw [show k = 2 from (Nat.eq_of_beq_eq_true e).symm, h2]
      exact T_ref.2 ⟨hN, by rw [hρ]; rfl⟩
    · split at hv
      · rename_i e
        cases hv
        rw [show k = 7 from (Nat.eq_of_beq_eq_true e).symm, h7]
        exact T_encA _ _
      · cases hv)
  refine region_in ctxR_ok hs (K := fun σ => σ.t 2 = .ref 0 [] ∧ σ.t 5 = .ref 2 [] ∧ σ.h = [some (.sl 1 [] 32 0 m m), some (.row 32 m fun j => arrV 32 (l j)), some (arrV 32 lx)]) ?_ ?_ ?_ ?_
  · conv => whnf
    exact ⟨rfl, rfl, rfl⟩
  · intro i o ho c
    match i with
    | 0 => cases ho; exact fun e => by cases e
    | 1 => cases ho; exact fun e => by cases e
    | i + 2 => cases ho
  · rintro ⟨_, _, h⟩; exact h
  · rintro E' a' σ' hx hs' ⟨k2, k5, kh⟩
    have hsh := hs'.heap
    rw [kh] at hsh
    have hρ : E'.ρ 0 = B := hx.ρ 0 (by show 0 < 2; omega)
    have hN : 0 < E'.N := by rw [← hsh.len]; show 0 < 3; omega
    have hbl : Below w0.heap.size W E'.w := ⟨hx.os, hx.tape, hx.output, hx.size, fun b hb => hx.kept b (.inl hb)⟩
    have hraw := Raw.of (w0 := w0) (B := B) hsh rfl rfl (h.below.trans hbl) h.hB hρ (fun b hb => hx.K b (.inl hb))
    refine hK a' E'.w ⟨hx.size, fun k o _ hk ho => (hx.kept k (.inr (.inr ⟨o, hk, ho⟩))).trans hk⟩ hbl hraw ⟨hs'.size, hs'.defers, ?_, E'.ρ 2, ?_, ?_, ?_⟩
    · have := hs'.tmp 2
      rw [k2] at this
      rw [(T_ref.1 this).2, hρ]; rfl
    · have := hs'.tmp 5
      rw [k5] at this
      rw [(T_ref.1 this).2]; rfl
    · exact Free.of hsh rfl rfl (fun sz f e => by cases e) ⟨_, rfl⟩ hρ rfl
    · intro q hq
      rcases hsh.live 2 _ rfl with ⟨_, sz, f, h⟩ | ⟨_, _, cs, t, c1, c2, c3⟩
      · cases h
      · simp only [arrV, R, bf, vsize] at c3
        have := (c3 q hq).2
        rw [show 0 + q * 1 = q by omega] at this
        simp [World.cell?, c1, this]
def opsB : Array Oper := #[{ dst := some 8, op := Op.load 44 (Operand.tmp 2), type := 44, pos := "iter.go:52", after := #[], guard := none },
  { dst := some 9, op := Op.load 25 (Operand.tmp 5), type := 25, pos := "iter.go:52", after := #[], guard := none },
  { dst := some 10, op := Op.buildSlice 44 1 #[(0, Operand.tmp 9)], type := 44, pos := "iter.go:52", after := #[{ on := 1, ground := Ground.data }], guard := none },
  { dst := some 11, op := Op.call { callee := Callee.builtin Builtin.append, args := #[Operand.tmp 8, Operand.tmp 10], argTypes := #[44, 44] }, type := 44, pos := "iter.go:52", after := #[{ on := 0, ground := Ground.data }, { on := 2, ground := Ground.data }], guard := none },
  { dst := none, op := Op.store 44 (Operand.tmp 2) (Operand.tmp 11), type := 0, pos := "iter.go:52", after := #[{ on := 3, ground := Ground.data }, { on := 3, ground := Ground.chain }, { on := 0, ground := Ground.phase }, { on := 1, ground := Ground.phase }, { on := 2, ground := Ground.phase }, { on := 3, ground := Ground.phase }], guard := none }]
theorem body_in {w0 : World} {B m n1 r n : Nat} {l : Nat → List UInt8} {W : World} {a : Act} {Q : Exit → Act → World → Prop} (h : Raw w0 B l m W) (ha : Ax B (l m) a W) (hm : m ≤ 1000) (hQ : ¬ LetsOut Q)
    (hK : ∀ a' W', KeepsFrom n1 W W' → Below w0.heap.size W W' → Raw w0 B l (m + 1) W' → Q .normal a' W') :
    (Code.region 3 opsB false).wpIn (Fence.wide.inRound r) n Tryz.prog Q a W := by
  obtain ⟨hsz, hd, h2, b, h5, hf, hc⟩ := ha
  obtain ⟨rr, z, hs⟩ := h.sim (Γ := ctxR) (fun x => x = b) (fun x e => by subst e; exact hf) rfl (tl := [(2, .ref 0 []), (5, .pim false (arrV 32 (l m)))]) hsz hd (fun E hN hρ hS hw k v hv => by
    simp only [lookV] at hv
    split at hv
    · rename_i e
      cases hv
      rw [show k = 2 from (Nat.eq_of_beq_eq_true e).symm, h2]
      exact T_ref.2 ⟨hN, by rw [hρ]; rfl⟩
    · split at hv
      · rename_i e
        cases hv
        rw [show k = 5 from (Nat.eq_of_beq_eq_true e).symm, h5]
        refine T_pim.2 ⟨b, 0, rfl, ?_, ?_⟩
        · show E.S b
          rw [hS]
        · simp only [arrV, R, bf, vsize]
          intro q hq
          refine ⟨trivial, ?_⟩
          rw [hw, show 0 + q * 1 = q by omega]
          exact hc q hq
      · cases hv)
  refine region_in ctxR_ok hs (K := fun σ => LeC 1 [some 0, some 3] σ [(2, .ref 0 [])] (colH (m + 1) l) True) ?_ ?_ hQ ?_
  · conv => whnf
    refine And.intro ⟨by omega⟩ ?_
    conv => whnf
    refine Or.inl ?_
    conv => whnf
    repeat' (refine And.intro ?_ ?_ <;> conv => whnf)
    · exact ⟨rfl⟩
    · exact ⟨by show (m + 1) * 32 ≤ _ ∧ m + 1 ≤ _; omega⟩
    all_goals try first | exact trivial | exact ⟨rfl⟩ | exact ⟨⟨rfl, rfl⟩⟩ | exact ⟨⟨rfl, rfl, rfl⟩⟩
    refine ⟨?_⟩
    refine leV_snoc ?_ ?_ fun k _ => by simp [arrV, pln, bf]
    · exact fun k hk => if_pos hk
    · refine (if_neg (Nat.lt_irrefl m)).trans ?_
      rw [Nat.sub_self]
      rfl
  · intro i o ho c
    match i with
    | 0 | 1 | 2 | 3 | 4 => cases ho; exact fun e => by cases e
    | i + 5 => cases ho
  · rintro E' a' σ' hx hs' hle
    obtain ⟨hle, _⟩ := hle.le
    have hN : 1 ≤ E'.N := Nat.le_trans (by show 1 ≤ 2; omega) hx.N
    obtain ⟨hxt, hs2⟩ := Le.sim (Γ := ctxR) hle hs' hN
    have hρ : (E'.ren [some 0, some 3]).ρ 0 = B := (hxt.ρ 0 (by show 0 < 1; omega)).trans (hx.ρ 0 (by show 0 < 2; omega))
    have hbl : Below w0.heap.size W E'.w := ⟨hx.os, hx.tape, hx.output, hx.size, fun b hb => hx.kept b (.inl hb)⟩
    have hraw := Raw.of (w0 := w0) (B := B) hs2.heap rfl rfl (h.below.trans hbl) h.hB hρ (fun b hb => hx.K b (.inl hb))
    exact hK a' E'.w ⟨hx.size, fun k o _ hk ho => (hx.kept k (.inr (.inr ⟨o, hk, ho⟩))).trans hk⟩ hbl hraw
end Go.Proofs.YtaihjcpfjgpmoaaGreatDoor

/- slices.Values's closure: it hands out the rows of a slice, one by one. -/
namespace Go.Proofs.YtaihjcpfjgpmoaaGreatDoor
set_option linter.unusedVariables false
set_option linter.unusedSimpArgs false
set_option maxRecDepth 100000
open Go Go.DD Go.RowKit
/-- A slice of rows of bytes, below n0. -/
def SlAt (n0 N : Nat) (l : Nat → List UInt8) (W : World) (x : Value) : Prop :=
  ∃ (ad : Option Addr) (cp : Nat), x = .slice ad N cp ∧ N ≤ cp ∧ (N = 0 ∨ ∃ b off, ad = some ⟨b, off, none⟩ ∧ b < n0 ∧ ∀ k, k < N → ∀ q, q < 32 → W.cell? ⟨b, off + k * 32 + q, none⟩ = some (.int .u8 (((l k).getD q 0).toNat : Nat)))
theorem SlAt.below {n0 N : Nat} {l : Nat → List UInt8} {W W' : World} {x : Value} (h : SlAt n0 N l W x) (hb : Below n0 W W') : SlAt n0 N l W' x := by
  obtain ⟨ad, cp, h1, h2, h3⟩ := h
  exact ⟨ad, cp, h1, h2, h3.imp id fun ⟨b, off, e1, e2, e3⟩ => ⟨b, off, e1, e2, fun k hk q hq => (hb.cell (p := ⟨b, _, none⟩) e2).trans (e3 k hk q hq)⟩⟩
def srcV (N : Nat) (l : Nat → List UInt8) : V := .imm true 32 N fun k => arrV 32 (l k)
theorem SlAt.rv {n0 N : Nat} {l : Nat → List UInt8} {W : World} {x : Value} (h : SlAt n0 N l W x) {E : Env} (hw : E.w = W) (hL : ∀ b, b < n0 → E.L b) {c : Nat → Option Value} {o : Nat} (hc : c o = some x) : R E (srcV N l) c o := by
  obtain ⟨ad, cp, rfl, h2, h3⟩ := h
  simp only [srcV, R]
  refine ⟨ad, cp, hc, h2, h3.imp id fun ⟨b, off, e1, e2, e3⟩ => ⟨b, off, e1, hL b e2, fun k hk => ⟨by simp [arrV, vsize], ?_⟩⟩⟩
  simp only [arrV, R, bf, vsize]
  intro q hq
  exact ⟨trivial, by rw [hw]; simpa [cellsAt] using e3 k hk q hq⟩
theorem SlAt.tv {n0 N : Nat} {l : Nat → List UInt8} {W : World} {x : Value} (h : SlAt n0 N l W x) {E : Env} (hw : E.w = W) (hL : ∀ b, b < n0 → E.L b) : T E (srcV N l) x := by
  have h' := h
  obtain ⟨ad, cp, rfl, _⟩ := h'
  exact T_mk rfl rfl (h.rv hw hL rfl)
theorem SlAt.of {n0 N : Nat} {l : Nat → List UInt8} {x : Value} {E : Env} (h : T E (srcV N l) x) (hL : ∀ b, E.L b → b < n0) : SlAt n0 N l E.w x := by
  obtain ⟨ad, cp, h1, h2, h3⟩ := T_imm.1 h
  refine ⟨ad, cp, h1, h2, h3.imp id fun ⟨b, off, e1, e2, e3⟩ => ⟨b, off, e1, hL b e2, fun k hk q hq => ?_⟩⟩
  have := (e3 k hk).2
  simp only [arrV, R, bf, vsize] at this
  have := (this q hq).2
  rw [Nat.mul_one] at this
  exact this
/-- What the closure has captured. -/
def SrcAt (n0 b0 o0 N : Nat) (l : Nat → List UInt8) (W : World) : Prop := b0 < n0 ∧ ∃ x, W.cell? ⟨b0, o0, none⟩ = some x ∧ SlAt n0 N l W x
theorem SrcAt.below {n0 b0 o0 N : Nat} {l : Nat → List UInt8} {W W' : World} (h : SrcAt n0 b0 o0 N l W) (hb : Below n0 W W') : SrcAt n0 b0 o0 N l W' :=
  let ⟨h1, x, h2, h3⟩ := h
  ⟨h1, x, (hb.cell (p := ⟨b0, o0, none⟩) h1).trans h2, h3.below hb⟩
theorem SrcAt.pv {n0 b0 o0 N : Nat} {l : Nat → List UInt8} {W : World} (h : SrcAt n0 b0 o0 N l W) {E : Env} (hw : E.w = W) (hL : ∀ b, b < n0 → E.L b) : T E (.pim true (srcV N l)) (.pointer (some ⟨b0, o0, none⟩)) := by
  obtain ⟨h1, x, h2, h3⟩ := h
  refine T_pim.2 ⟨b0, o0, rfl, hL _ h1, h3.rv (E := E.bare) hw hL ?_⟩
  rw [hw]
  exact h2
def ctxV : Ctx := ctx 16 [] []
theorem ctxV_ok : CtxOk Tryz.prog ctxV := ctxOk 16 [] [] (fun p hp => by cases hp) (fun p hp => by cases hp)
/-- A template of slots, without variables. -/
theorem sim_of {Γ : Ctx} {E : Env} {tl : List (Nat × V)} {a : Act} (hgl : Γ.gl = []) (hw : Wf E) (hN : E.N = 0) (hsz : a.tmps.size = Γ.n) (hd : a.defers = []) (ht : ∀ k v, lookV tl k = some v → T E v (a.eval (.tmp k))) : Sim Γ E (tmpl tl []) a where
  wf := hw
  heap := ⟨by rw [hN]; rfl, fun i v hi => by simp [tmpl] at hi, fun i j v v' hi => by simp [tmpl] at hi⟩
  tmp := fun k => by
    simp only [tmpl]
    split
    · rename_i v hv; exact ht k v hv
    · trivial
  size := hsz
  defers := hd
  gl := fun p hp => by rw [hgl] at hp; cases hp
def upto (l : Nat → List UInt8) (k : Nat) : List (List UInt8) := (List.range k).map l
theorem upto_succ (l : Nat → List UInt8) (k : Nat) : upto l (k + 1) = upto l k ++ [l k] := by simp [upto, List.range_succ]
theorem upto_length (l : Nat → List UInt8) (k : Nat) : (upto l k).length = k := by simp [upto]
/-- Between two rounds. -/
structure VwAt (n0 N : Nat) (l : Nat → List UInt8) (y : Value) (J : List (List UInt8) → World → Prop) (k : Nat) (a : Act) (W : World) : Prop where
  hn0 : n0 ≤ W.heap.size
  hk : k ≤ N
  hJ : J (upto l k) W
  size : a.tmps.size = 16
  defers : a.defers = []
  t0 : a.eval (.tmp 0) = y
  t5 : SlAt n0 N l W (a.eval (.tmp 5))
  t6 : a.eval (.tmp 6) = .int .i64 (N : Nat)
  t7 : a.eval (.tmp 7) = .int .i64 (k : Nat)
theorem VwAt.sim {n0 N k : Nat} {l : Nat → List UInt8} {y : Value} {J : List (List UInt8) → World → Prop} {a : Act} {W : World} (h : VwAt n0 N l y J k a W) : Sim ctxV (keepE W n0) (tmpl [(5, srcV N l), (6, .int .i64 (N : Nat)), (7, .int .i64 (k : Nat))] []) a :=
  sim_of rfl (keepE_wf h.hn0) rfl h.size h.defers fun j v hv => by
    simp only [lookV] at hv
    split at hv
    · rename_i e
      cases hv
      rw [show j = 5 from (Nat.eq_of_beq_eq_true e).symm]
      exact h.t5.tv rfl (fun _ h => h)
    split at hv
    · rename_i e
      cases hv
      rw [show j = 6 from (Nat.eq_of_beq_eq_true e).symm, h.t6]
      exact T_mk rfl rfl rfl
    split at hv
    · rename_i e
      cases hv
      rw [show j = 7 from (Nat.eq_of_beq_eq_true e).symm, h.t7]
      exact T_mk rfl rfl rfl
    cases hv
theorem T_int {E : Env} {k : IntKind} {n : Int} {x : Value} (h : T E (.int k n) x) : x = .int k n := by
  have := (T_one rfl h).2
  simpa [R] using this
theorem T_boolV {E : Env} {b : Bool} {x : Value} (h : T E (.bool b) x) : x = .bool b := by
  have := (T_one rfl h).2
  simpa [R] using this
theorem T_arrV {E : Env} {l : List UInt8} {x : Value} (h : T E (arrV 32 l) x) : x = encA l := by
  obtain ⟨cs, rfl, h1, h2⟩ := T_agg rfl h
  simp only [arrV, R, bf, vsize] at h1 h2
  refine congrArg Value.agg (Array.ext (by simp [h1]) fun i hi hj => ?_)
  have h3 := (h2 i (by omega)).2
  rw [show 0 + i * 1 = i by omega, Array.getElem?_eq_getElem hi] at h3
  simp only [Option.some.injEq] at h3
  rw [h3]
  simp
theorem values_stops (n n0 b0 o0 N : Nat) (l : Nat → List UInt8) (w : World) (hs : SrcAt n0 b0 o0 N l w) (hn0 : n0 ≤ w.heap.size) (hN : N ≤ 1000) :
    SeqStopsK (fence none) n Tryz.prog 94 #[.pointer (some ⟨b0, o0, none⟩)] (fun x : List UInt8 => #[encA x]) (Below n0) (fun ys => ys = upto l N) (fun _ => True) N w := by
  intro yl J Jx W hW hJ hJx hY h0
  have hsW := hs.below (hW.mono hn0)
  have hnW : n0 ≤ W.heap.size := Nat.le_trans hn0 hW.size
  refine callsIn_of_wp (F := fence none) Tryz.func94 rfl trivial ?_ rfl
  refine wpIn_wide.2 ?_
  refine wp_seq ?_
  have hts : Ts (keepE W n0) [.any, .pim true (srcV N l)] [.func (.yield yl) #[] #[], .pointer (some ⟨b0, o0, none⟩)] := ⟨trivial, hsW.pv rfl (fun _ h => h), trivial⟩
  have hs0 := entry_sim (Γ := ctxV) (E := keepE W n0) (keepE_wf hnW) rfl (fun p hp => by cases hp) (args := #[.func (.yield yl) #[] #[]] ++ #[.pointer (some ⟨b0, o0, none⟩)]) hts (n := 16) rfl (by simp)
  have ht0 : ({ tmps := #[.func (.yield yl) #[] #[]] ++ #[.pointer (some ⟨b0, o0, none⟩)] ++ Array.replicate (16 - (#[Value.func (.yield yl) #[] #[]] ++ #[Value.pointer (some ⟨b0, o0, none⟩)]).size) undef, defers := [] } : Act).eval (.tmp 0) = .func (.yield yl) #[] #[] := eval_init (by simp)
  refine region_wp ctxV_ok (E := keepE W n0) (j := 0) (noDst_ok (by kernel_rfl)) hs0 (K := fun σ => σ.t 5 = srcV N l ∧ σ.t 6 = .int .i64 (N : Nat) ∧ σ.t 7 = .int .i64 0) ?_ ?_
  · conv => whnf
    exact ⟨rfl, rfl, rfl⟩
  rintro E' a' σ' hx hs' ⟨k5, k6, k7⟩ hf
  have hg := keepE_grown hx
  have t5 := hs'.tmp 5
  have t6 := hs'.tmp 6
  have t7 := hs'.tmp 7
  rw [k5] at t5
  rw [k6] at t6
  rw [k7] at t7
  have hv : VwAt n0 N l (.func (.yield yl) #[] #[]) J 0 a' E'.w := ⟨Nat.le_trans hnW hx.size, Nat.zero_le _, hJ _ _ _ none h0 hg (fun r e => by cases e), hs'.size, hs'.defers, hf.trans ht0, SlAt.of t5 (fun b hb => (hx.L b).1 hb), T_int t6, T_int t7⟩
  refine wp_block ?_
  refine wp_loop_ix (fun k a w => VwAt n0 N l (.func (.yield yl) #[] #[]) J k a w) (fun k => N - k) ?_ hv
  clear hv hg t5 t6 t7 k5 k6 k7 hf hs' hx hs0
  intro k a wr h
  refine wp_seq ?_
  refine region_wp ctxV_ok (E := keepE wr n0) (j := 0) (noDst_ok (by kernel_rfl)) h.sim (K := fun σ => σ.t 5 = srcV N l ∧ σ.t 6 = .int .i64 (N : Nat) ∧ σ.t 7 = .int .i64 (k : Nat) ∧ σ.t 8 = .bool (decide ((k : Int) < (N : Nat)))) ?_ ?_
  · conv => whnf
    exact ⟨rfl, rfl, rfl, rfl⟩
  rintro E1 a1 σ1 hx hs1 ⟨k5, k6, k7, k8⟩ hf
  have t5 := hs1.tmp 5
  have t6 := hs1.tmp 6
  have t7 := hs1.tmp 7
  have t8 := hs1.tmp 8
  rw [k5] at t5
  rw [k6] at t6
  rw [k7] at t7
  rw [k8] at t8
  have t8 := T_boolV t8
  have h1 : VwAt n0 N l (.func (.yield yl) #[] #[]) J k a1 E1.w := ⟨Nat.le_trans h.hn0 hx.size, h.hk, hJ _ _ _ none h.hJ (keepE_grown hx) (fun r e => by cases e), hs1.size, hs1.defers, hf.trans h.t0, SlAt.of t5 (fun b hb => (hx.L b).1 hb), T_int t6, T_int t7⟩
  clear hx hs1 k5 k6 k7 k8 hf t5 t6 t7 h
  revert h1 t8
  generalize E1.w = w1
  intro t8 h1
  refine wp_seq ?_
  by_cases hkN : k < N
  · refine wp_cond_true (t8.trans (by rw [decide_eq_true (by omega)])) (wp_skip ?_)
    refine wp_seq (wp_block (wp_seq ?_))
    refine region_wp ctxV_ok (E := keepE w1 n0) (j := 0) (noDst_ok (by kernel_rfl)) h1.sim (K := fun σ => σ.t 5 = srcV N l ∧ σ.t 6 = .int .i64 (N : Nat) ∧ σ.t 7 = .int .i64 (k : Nat) ∧ σ.t 4 = .ref 0 [] ∧ σ.h = [some (arrV 32 (l k))]) ?_ ?_
    · conv => whnf
      refine And.intro ⟨by omega⟩ ?_
      conv => whnf
      exact ⟨rfl, rfl, rfl, rfl, rfl⟩
    rintro E2 a2 σ2 hx hs2 ⟨k5, k6, k7, k4, kh⟩ hf
    have t5 := hs2.tmp 5
    have t6 := hs2.tmp 6
    have t7 := hs2.tmp 7
    have t4 := hs2.tmp 4
    rw [k5] at t5
    rw [k6] at t6
    rw [k7] at t7
    rw [k4] at t4
    have hsh := hs2.heap
    rw [kh] at hsh
    have h2 : VwAt n0 N l (.func (.yield yl) #[] #[]) J k a2 E2.w := ⟨Nat.le_trans h1.hn0 hx.size, h1.hk, hJ _ _ _ none h1.hJ (keepE_grown hx) (fun r e => by cases e), hs2.size, hs2.defers, hf.trans h1.t0, SlAt.of t5 (fun b hb => (hx.L b).1 hb), T_int t6, T_int t7⟩
    have hload : (Instr.loadAt 25 (a2.eval (.tmp 4))).run Tryz.prog E2.w = .ok (encA (l k)) E2.w := by
      have hl : loadD tb 25 (.ref 0 []) [some (arrV 32 (l k))] (fun v => v = arrV 32 (l k)) := by
        conv => whnf
        rfl
      obtain ⟨x, v, e1, e2, e3⟩ := loadD_ok (P := Tryz.prog) tabOk hs2.wf hsh hl t4
      subst e3
      rw [e1, T_arrV e2]
    clear hx hs2 k5 k6 k7 k4 kh hf t4 t5 t6 t7 hsh h1
    revert h2 hload
    generalize E2.w = w2
    intro h2 hload
    refine wp_seq ((wpIn_wide (n := n)).1 (wpIn_region ?_))
    show wpOpsIn (fence none) n Tryz.prog _ _ [0, 1, 2, 3] a2 w2
    have hnd : ∀ (t u : Operand) (c : Call), Op.move t ≠ .defer c := fun t u c e => by cases e
    refine val_in rfl rfl (fun c e => by cases e) (v := .func (.yield yl) #[] #[]) (w' := w2) ?_ ?_
    · show (pure (Next.value (a2.eval (.tmp 0))) : Sem Next).run Tryz.prog w2 = _
      rw [h2.t0]
      rfl
    have s3 : (a2.put (some 11) (.func (.yield yl) #[] #[])).tmps.size = 16 := put_size.trans h2.size
    have e11 : (a2.put (some 11) (.func (.yield yl) #[] #[])).eval (.tmp 11) = .func (.yield yl) #[] #[] := eval_put_self (by rw [h2.size]; decide)
    have hp : ∀ j : Nat, j ≠ 11 → (a2.put (some 11) (.func (.yield yl) #[] #[])).eval (.tmp j) = a2.eval (.tmp j) := fun j hj => eval_put fun e => hj (by cases e; rfl)
    have d3 : (a2.put (some 11) (.func (.yield yl) #[] #[])).defers = [] := put_defers.trans h2.defers
    show wpOpsIn (fence none) n Tryz.prog _ _ [1, 2, 3] (a2.put (some 11) (.func (.yield yl) #[] #[])) w2
    revert s3 e11 hp d3
    generalize a2.put (some 11) (.func (.yield yl) #[] #[]) = a3
    intro s3 e11 hp d3
    refine val_in rfl rfl (fun c e => by cases e) (v := encA (l k)) (w' := w2) ?_ ?_
    · show (do pure (Next.value (← Instr.loadAt 25 (a3.eval (.tmp 4)))) : Sem Next).run Tryz.prog w2 = _
      rw [Sem.run_bind, hp 4 (by decide), hload]
      rfl
    have s4 : (a3.put (some 12) (encA (l k))).tmps.size = 16 := put_size.trans s3
    have e12 : (a3.put (some 12) (encA (l k))).eval (.tmp 12) = encA (l k) := eval_put_self (by rw [s3]; decide)
    have e11' : (a3.put (some 12) (encA (l k))).eval (.tmp 11) = .func (.yield yl) #[] #[] := (eval_put (by decide)).trans e11
    have hp' : ∀ j : Nat, j < 11 → (a3.put (some 12) (encA (l k))).eval (.tmp j) = a2.eval (.tmp j) := fun j hj => (eval_put fun e => by have : (12 : Nat) = j := Option.some.inj e; omega).trans (hp j (by omega))
    have d4 : (a3.put (some 12) (encA (l k))).defers = [] := put_defers.trans d3
    show wpOpsIn (fence none) n Tryz.prog _ _ [2, 3] (a3.put (some 12) (encA (l k))) w2
    revert s4 e12 e11' hp' d4
    generalize a3.put (some 12) (encA (l k)) = a4
    intro s4 e12 e11' hp' d4
    obtain ⟨fn, tmps, assign, body, hy, hR⟩ := hY (upto l k) (l k) w2 h2.hJ (by rw [upto_length]; exact hkN)
    refine round_in rfl rfl (fun c e => by cases e) (w' := w2) (l := yl) (fn := fn) (tmps := tmps) (assign := assign) (body := body) ?_ (hR.mono ?_)
    · simp only [List.getElem_toArray, List.getElem_cons_succ, List.getElem_cons_zero, execOp, resolve, List.map_toArray, List.map_cons, List.map_nil, e11', e12, Deferred.ofValue, Sem.run_bind, Sem.run_pure, invoke]
      exact hy
    rintro e w3 (⟨rfl, hJ3, hk3⟩ | ⟨rfl, hJx3⟩)
    · refine val_in rfl rfl (fun c e => by cases e) (v := .bool false) (w' := w3) ?_ ?_
      · show (do pure (Next.value (← Op.unary .not ((a4.put (some 13) (.bool true)).eval (.tmp 13)))) : Sem Next).run Tryz.prog w3 = _
        rw [eval_put_self (by rw [s4]; decide)]
        rfl
      have s5 : ((a4.put (some 13) (.bool true)).put (some 14) (.bool false)).tmps.size = 16 := put_size.trans (put_size.trans s4)
      have e14 : ((a4.put (some 13) (.bool true)).put (some 14) (.bool false)).eval (.tmp 14) = .bool false := eval_put_self (by rw [put_size, s4]; decide)
      have hp5 : ∀ j : Nat, j < 11 → ((a4.put (some 13) (.bool true)).put (some 14) (.bool false)).eval (.tmp j) = a2.eval (.tmp j) := fun j hj => (eval_put fun e => by have : (14 : Nat) = j := Option.some.inj e; omega).trans ((eval_put fun e => by have : (13 : Nat) = j := Option.some.inj e; omega).trans (hp' j hj))
      have d5 : ((a4.put (some 13) (.bool true)).put (some 14) (.bool false)).defers = [] := put_defers.trans (put_defers.trans d4)
      show Code.wp Tryz.prog _ _ ((a4.put (some 13) (.bool true)).put (some 14) (.bool false)) w3
      revert s5 e14 hp5 d5
      generalize (a4.put (some 13) (.bool true)).put (some 14) (.bool false) = a5
      intro s5 e14 hp5 d5
      refine wp_cond_false e14 (wp_skip ?_)
      have h5 : VwAt n0 N l (.func (.yield yl) #[] #[]) (fun _ _ => True) k a5 w3 := ⟨Nat.le_trans h2.hn0 hk3.size, h2.hk, trivial, s5, d5, (hp5 0 (by decide)).trans h2.t0, by rw [hp5 5 (by decide)]; exact h2.t5.below hk3, (hp5 6 (by decide)).trans h2.t6, (hp5 7 (by decide)).trans h2.t7⟩
      refine region_wp ctxV_ok (E := keepE w3 n0) (j := 0) (noDst_ok (by kernel_rfl)) h5.sim (K := fun σ => σ.t 5 = srcV N l ∧ σ.t 6 = .int .i64 (N : Nat) ∧ σ.t 7 = .int .i64 (IntKind.i64.wrap ((k : Int) + 1))) ?_ ?_
      · conv => whnf
        exact ⟨rfl, rfl, rfl⟩
      rintro E6 a6 σ6 hx hs6 ⟨k5, k6, k7⟩ hf
      have t5 := hs6.tmp 5
      have t6 := hs6.tmp 6
      have t7 := hs6.tmp 7
      rw [k5] at t5
      rw [k6] at t6
      rw [k7] at t7
      refine ⟨k + 1, ⟨Nat.le_trans h5.hn0 hx.size, by omega, hJ _ _ _ none (by rw [upto_succ]; exact hJ3) (keepE_grown hx) (fun r e => by cases e), hs6.size, hs6.defers, hf.trans h5.t0, SlAt.of t5 (fun b hb => (hx.L b).1 hb), T_int t6, ?_⟩, by omega⟩
      rw [T_int t7, wrap_id (by omega) (by omega)]
      rfl
    · refine val_in rfl rfl (fun c e => by cases e) (v := .bool true) (w' := w3) ?_ ?_
      · show (do pure (Next.value (← Op.unary .not ((a4.put (some 13) (.bool false)).eval (.tmp 13)))) : Sem Next).run Tryz.prog w3 = _
        rw [eval_put_self (by rw [s4]; decide)]
        rfl
      have e14 : ((a4.put (some 13) (.bool false)).put (some 14) (.bool true)).eval (.tmp 14) = .bool true := eval_put_self (by rw [put_size, s4]; decide)
      have d5 : ((a4.put (some 13) (.bool false)).put (some 14) (.bool true)).defers = [] := put_defers.trans (put_defers.trans d4)
      show Code.wp Tryz.prog _ _ ((a4.put (some 13) (.bool false)).put (some 14) (.bool true)) w3
      revert e14 d5
      generalize (a4.put (some 13) (.bool false)).put (some 14) (.bool true) = a5
      intro e14 d5
      refine wp_cond_true e14 (wp_ret ?_)
      exact ⟨d5, _, results_none rfl _ _ _, ⟨_, rfl⟩, .inr ⟨_, trivial, hJx3⟩⟩
  · refine wp_cond_false (t8.trans (by rw [decide_eq_false (by omega)])) (wp_exit ?_)
    simp only [Exit.then, Exit.inBlock, if_true]
    have e : k = N := by have := h1.hk; omega
    exact ⟨h1.defers, _, results_none rfl _ _ _, ⟨_, rfl⟩, .inl ⟨_, rfl, e ▸ h1.hJ⟩⟩
end Go.Proofs.YtaihjcpfjgpmoaaGreatDoor

/- slices.AppendSeq(nil, slices.Values(rows)). -/
namespace Go.Proofs.YtaihjcpfjgpmoaaGreatDoor
set_option linter.unusedVariables false
set_option linter.unusedSimpArgs false
set_option maxRecDepth 100000
open Go Go.DD Go.RowKit
def ctxC : Ctx := ctx 13 [] []
theorem ctxC_ok : CtxOk Tryz.prog ctxC := ctxOk 13 [] [] (fun p hp => by cases hp) (fun p hp => by cases hp)
def lst (pre : List (List UInt8)) (j : Nat) : List UInt8 := pre.getD j []
theorem ax_own {B n1 : Nat} {lx : List UInt8} {a : Act} : OwnFrom n1 (fun (_ : Unit) W => Ax B lx a W) := fun s W W' row h hg hr => by
  obtain ⟨h1, h2, h3, b, h4, h5, h6⟩ := h
  refine ⟨h1, h2, h3, b, h4, Free.own _ _ _ _ h5 hg hr, fun q hq => ?_⟩
  have hc := h6 q hq
  refine (World.cell?_of_block (a := ⟨b, q, none⟩) (hg.block b h5.1 fun e => ?_)).trans hc
  obtain ⟨_, o, ho, hn⟩ := hr b e.symm
  cases o <;> first | (cases hn; done) | (simp [World.cell?, ho] at hc; done)
theorem appendSeq_calls {w : World} {N b0 o0 : Nat} {l : Nat → List UInt8} {ad : Option Addr} (hs : SrcAt w.heap.size b0 o0 N l w) (hN : N ≤ 1000) :
    Calls Tryz.prog 132 #[.slice ad 0 0, .func (.func 94) #[] #[.pointer (some ⟨b0, o0, none⟩)]] w fun e w' => ∃ B x, e = .returned x ∧ Raw w B l N w' ∧ w'.cell? ⟨B, 0, none⟩ = some x := by
  refine (callsIn_wide (n := 3)).1 ?_
  refine callsIn_of_wp_marks (F := fence none) Tryz.func132 rfl trivial ?_ rfl
  refine wpIn_seq ?_
  have hts : Ts (keepE w w.heap.size) [.emp, .any] [.slice ad 0 0, .func (.func 94) #[] #[.pointer (some ⟨b0, o0, none⟩)]] := ⟨T_mk rfl rfl (by simp only [R]; exact ⟨ad, rfl⟩), trivial, trivial⟩
  have hs0 := entry_sim (Γ := ctxC) (E := keepE w w.heap.size) (keepE_wf (Nat.le_refl _)) rfl (fun p hp => by cases hp) (args := #[.slice ad 0 0, .func (.func 94) #[] #[.pointer (some ⟨b0, o0, none⟩)]]) hts (n := 13) rfl (by simp)
  refine wpIn_wide.2 (region_wp ctxC_ok (E := keepE w w.heap.size) (j := 1) (noDst_ok (by kernel_rfl)) hs0 (K := fun σ => σ.t 2 = .ref 0 [] ∧ σ.h = [some .emp]) ?_ ?_)
  · conv => whnf
    exact ⟨rfl, rfl⟩
  rintro E1 a1 σ1 hx hs1 ⟨k2, kh⟩ hf
  have t1 : a1.eval (.tmp 1) = .func (.func 94) #[] #[.pointer (some ⟨b0, o0, none⟩)] := hf.trans (eval_init (by simp))
  have t2 := hs1.tmp 2
  rw [k2] at t2
  have t2 : a1.eval (.tmp 2) = .pointer (some ⟨E1.ρ 0, 0, none⟩) := (T_ref.1 t2).2
  have hsh := hs1.heap
  rw [kh] at hsh
  have hb1 : Below w.heap.size w E1.w := ⟨hx.os, hx.tape, hx.output, hx.size, fun b hb => hx.kept b hb⟩
  have hraw : Raw w (E1.ρ 0) (lst []) 0 E1.w := by
    rcases hsh.live 0 _ rfl with ⟨_, sz, f, h⟩ | ⟨v0, k0, bs, tB, h1, h2, h3⟩
    · cases h
    simp only [R] at h3
    obtain ⟨ad', h3⟩ := h3
    refine ⟨hb1, ?_, ad', 0, 0, tB, 0, bs, #[], h1, h3, Nat.le_refl _, .inl ⟨rfl, rfl⟩⟩
    rcases Nat.lt_or_ge (E1.ρ 0) w.heap.size with h | h
    · exact absurd (hx.K _ h) k0
    · exact h
  have s1 : a1.tmps.size = 13 := hs1.size
  have d1 : a1.defers = [] := hs1.defers
  have hs2 := hs.below hb1
  clear hx hs1 k2 kh hf hsh hs0 hts
  revert t2 hraw hb1 hs2
  generalize E1.ρ 0 = B
  generalize E1.w = w1
  intro t2 hb1 hraw hs2
  refine wpIn_seq (wpIn_seq (wpIn_region ?_))
  show wpOpsIn (fence none) 3 Tryz.prog _ _ [0] a1 w1
  refine val_in rfl rfl (fun c e => by cases e) (v := .func (.func 94) #[] #[.pointer (some ⟨b0, o0, none⟩)]) (w' := w1) ?_ ?_
  · show (pure (Next.value (a1.eval (.tmp 1))) : Sem Next).run Tryz.prog w1 = _
    rw [t1]
    rfl
  have e6 : (a1.put (some 6) (.func (.func 94) #[] #[.pointer (some ⟨b0, o0, none⟩)])).eval (.tmp 6) = .func (.func 94) #[] #[.pointer (some ⟨b0, o0, none⟩)] := eval_put_self (by rw [s1]; decide)
  have t2' : (a1.put (some 6) (.func (.func 94) #[] #[.pointer (some ⟨b0, o0, none⟩)])).eval (.tmp 2) = .pointer (some ⟨B, 0, none⟩) := (eval_put (by decide)).trans t2
  have s2 : (a1.put (some 6) (.func (.func 94) #[] #[.pointer (some ⟨b0, o0, none⟩)])).tmps.size = 13 := put_size.trans s1
  have d2 : (a1.put (some 6) (.func (.func 94) #[] #[.pointer (some ⟨b0, o0, none⟩)])).defers = [] := put_defers.trans d1
  show (Code.block 0 _).wpIn (fence none) 3 Tryz.prog _ (a1.put (some 6) (.func (.func 94) #[] #[.pointer (some ⟨b0, o0, none⟩)])) w1
  revert e6 t2' s2 d2
  generalize a1.put (some 6) (.func (.func 94) #[] #[.pointer (some ⟨b0, o0, none⟩)]) = a2
  intro e6 t2' s2 d2
  refine wpIn_block ?_
  refine wpIn_rangeFunc_ownH (F := fence none) (n := 3) rfl (by decide) e6 trivial (enters Tryz.func94 (by kernel_rfl) rfl) (values_stops 2 w.heap.size b0 o0 N l w1 hs2 hb1.size hN) belowK_t (belowK_b hb1.size) (Below.refl _ _) (fun _ => rfl)
    (fun pre W => Raw w B (lst pre) pre.length W) (fun _ _ _ => False) ?hI (fun _ _ _ _ _ hs _ _ => hs) hraw (fun x a' W => Ax B x a' W) (fun x a' => ax_own) ?assign ?body ?done ?stop
  case hI => exact fun s W W' row h hg hr => Raw.own hb1.size _ _ _ _ h hg hr
  case assign =>
    intro r pre x W K hI hK
    have ef : Array.foldl (fun (t : Array Value) (x : Tmp × Value) => match x with | (p, v) => t.setIfInBounds p v) a2.tmps ((#[7] : Array Tmp).zip #[encA x]) = a2.tmps.setIfInBounds 7 (encA x) := by simp
    rw [ef]
    have e7 : ({ tmps := a2.tmps.setIfInBounds 7 (encA x), defers := [] } : Act) = ({ tmps := a2.tmps, defers := [] } : Act).put (some 7) (encA x) := rfl
    rw [e7]
    refine assign_in (n1 := w1.heap.size) hI (put_size.trans s2) put_defers ((eval_put (by decide)).trans t2') (eval_put_self (by show 7 < a2.tmps.size; rw [s2]; decide)) hK
  case body =>
    intro r pre x a' W hr _ hI hA hlen
    have hl : ∀ j, j < pre.length → lst pre j = lst (pre ++ [x]) j := fun j hj => by simp [lst, List.getD_eq_getElem?_getD, List.getElem?_append_left hj]
    have hx : lst (pre ++ [x]) pre.length = x := by simp [lst, List.getD_eq_getElem?_getD]
    refine wpIn_block (body_in (n1 := w1.heap.size) (l := lst (pre ++ [x])) (hI.congr hl) (by rw [hx]; exact hA) (by omega) ?_ ?_)
    · rintro ⟨_, _, h⟩; exact h
    · intro a'' W' h1 h2 h3
      refine ⟨h1, h2, ?_⟩
      show Raw w B (lst (pre ++ [x])) (pre ++ [x]).length W'
      rw [List.length_append]
      exact h3
  case done =>
    rintro D xs W hD rfl hI hK
    rw [upto_length] at hI
    have hI : Raw w B l N W := hI.congr fun j hj => by simp [lst, upto, List.getD_eq_getElem?_getD, hj]
    obtain ⟨ad', cp, r, tB, tR, bs, cs, g1, g2, g3, g4⟩ := hI.box
    have hcell : W.cell? ⟨B, 0, none⟩ = some (.slice ad' N cp) := by simp [World.cell?, g1, g2]
    have hBlt : B < W.heap.size := (Array.getElem?_eq_some_iff.1 g1).1
    have hDB : D ≠ B := fun e => by rw [e, g1] at hK; cases hK
    show (Code.seq _ _).wpIn (fence none) 3 Tryz.prog _ { tmps := a2.tmps, defers := { target := .collected D, args := #[] } :: a2.defers } W
    refine wpIn_seq (wpIn_region ?_)
    have s3 : ({ tmps := a2.tmps, defers := { target := .collected D, args := #[] } :: a2.defers } : Act).tmps.size = 13 := s2
    have t3 : ({ tmps := a2.tmps, defers := { target := .collected D, args := #[] } :: a2.defers } : Act).eval (.tmp 2) = .pointer (some ⟨B, 0, none⟩) := t2'
    have d3 : ({ tmps := a2.tmps, defers := { target := .collected D, args := #[] } :: a2.defers } : Act).defers = [{ target := .collected D, args := #[] }] := by rw [d2]
    show wpOpsIn (fence none) 3 Tryz.prog _ _ [0, 1] { tmps := a2.tmps, defers := { target := .collected D, args := #[] } :: a2.defers } W
    revert s3 t3 d3
    generalize ({ tmps := a2.tmps, defers := { target := .collected D, args := #[] } :: a2.defers } : Act) = a3
    intro s3 t3 d3
    refine val_in rfl rfl (fun c e => by cases e) (v := .slice ad' N cp) (w' := W) ?_ ?_
    · show (do pure (Next.value (← Instr.loadAt 44 (a3.eval (.tmp 2)))) : Sem Next).run Tryz.prog W = _
      rw [Sem.run_bind, t3, load_one tabOk (t := 44) rfl rfl hcell]
      rfl
    refine val_in rfl rfl (fun c e => by cases e) (v := .slice ad' N cp) (w' := W) ?_ ?_
    · show (pure (Next.value ((a3.put (some 12) (.slice ad' N cp)).eval (.tmp 12))) : Sem Next).run Tryz.prog W = _
      rw [eval_put_self (by rw [s3]; decide)]
      rfl
    have e4 : ((a3.put (some 12) (.slice ad' N cp)).put (some 4) (.slice ad' N cp)).eval (.tmp 4) = .slice ad' N cp := eval_put_self (by rw [put_size, s3]; decide)
    have d4 : ((a3.put (some 12) (.slice ad' N cp)).put (some 4) (.slice ad' N cp)).defers = [{ target := .collected D, args := #[] }] := put_defers.trans (put_defers.trans d3)
    show Code.ret.wpIn (fence none) 3 Tryz.prog _ ((a3.put (some 12) (.slice ad' N cp)).put (some 4) (.slice ad' N cp)) W
    revert e4 d4
    generalize (a3.put (some 12) (.slice ad' N cp)).put (some 4) (.slice ad' N cp) = a4
    intro e4 d4
    refine wpIn_ret ?_
    show LeavesInM (fence none) 3 Tryz.prog Tryz.f132 a4.tmps _ a4.defers .returning W
    rw [d4]
    refine ⟨by simp, .inl ⟨_, _, rfl, run_takeDeferred hK, ?_⟩⟩
    have hr := hI
    refine ⟨_, results_tmp rfl _ _ _, B, _, rfl, ?_, ?_⟩
    · exact Raw.own (n1 := w1.heap.size) hb1.size _ _ _ (some D) hI (grownBy_putObj' W D _) (fun r e => by cases e; exact ⟨hD, _, hK, rfl⟩)
    · have : (W.putObj D (.deferred none)).cell? ⟨B, 0, none⟩ = W.cell? ⟨B, 0, none⟩ := World.cell?_of_block (World.putObj_heap_other (fun e => hDB e.symm))
      rw [this, hcell]
      exact congrArg some e4.symm
  case stop => exact fun _ _ _ _ _ _ h => h.elim
end Go.Proofs.YtaihjcpfjgpmoaaGreatDoor

/- slices.Collect(slices.Values(rows)). -/
namespace Go.Proofs.YtaihjcpfjgpmoaaGreatDoor
set_option linter.unusedVariables false
set_option linter.unusedSimpArgs false
set_option maxRecDepth 100000
open Go Go.DD Go.RowKit
def rowsV (b : Bool) (N : Nat) (l : Nat → List UInt8) : V := .imm b 32 N fun k => arrV 32 (l k)
def H132 : SpecH := fun xs h κ => ∃ (i : Nat) (b : Bool) (N : Nat) (l : Nat → List UInt8), xs = [.emp, .fn 94 (.cons (.ref i []) .nil)] ∧ hget h i = some (rowsV b N l) ∧ Ob (1 ≤ N ∧ N ≤ 1000) ∧ κ (.sl (hlen h) [] 32 0 N N) (hsnoc h (.row 32 N fun k => arrV 32 (l k)))
theorem h132_ok : SpecHOk Tryz.prog G 132 H132 := by
  refine ⟨fun xs h κ κ' hk ⟨i, b, N, l, h1, h2, h3, h4⟩ => ⟨i, b, N, l, h1, h2, h3, hk _ _ h4⟩, fun E h xs args κ hw hs _ ht hd => ?_⟩
  obtain ⟨i, b, N, l, rfl, hi, ⟨hN1, hN⟩, hκ⟩ := hd
  obtain ⟨x0, x1, rfl⟩ : ∃ x0 x1, args = #[x0, x1] := by
    obtain ⟨la⟩ := args
    match la, ht with
    | [x0, x1], _ => exact ⟨x0, x1, rfl⟩
    | [], h => exact h.elim
    | [_], h => exact h.2.elim
    | _ :: _ :: _ :: _, h => exact h.2.2.elim
  obtain ⟨t0, t1, _⟩ := ht
  have t0 := (T_one rfl t0).2
  simp only [R] at t0
  obtain ⟨ad, e0⟩ := t0
  obtain rfl : x0 = .slice ad 0 0 := by simpa using e0
  obtain ⟨ys, rfl, y1, _, y3⟩ := T_fn.1 t1
  simp only [RL, R, vsizes, vsize] at y1 y3
  obtain ⟨⟨hiN, y4⟩, _⟩ := y3
  obtain rfl : ys = #[.pointer (some ⟨E.ρ i, 0, none⟩)] := by
    refine Array.ext (by simpa using y1) fun k hk hk' => ?_
    have : k = 0 := by simp at hk'; omega
    subst this
    rw [Array.getElem?_eq_getElem hk] at y4
    simpa [poff] using y4
  have hsrc : SrcAt E.w.heap.size (E.ρ i) 0 N l E.w := by
    rcases hs.live i _ ((hget_eq h i _).1 hi) with ⟨_, sz, f, h⟩ | ⟨v0, _, cs, t, c1, c2, c3⟩
    · cases h
    simp only [rowsV, R] at c3
    obtain ⟨a, cp, c4, c5, c6⟩ := c3
    refine ⟨(Array.getElem?_eq_some_iff.1 c1).1, .slice a N cp, by simp [World.cell?, c1, c4], a, cp, rfl, c5, c6.imp id fun ⟨bb, off, e1, e2, e3⟩ => ⟨bb, off, e1, ?_, fun k hk q hq => ?_⟩⟩
    · cases b
      · exact hw.K _ (hw.S _ e2)
      · exact hw.K _ (hw.L _ e2)
    · have := (e3 k hk).2
      simp only [arrV, R, bf, vsize] at this
      have := (this q hq).2
      rw [Nat.mul_one] at this
      exact this
  rw [enters Tryz.func132 (by kernel_rfl) rfl]
  refine Calls.mono (appendSeq_calls hsrc hN) ?_
  rintro e w' ⟨B, x, rfl, hraw, hcell⟩
  obtain ⟨ad', cp, r, tB, tR, bs, cs, g1, g2, g3, g4⟩ := hraw.box
  have hx : x = .slice ad' N cp := by
    simp [World.cell?, g1, g2] at hcell
    exact hcell.symm
  subst hx
  rcases g4 with ⟨g4, _⟩ | ⟨rfl, g5, g6, g7, g8, g9⟩
  · omega
  have hb := hraw.below
  refine ⟨E.late w' r, _, _, rfl, Env.ext_late hw hb r, Env.wf_late hw hb r, ?_, ?_, hκ⟩
  · rw [hsnoc_eq]
    refine late_ok hw hs hb g5 g7 ?_ ?_
    · simp only [R]
      intro k hk
      refine ⟨by simp [arrV, vsize], ?_⟩
      simp only [arrV, R, bf, vsize]
      intro q hq
      exact ⟨trivial, by rw [show 0 + k * 32 + q * 1 = k * 32 + q by omega]; exact g9 k hk q hq⟩
    · simp only [vsize]
      omega
  · have hl : hlen h = E.N := by rw [hlen_eq, hs.len]
    refine T_sl.2 ⟨?_, some ⟨r, 0, none⟩, cp, rfl, Nat.le_refl _, g3, .inr ⟨?_, ?_, cs, tR, (0, 0), ?_, ?_⟩⟩
    · rw [hl]; exact Nat.lt_succ_self _
    · simp [Env.late, hl]
    · simp [Env.late, hl, poff]
    · simp only [Env.late, hl, if_true]; exact g7
    · simp only [poff]; omega
end Go.Proofs.YtaihjcpfjgpmoaaGreatDoor

/- Sorting rows of bytes: few of them. -/
namespace Go.Proofs.YtaihjcpfjgpmoaaGreatDoor
set_option linter.unusedVariables false
set_option linter.unusedSimpArgs false
set_option maxRecDepth 100000
open Go Go.DD
def F67c : FSpec := mkG (fun (a : List UInt8 × List UInt8) => [arrV 32 a.1, arrV 32 a.2]) (fun a => a.1.length = 32 ∧ a.2.length = 32) (fun a => cmpB a.1 a.2) (.int .i64)
theorem f67c_ok : FOk Tryz.prog [] 53 F67c := mkG_of f67_ok
abbrev Rw := Nat → List UInt8
def swapAt (l : Rw) (j : Nat) : Rw := fun k => if k = j then l (j - 1) else if k = j - 1 then l j else l k
def insR (l : Rw) : Nat → Rw | 0 => l | j + 1 => if cmpB (l (j + 1)) (l j) < 0 then insR (swapAt l (j + 1)) j else l
def sortI (l : Rw) : Nat → Rw | 0 => l | m + 1 => insR (sortI l m) (m + 1)
theorem swapAt_len {l : Rw} {n j : Nat} (h : ∀ k, k < n → (l k).length = 32) (hj : j < n) : ∀ k, k < n → (swapAt l j k).length = 32 := fun k hk => by
  unfold swapAt
  split
  · exact h _ (by omega)
  · split
    · exact h _ hj
    · exact h k hk
theorem insR_len {n : Nat} : ∀ {j : Nat} {l : Rw}, (∀ k, k < n → (l k).length = 32) → j < n → ∀ k, k < n → (insR l j k).length = 32
  | 0, l, h, _ => h
  | j + 1, l, h, hj => by
    unfold insR
    split
    · exact insR_len (swapAt_len h hj) (by omega)
    · exact h
theorem sortI_len {n : Nat} {l : Rw} (h : ∀ k, k < n → (l k).length = 32) : ∀ {m : Nat}, m < n → ∀ k, k < n → (sortI l m k).length = 32
  | 0, _ => h
  | m + 1, hm => insR_len (sortI_len h (by omega)) hm
def rowV32 (n : Nat) (l : Rw) : V := .row 32 n fun k => arrV 32 (l k)
structure SrA where
  n : Nat
  l : Rw
def H142 : SpecH := mkHS (fun (x : SrA) => [.sl 0 [] 32 0 x.n x.n, .int .i64 0, .int .i64 (x.n : Nat), .fn 53 .nil]) (fun x => [some (rowV32 x.n x.l)]) (fun x => x.n ≤ 12 ∧ ∀ k, k < x.n → (x.l k).length = 32) (fun x => .tup .nil) (fun x => [some (rowV32 x.n (sortI x.l (x.n - 1)))])
theorem c142_ok : CtxOk Tryz.prog (ctx Tryz.f173.ntmps [(53, F67c)] []) := ctxOk Tryz.f173.ntmps [(53, F67c)] [] (FL.all (.cons f67c_ok .nil)) (HL.all .nil)
def S142 : SpecH := fun xs h κ => xs.length = 4 ∧ inlineS Tryz.prog (ctx Tryz.f173.ntmps [(53, F67c)] []) (bodyOf Tryz.f173) Tryz.f173.results.toList xs h κ
theorem s142_ok : SpecHOk Tryz.prog [] 173 S142 := inline_ok (c := bodyOf Tryz.f173) (np := 4) c142_ok Tryz.func173 rfl (by decide) rfl (by decide)
structure InX where
  j : Nat
  g : Rw
theorem h142_ok : SpecHOk Tryz.prog [] 173 H142 := mkHS_ok s142_ok (fun ⟨n, l⟩ κ ⟨hn, hl⟩ h => by
  refine ⟨rfl, ?_⟩
  replace hn : n ≤ 12 := hn
  replace hl : ∀ k, k < n → (l k).length = 32 := hl
  refine vc_ok (CtxOk.inner c142_ok _) mixed 1000 _ [] _ (by kernel_rfl) rfl ?_
  conv => whnf
  refine OK_loopC (ι := Nat) (fun i => [(0, .sl 0 [] 32 0 n n), (1, .int .i64 0), (2, .int .i64 (n : Nat)), (3, .fn 53 .nil), (8, .int .i64 (i : Nat))]) (fun i => [some (rowV32 n (sortI l (i - 1)))]) (fun i => 1 ≤ i ∧ (i ≤ n ∨ i = 1)) (fun i => n - i) 1 [some 0] ?_ (fun i hi => vc_ok (CtxOk.inner c142_ok _) mixed 1000 _ [] _ (by kernel_rfl) rfl ?_)
  · conv => whnf
    repeat' (first | (refine And.intro (fun _ => ?_) (fun _ => ?_) <;> conv => whnf) | (refine And.intro ?_ ?_ <;> conv => whnf))
    all_goals try first | exact ⟨rfl⟩ | exact ⟨⟨rfl, rfl⟩⟩ | exact ⟨⟨rfl, rfl, rfl⟩⟩ | exact ⟨by omega⟩ | exact ⟨⟨by omega, by omega⟩⟩ | exact ⟨⟨by omega, by omega, by omega⟩⟩
    exact ⟨fun k _ => leV_refl _ (by simp [arrV, pln, bf])⟩
  · obtain ⟨hi1, hi2⟩ := hi
    conv => whnf
    refine And.intro (fun h3 => ?_) (fun h3 => ?_) <;> conv => whnf
    · have hin : i < n := by simpa using h3
      obtain ⟨m, rfl⟩ : ∃ m, i = m + 1 := ⟨i - 1, by omega⟩
      rw [Nat.add_sub_cancel]
      have hl0 := sortI_len hl (m := m) (by omega)
      refine OK_loopC (ι := InX) (fun x => [(0, .sl 0 [] 32 0 n n), (1, .int .i64 0), (2, .int .i64 (n : Nat)), (3, .fn 53 .nil), (8, .int .i64 ((m + 1 : Nat) : Int)), (9, .int .i64 (x.j : Nat))]) (fun x => [some (rowV32 n x.g)]) (fun x => x.j ≤ m + 1 ∧ insR x.g x.j = sortI l (m + 1) ∧ ∀ k, k < n → (x.g k).length = 32) (fun x => x.j) ⟨m + 1, sortI l m⟩ [some 0] ?_ (fun x hx => vc_ok (CtxOk.inner c142_ok _) mixed 1000 _ [] _ (by kernel_rfl) rfl ?_)
      · conv => whnf
        repeat' (first | (refine And.intro (fun _ => ?_) (fun _ => ?_) <;> conv => whnf) | (refine And.intro ?_ ?_ <;> conv => whnf))
        all_goals try first | exact ⟨rfl⟩ | exact ⟨⟨rfl, rfl⟩⟩ | exact ⟨⟨rfl, rfl, rfl⟩⟩ | exact ⟨by omega⟩ | exact ⟨⟨by omega, by omega⟩⟩ | exact ⟨⟨by omega, by omega, by omega⟩⟩ | exact ⟨fun k _ => leV_refl _ (by simp [arrV, pln, bf])⟩
        · exact ⟨⟨Nat.le_refl _, rfl, hl0⟩⟩
      · obtain ⟨hx1, hx2, hx3⟩ := hx
        have e1 : 0 < x.j → IntKind.i64.wrap ((x.j : Int) - 1) = ((x.j - 1 : Nat) : Int) := fun h => by rw [wrap_id (by omega) (by omega)]; omega
        have e2 : insR x.g x.j = if 0 < x.j ∧ cmpB (x.g x.j) (x.g (x.j - 1)) < 0 then insR (swapAt x.g x.j) (x.j - 1) else x.g := by
          generalize x.j = j
          cases j with
          | zero => rfl
          | succ p =>
            show (if cmpB (x.g (p + 1)) (x.g p) < 0 then insR (swapAt x.g (p + 1)) p else x.g) = _
            simp
        conv => whnf
        repeat' (first | (refine And.intro (fun _ => ?_) (fun _ => ?_) <;> conv => whnf) | (refine And.intro ?_ ?_ <;> conv => whnf))
        all_goals try first | exact ⟨rfl⟩ | exact ⟨⟨rfl, rfl⟩⟩ | exact ⟨⟨rfl, rfl, rfl⟩⟩ | exact ⟨by omega⟩ | exact ⟨⟨by omega, by omega⟩⟩ | exact ⟨⟨by omega, by omega, by omega⟩⟩ | exact ⟨fun _ _ => trivial⟩
        all_goals (try simp only [decide_eq_true_eq, decide_eq_false_iff_not, Int.toNat_natCast, Nat.zero_add] at *)
        all_goals try rw [e1 (by omega)]
        all_goals try exact ⟨by omega⟩
        all_goals try exact ⟨by rw [Int.toNat_natCast]; omega⟩
        · rename_i hj
          replace hj : 0 < x.j := by omega
          refine ⟨(x.g x.j, x.g (x.j - 1)), ⟨AE.refl _, AE.of ?_, trivial⟩, ⟨hx3 _ (by omega), hx3 _ (by omega)⟩, ?_⟩
          · rw [Int.toNat_natCast]; rfl
          intro r hr
          replace hr : r = cmpB (x.g x.j) (x.g (x.j - 1)) := hr
          rw [← hr] at e2
          conv => whnf
          repeat' (first | (refine And.intro (fun _ => ?_) (fun _ => ?_) <;> conv => whnf) | (refine And.intro ?_ ?_ <;> conv => whnf))
          all_goals try first | exact ⟨rfl⟩ | exact ⟨⟨rfl, rfl⟩⟩ | exact ⟨⟨rfl, rfl, rfl⟩⟩ | exact ⟨by omega⟩ | exact ⟨⟨by omega, by omega⟩⟩ | exact ⟨⟨by omega, by omega, by omega⟩⟩ | exact ⟨fun _ _ => trivial⟩
          · generalize hq : fitB _ _ = q
            have hq2 : q = true := by
              rw [← hq]
              show fitB _ (if 0 + (IntKind.i64.wrap ((x.j : Int) - 1)).toNat = 0 + (x.j : Int).toNat then _ else _) = true
              split <;> rfl
            subst hq2
            clear hq
            conv => whnf
            rename_i hr2
            have hr3 : r < 0 := by first | exact hr2 | exact of_decide_eq_true hr2
            rw [if_pos ⟨hj, hr3⟩] at e2
            have e3 : 0 + (IntKind.i64.wrap ((x.j : Int) - 1)).toNat = x.j - 1 := by rw [e1 hj, Int.toNat_natCast]; omega
            refine ⟨⟨x.j - 1, swapAt x.g x.j⟩, [some 0], ?_⟩
            conv => whnf
            repeat' (refine And.intro ?_ ?_ <;> conv => whnf)
            all_goals try first | exact ⟨rfl⟩ | exact ⟨⟨rfl, rfl⟩⟩ | exact ⟨⟨rfl, rfl, rfl⟩⟩ | exact ⟨by omega⟩ | exact ⟨⟨by omega, by omega⟩⟩ | exact ⟨⟨by omega, by omega, by omega⟩⟩
            · exact ⟨by rw [e1 hj]⟩
            · refine ⟨fun k _ => leV_eq ?_ (by simp [arrV, pln, bf])⟩
              show _ = arrV 32 (swapAt x.g x.j k)
              by_cases k1 : k = x.j - 1
              · refine (if_pos (k1.trans e3.symm)).trans ?_
                unfold swapAt
                rw [if_neg (by omega), if_pos k1]
                exact congrArg (fun q => arrV 32 (x.g q)) (show 0 + (x.j : Int).toNat = x.j by omega)
              · refine (if_neg (fun h => k1 (h.trans e3))).trans ?_
                unfold swapAt
                by_cases k2 : k = x.j
                · refine (if_pos (by omega)).trans ?_
                  rw [if_pos k2]
                  exact congrArg (fun q => arrV 32 (x.g q)) e3
                · refine (if_neg (by omega)).trans ?_
                  rw [if_neg k2, if_neg k1]
            · exact ⟨⟨⟨by show x.j - 1 ≤ m + 1; omega, e2.symm.trans hx2, swapAt_len hx3 (by omega)⟩, by show x.j - 1 < x.j; omega⟩⟩
          · rename_i hr2
            have hr3 : ¬ r < 0 := by first | exact hr2 | exact of_decide_eq_false hr2
            rw [if_neg (fun h => hr3 h.2)] at e2
            rw [e2] at hx2
            refine vc_ok (CtxOk.inner c142_ok _) mixed 1000 _ [] _ (by kernel_rfl) rfl ?_
            refine ⟨m + 1 + 1, [some 0], ?_⟩
            conv => whnf
            repeat' (refine And.intro ?_ ?_ <;> conv => whnf)
            all_goals try first | exact ⟨rfl⟩ | exact ⟨⟨rfl, rfl⟩⟩ | exact ⟨⟨rfl, rfl, rfl⟩⟩ | exact ⟨by omega⟩ | exact ⟨⟨by omega, by omega⟩⟩ | exact ⟨⟨by omega, by omega, by omega⟩⟩
            · exact ⟨by rw [wrap_id (by omega) (by omega)]; rfl⟩
            · refine ⟨fun k _ => leV_eq ?_ (by simp [arrV, pln, bf])⟩
              rw [hx2]; rfl
        · rename_i hj
          replace hj : ¬ 0 < x.j := by omega
          rw [if_neg (fun h => hj h.1)] at e2
          rw [e2] at hx2
          refine vc_ok (CtxOk.inner c142_ok _) mixed 1000 _ [] _ (by kernel_rfl) rfl ?_
          refine ⟨m + 1 + 1, [some 0], ?_⟩
          conv => whnf
          repeat' (refine And.intro ?_ ?_ <;> conv => whnf)
          all_goals try first | exact ⟨rfl⟩ | exact ⟨⟨rfl, rfl⟩⟩ | exact ⟨⟨rfl, rfl, rfl⟩⟩ | exact ⟨by omega⟩ | exact ⟨⟨by omega, by omega⟩⟩ | exact ⟨⟨by omega, by omega, by omega⟩⟩
          · exact ⟨by rw [wrap_id (by omega) (by omega)]; rfl⟩
          · refine ⟨fun k _ => leV_eq ?_ (by simp [arrV, pln, bf])⟩
            rw [hx2]; rfl
    · have hin : ¬ i < n := by
        have : ¬ ((i : Nat) : Int) < (n : Nat) := by simpa using h3
        omega
      have e : i - 1 = n - 1 := by omega
      rw [e]
      refine ⟨[some 0], .tup .nil, [some (rowV32 n (sortI l (n - 1)))], ?_⟩
      conv => whnf
      repeat' (refine And.intro ?_ ?_ <;> conv => whnf)
      all_goals try first | exact ⟨rfl⟩ | exact ⟨⟨rfl, rfl⟩⟩ | exact ⟨⟨rfl, rfl, rfl⟩⟩ | exact ⟨by omega⟩ | exact ⟨⟨by omega, by omega⟩⟩ | exact ⟨⟨by omega, by omega, by omega⟩⟩ | exact ⟨fun k _ => leV_refl _ (by simp [arrV, pln, bf])⟩
      exact h
  ) (fun _ => by simp) (fun _ => by simp [rok, roks]) (fun x u hu => by
    simp at hu; subst hu
    simp only [rowV32, rok]
    intro k _
    simp only [arrV, noref]
    intro q _
    trivial)
end Go.Proofs.YtaihjcpfjgpmoaaGreatDoor

/- slices.SortFunc, of few rows. -/
namespace Go.Proofs.YtaihjcpfjgpmoaaGreatDoor
set_option linter.unusedVariables false
set_option linter.unusedSimpArgs false
set_option maxRecDepth 100000
open Go Go.DD
def lenN (n : Nat) : Nat := if n = 0 then 0 else Nat.log2 n + 1
def F134 : FSpec := mkG (fun (n : Nat) => [.int .u64 (n : Nat)]) (fun n => n ≤ 8) (fun n => lenN n) (fun r => .int .i64 (r : Nat))
def FNo : FSpec := fun _ _ => False
theorem fno_ok {P : Program} {gl : List (Nat × V)} {n : Nat} : FOk P gl n FNo := ⟨fun _ _ h => h.elim, fun _ _ h => h.elim⟩
def HNo : SpecH := fun _ _ _ => False
theorem hno_ok {P : Program} {gl : List (Nat × V)} {n : Nat} : SpecHOk P gl n HNo := ⟨fun _ _ _ _ _ h => h, fun _ _ _ _ _ _ _ _ _ h => h.elim⟩
theorem f151_ok : FOk Tryz.prog [] 182 F134 := mkG_ok fun n hn => by
  show CP _ _ _ [.int .u64 (n : Nat)] fun v => Ld v (.int .i64 (lenN n : Nat))
  have hΓ := ctxOk Tryz.f182.ntmps [] [] (FL.all .nil) (HL.all .nil)
  refine CP_of_OK hΓ Tryz.func182 (c := bodyOf Tryz.f182) rfl (by decide) rfl rfl (by simp) (vc_ok hΓ mixed 1000 _ [] _ (by kernel_rfl) rfl ?_)
  match n, hn with
  | 0, _ | 1, _ | 2, _ | 3, _ | 4, _ | 5, _ | 6, _ | 7, _ | 8, _ =>
    conv => whnf
    repeat' (first | (refine And.intro (fun hp => ?_) (fun hp => ?_) <;> first | (exfalso; revert hp; simp <;> omega; done) | conv => whnf) | (refine And.intro ?_ ?_ <;> conv => whnf))
    · exact ⟨by decide⟩
    · exact Ld.of (congrArg (V.int .i64) (by decide))
theorem f134_ok : FOk Tryz.prog [] 134 F134 := mkG_ok fun n hn => by
  show CP _ _ _ [.int .u64 (n : Nat)] fun v => Ld v (.int .i64 (lenN n : Nat))
  have hΓ := ctxOk Tryz.f134.ntmps [(182, F134), (181, FNo)] [] (FL.all (.cons f151_ok (.cons fno_ok .nil))) (HL.all .nil)
  refine CP_of_OK hΓ Tryz.func134 (c := bodyOf Tryz.f134) rfl (by decide) rfl rfl (by simp) (vc_ok hΓ mixed 1000 _ [] _ (by kernel_rfl) rfl ?_)
  conv => whnf
  refine ⟨n, ⟨AE.refl _, trivial⟩, ⟨hn⟩, ?_⟩
  intro r hr
  replace hr : r = lenN n := hr
  conv => whnf
  repeat' (first | (refine And.intro (fun _ => ?_) (fun _ => ?_) <;> conv => whnf) | (refine And.intro ?_ ?_ <;> conv => whnf))
  rw [hr]
  exact Ld.refl _
structure SrL where
  n : Nat
  l : Rw
  lim : Int
def H133 : SpecH := mkHS (fun (x : SrL) => [.sl 0 [] 32 0 x.n x.n, .int .i64 0, .int .i64 (x.n : Nat), .int .i64 x.lim, .fn 53 .nil]) (fun x => [some (rowV32 x.n x.l)]) (fun x => x.n ≤ 12 ∧ ∀ k, k < x.n → (x.l k).length = 32) (fun x => .tup .nil) (fun x => [some (rowV32 x.n (sortI x.l (x.n - 1)))])
theorem c133_ok : CtxOk Tryz.prog (ctx Tryz.f133.ntmps [] [(173, H142), (174, HNo), (175, HNo), (176, HNo), (177, HNo), (178, HNo), (179, HNo), (180, HNo), (133, HNo)]) := ctxOk Tryz.f133.ntmps [] [(173, H142), (174, HNo), (175, HNo), (176, HNo), (177, HNo), (178, HNo), (179, HNo), (180, HNo), (133, HNo)] (FL.all .nil) (HL.all (.cons h142_ok (.cons hno_ok (.cons hno_ok (.cons hno_ok (.cons hno_ok (.cons hno_ok (.cons hno_ok (.cons hno_ok (.cons hno_ok .nil))))))))))
def S133 : SpecH := fun xs h κ => xs.length = 5 ∧ inlineS Tryz.prog (ctx Tryz.f133.ntmps [] [(173, H142), (174, HNo), (175, HNo), (176, HNo), (177, HNo), (178, HNo), (179, HNo), (180, HNo), (133, HNo)]) (bodyOf Tryz.f133) Tryz.f133.results.toList xs h κ
theorem s133_ok : SpecHOk Tryz.prog [] 133 S133 := inline_ok (c := bodyOf Tryz.f133) (np := 5) c133_ok Tryz.func133 rfl (by decide) rfl (by decide)
theorem h133_ok : SpecHOk Tryz.prog [] 133 H133 := mkHS_ok s133_ok (fun ⟨n, l, lim⟩ κ ⟨hn, hl⟩ h => by
  refine ⟨rfl, ?_⟩
  replace hn : n ≤ 12 := hn
  replace hl : ∀ k, k < n → (l k).length = 32 := hl
  refine vc_ok (CtxOk.inner c133_ok _) mixed 1000 _ [] _ (by kernel_rfl) rfl ?_
  conv => whnf
  refine OK_loopC (ι := Nat) (fun i => [(0, .sl 0 [] 32 0 n n), (1, .int .i64 0), (2, .int .i64 (n : Nat)), (3, .int .i64 lim), (4, .fn 53 .nil), (10, .tt), (11, .tt)]) (fun i => [some (rowV32 n l)]) (fun i => True) (fun i => 0) 0 [some 0] ?_ (fun i hi => vc_ok (CtxOk.inner c133_ok _) mixed 1000 _ [] _ (by kernel_rfl) rfl ?_)
  · conv => whnf
    repeat' (first | (refine And.intro (fun _ => ?_) (fun _ => ?_) <;> conv => whnf) | (refine And.intro ?_ ?_ <;> conv => whnf))
    all_goals try first | exact ⟨rfl⟩ | exact ⟨⟨rfl, rfl⟩⟩ | exact ⟨⟨rfl, rfl, rfl⟩⟩ | exact ⟨by omega⟩ | exact ⟨⟨by omega, by omega⟩⟩ | exact ⟨⟨by omega, by omega, by omega⟩⟩ | exact ⟨fun k _ => leV_refl _ (by simp [arrV, pln, bf])⟩ | exact ⟨trivial⟩
  · have ew : IntKind.i64.wrap ((n : Int) - 0) = (n : Int) := by rw [wrap_id (by omega) (by omega)]; omega
    conv => whnf
    refine And.intro (fun h1 => ?_) (fun h1 => ?_)
    · conv => whnf
      refine ⟨⟨n, l⟩, [some 0], ?_⟩
      conv => whnf
      repeat' (first | (refine And.intro (fun _ => ?_) (fun _ => ?_) <;> conv => whnf) | (refine And.intro ?_ ?_ <;> conv => whnf))
      all_goals try first | exact ⟨rfl⟩ | exact ⟨⟨rfl, rfl⟩⟩ | exact ⟨⟨rfl, rfl, rfl⟩⟩ | exact ⟨by omega⟩ | exact ⟨⟨by omega, by omega⟩⟩ | exact ⟨⟨by omega, by omega, by omega⟩⟩ | exact ⟨fun k _ => leV_refl _ (by simp [arrV, pln, bf])⟩ | exact ⟨⟨hn, hl⟩⟩
      refine ⟨[some 0], .tup .nil, [some (rowV32 n (sortI l (n - 1)))], ?_⟩
      conv => whnf
      repeat' (refine And.intro ?_ ?_ <;> conv => whnf)
      all_goals try first | exact ⟨rfl⟩ | exact ⟨⟨rfl, rfl⟩⟩ | exact ⟨⟨rfl, rfl, rfl⟩⟩ | exact ⟨by omega⟩ | exact ⟨⟨by omega, by omega⟩⟩ | exact ⟨⟨by omega, by omega, by omega⟩⟩ | exact ⟨fun k _ => leV_refl _ (by simp [arrV, pln, bf])⟩
      exact h
    · exfalso
      rw [ew] at h1
      have : ¬ (n : Int) ≤ 12 := of_decide_eq_false h1
      omega
  ) (fun _ => by simp) (fun _ => by simp [rok, roks]) (fun x u hu => by
    simp at hu; subst hu
    simp only [rowV32, rok]
    intro k _
    simp only [arrV, noref]
    intro q _
    trivial)
def H109 : SpecH := mkHS (fun (x : SrA) => [.sl 0 [] 32 0 x.n x.n, .fn 53 .nil]) (fun x => [some (rowV32 x.n x.l)]) (fun x => x.n ≤ 8 ∧ ∀ k, k < x.n → (x.l k).length = 32) (fun x => .tup .nil) (fun x => [some (rowV32 x.n (sortI x.l (x.n - 1)))])
theorem c109_ok : CtxOk Tryz.prog (ctx Tryz.f93.ntmps [(134, F134)] [(133, H133)]) := ctxOk Tryz.f93.ntmps [(134, F134)] [(133, H133)] (FL.all (.cons f134_ok .nil)) (HL.all (.cons h133_ok .nil))
def S109 : SpecH := fun xs h κ => xs.length = 2 ∧ inlineS Tryz.prog (ctx Tryz.f93.ntmps [(134, F134)] [(133, H133)]) (bodyOf Tryz.f93) Tryz.f93.results.toList xs h κ
theorem s109_ok : SpecHOk Tryz.prog [] 93 S109 := inline_ok (c := bodyOf Tryz.f93) (np := 2) c109_ok Tryz.func93 rfl (by decide) rfl (by decide)
theorem h109_ok : SpecHOk Tryz.prog [] 93 H109 := mkHS_ok s109_ok (fun ⟨n, l⟩ κ ⟨hn, hl⟩ h => by
  refine ⟨rfl, ?_⟩
  replace hn : n ≤ 8 := hn
  replace hl : ∀ k, k < n → (l k).length = 32 := hl
  refine vc_ok (CtxOk.inner c109_ok _) mixed 1000 _ [] _ (by kernel_rfl) rfl ?_
  conv => whnf
  refine ⟨n, ⟨AE.of ?_, trivial⟩, ⟨hn⟩, ?_⟩
  · refine congrArg (V.int .u64) ?_
    rw [IntKind.wrap_u64]
    show (n : Int) % 18446744073709551616 = (n : Int)
    omega
  intro r hr
  conv => whnf
  refine ⟨⟨n, l, r⟩, [some 0], ?_⟩
  conv => whnf
  repeat' (first | (refine And.intro (fun _ => ?_) (fun _ => ?_) <;> conv => whnf) | (refine And.intro ?_ ?_ <;> conv => whnf))
  all_goals try first | exact ⟨rfl⟩ | exact ⟨⟨rfl, rfl⟩⟩ | exact ⟨⟨rfl, rfl, rfl⟩⟩ | exact ⟨by omega⟩ | exact ⟨⟨by omega, by omega⟩⟩ | exact ⟨⟨by omega, by omega, by omega⟩⟩ | exact ⟨fun k _ => leV_refl _ (by simp [arrV, pln, bf])⟩ | exact ⟨⟨show n ≤ 12 by omega, hl⟩⟩
  refine ⟨[some 0], .tup .nil, [some (rowV32 n (sortI l (n - 1)))], ?_⟩
  conv => whnf
  repeat' (refine And.intro ?_ ?_ <;> conv => whnf)
  all_goals try first | exact ⟨rfl⟩ | exact ⟨⟨rfl, rfl⟩⟩ | exact ⟨⟨rfl, rfl, rfl⟩⟩ | exact ⟨by omega⟩ | exact ⟨⟨by omega, by omega⟩⟩ | exact ⟨⟨by omega, by omega, by omega⟩⟩ | exact ⟨fun k _ => leV_refl _ (by simp [arrV, pln, bf])⟩
  exact h
  ) (fun _ => by simp) (fun _ => by simp [rok, roks]) (fun x u hu => by
    simp at hu; subst hu
    simp only [rowV32, rok]
    intro k _
    simp only [arrV, noref]
    intro q _
    trivial)
end Go.Proofs.YtaihjcpfjgpmoaaGreatDoor
