/- Contracts of functions that change nothing of their caller's. -/
import Derived.Test.YtaekeldgnlphkaaD22
namespace Go.DD
set_option linter.unusedVariables false
open Go.RowKit

theorem expV_T {E : Env} {h : Heap} (hw : Wf E) (hs : SimH E h) {v : V} {κ : V → Prop} (hd : expV h v κ) : ∃ v', κ v' ∧ ∀ x, T E v x → T E.callee v' x := by
  obtain ⟨v', h1, h2, h3, h4, h5, h6⟩ := expV_ok hw hs v κ hd
  refine ⟨v', h1, fun x ht => ?_⟩
  by_cases hany : v = .any
  · rw [h5 hany]; trivial
  · have hnt : v.isTup = false := by
      cases v <;> first | rfl | (simp only [expV] at hd)
    have ht' : aggOk v x ∧ R E v (fun q => x.cells[q]?) 0 := by
      cases v <;> first | exact ht | exact absurd rfl hany | simp [V.isTup] at hnt
    have : aggOk v' x ∧ R E.callee v' (fun q => x.cells[q]?) 0 := ⟨by have := ht'.1; unfold aggOk at this ⊢; rw [h2, h4]; exact this, h6 _ _ ht'.2⟩
    cases v' <;> first | exact this | trivial | simp [V.isTup] at h3
theorem expL_T {E : Env} {h : Heap} (hw : Wf E) (hs : SimH E h) : ∀ (l : List V) (xs : List Value) (κ : List V → Prop), Ts E l xs → expL h l κ → ∃ l', κ l' ∧ Ts E.callee l' xs
  | [], [], κ, _, hd => ⟨[], hd, trivial⟩
  | v :: l, x :: xs, κ, ht, hd => by
    simp only [expL] at hd
    obtain ⟨v', h1, h2⟩ := expV_T hw hs hd
    obtain ⟨l', h3, h4⟩ := expL_T hw hs l xs _ ht.2 h1
    exact ⟨_, h3, h2 x ht.1, h4⟩
  | [], _ :: _, _, ht, _ => ht.elim
  | _ :: _, [], _, ht, _ => ht.elim

/-- What a function is known to do: for arguments like these, a result of which Φ holds; nothing that was there has changed. -/
def CP (P : Program) (gl : List (Nat × V)) (f : Nat) (as : List V) (Φ : V → Prop) : Prop :=
  ∀ (E : Env) (args : Array Value), Wf E → E.N = 0 → (∀ b, b < E.w.heap.size → E.K b) → GlOk gl E → Ts E as args.toList →
    UponV P (fun x w' => ∃ E' v, w' = E'.w ∧ Xt 0 E E' ∧ Wf E' ∧ T E' v x ∧ own v ∧ Φ v) ((callFunc f args).run P E.w)
/-- A contract: which arguments it takes, what it says of the result. -/
abbrev FSpec := List V → (V → Prop) → Prop
structure FOk (P : Program) (gl : List (Nat × V)) (f : Nat) (F : FSpec) : Prop where
  sng : ∀ as Φ, F as Φ → ∃ v, Φ v ∧ ∀ Φ' : V → Prop, Φ' v → F as Φ'
  ok : ∀ as Φ, F as Φ → CP P gl f as Φ
def callS (F : FSpec) : SpecP := fun as h κ => expL h as fun cs => F cs κ

theorem FOk.spec {P : Program} {gl : List (Nat × V)} {f : Nat} {F : FSpec} (hF : FOk P gl f F) : SpecPOk P gl f (callS F) := by
  constructor
  · intro as h κ hd
    obtain ⟨cs, h1, h2⟩ := expL_sng _ _ hd
    obtain ⟨v, h3, h4⟩ := hF.sng _ _ h1
    exact ⟨v, h3, fun κ' h' => h2 _ (h4 _ h')⟩
  · intro E h as args κ hw hs hgl hts hd
    obtain ⟨cs, h1, h2⟩ := expL_T hw hs _ _ _ hts hd
    refine UponV.mono (hF.ok _ _ h1 E.callee args (Env.callee_wf hw) rfl (fun _ h => h) (fun p hp => ⟨(hgl p hp).1, R_bareL (Env.callee_lee hw) _ _ _ (hgl p hp).2⟩) h2) fun x w' ⟨E', v, e1, e2, e3, e4, e5, e6⟩ => ?_
    subst e1
    have hx : Ext E { E with w := E'.w, S := E'.S, K := fun b => E.K b ∨ E'.S b } := {
      os := e2.os, tape := e2.tape, output := e2.output, size := e2.size, N := Nat.le_refl _, ρ := fun _ _ => rfl, vt := fun _ _ => rfl
      S := e2.S, S' := e2.S', L := fun _ => Iff.rfl, K := fun _ h => .inl h
      kept := fun b hb => e2.kept b (hw.K b hb)
      cells := e2.cells }
    have hT : T { E with w := E'.w, S := E'.S, K := fun b => E.K b ∨ E'.S b } v x := T_own (E := E') (E' := { E with w := E'.w, S := E'.S, K := fun b => E.K b ∨ E'.S b }) ⟨rfl, fun _ h => h, fun h => (by cases h)⟩ e5 e4
    have hold : ∀ b, E'.S b → b < E.w.heap.size → E.S b := fun b hb hlt => (e2.S' b hb).elim id fun h => absurd hlt (Nat.not_lt.2 h)
    refine ⟨{ E with w := E'.w, S := E'.S, K := fun b => E.K b ∨ E'.S b }, v, h, rfl, hx, ⟨fun b hb => .inr hb, fun b hb => .inl (hw.L b hb), fun b hb => ?_⟩, ⟨hs.len, fun i u hi => ?_, hs.inj⟩, hT, rfl, e6⟩
    · rcases hb with hb | hb
      · exact Nat.lt_of_lt_of_le (hw.K b hb) e2.size
      · exact e3.K b (e3.S b hb)
    · have hlt : E.vt i = false → E.ρ i < E.w.heap.size := fun hv => by
        rcases hs.live i u hi with ⟨h1, _⟩ | ⟨_, _, cs', t', h3, _⟩
        · rw [h1] at hv; cases hv
        · exact (Array.getElem?_eq_some_iff.1 h3).1
      refine (hs.live i u hi).ext hw hx (hs.lt hi) (fun hk hv hk' => ?_) (fun hv => e2.kept _ (hlt hv))
      rcases hk' with hk' | hk'
      · exact hk hk'
      · exact hk (hw.S _ (hold _ hk' (hlt hv)))

/-! ### A result -/
mutual
def outV (h : Heap) : V → (V → Prop) → Prop
  | .sl i p sz lo len _, κ => match hget h i with
    | some c => okq c p (match sub c p with
      | .row sz' n f => match Nat.beq sz sz' with
        | true => Ob (lo + len ≤ n) ∧ Ob (∀ k, k < len → own (f (lo + k))) ∧ κ (.imm false sz len fun k => f (lo + k))
        | false => False
      | _ => False)
    | none => False
  | .ref i p, κ => match hget h i with
    | some c => okq c p (Ob (own (sub c p) ∧ vsize (sub c p) ≠ 0) ∧ κ (.pim false (sub c p)))
    | none => False
  | .rref .., _ => False
  | .row sz n f, κ => Ob (∀ k, k < n → own (f k)) ∧ κ (.row sz n f)
  | .imm l sz n f, κ => match l with
    | true => False
    | false => Ob (∀ k, k < n → own (f k)) ∧ κ (.imm false sz n f)
  | .pim l v, κ => match l with
    | true => False
    | false => Ob (own v) ∧ κ (.pim false v)
  | .st l, κ => outVs h l fun l' => κ (.st l')
  | .fn g l, κ => outVs h l fun l' => κ (.fn g l')
  | .iface t v, κ => outV h v fun v' => κ (.iface t v')
  | .tup _, _ => False
  | .tt, κ => κ (.bool true)
  | .ff, κ => κ (.bool false)
  | .int k n, κ => κ (.int k n)
  | .bool b, κ => κ (.bool b)
  | .str s, κ => κ (.str s)
  | .nilp, κ => κ .nilp
  | .emp, κ => κ .emp
  | .nilf, κ => κ .nilf
  | .nili, κ => κ .nili
  | .any, κ => κ .any
def outVs (h : Heap) : Vs → (Vs → Prop) → Prop
  | .nil, κ => κ .nil
  | .cons v l, κ => outV h v fun v' => outVs h l fun l' => κ (.cons v' l')
end
/-- The environment in which a result stands: what was local is so no more. -/
def Env.out (E : Env) (h : Heap) : Env :=
  { E with N := 0, S := fun b => E.S b ∨ ∃ i v, h[i]? = some (some v) ∧ E.vt i = false ∧ E.ρ i = b, K := fun b => E.K b ∨ ∃ i v, h[i]? = some (some v) ∧ E.vt i = false ∧ E.ρ i = b }
theorem Env.out_lee {E : Env} {h : Heap} : Lee true E (E.out h) := ⟨rfl, fun _ h => .inl h, fun h => by cases h⟩
theorem Env.out_wf {E : Env} {h : Heap} (hw : Wf E) (hs : SimH E h) : Wf (E.out h) :=
  ⟨fun b hb => hb.imp (hw.S b) id, fun b hb => .inl (hw.L b hb), fun b hb => by
    rcases hb with hb | ⟨i, v, h1, h2, rfl⟩
    · exact hw.K b hb
    · rcases hs.live i v h1 with ⟨h3, _⟩ | ⟨_, _, cs', t', h3, _⟩
      · rw [h3] at h2; cases h2
      · exact (Array.getElem?_eq_some_iff.1 h3).1⟩
section
variable {E : Env} {h : Heap}
mutual
theorem outV_ok (hs : SimH E h) : ∀ (v : V) (κ : V → Prop), outV h v κ → ∃ v', κ v' ∧ own v' ∧ v'.isAgg = v.isAgg ∧ v'.isTup = false ∧ vsize v' = vsize v ∧ (v = .any → v' = .any) ∧ ∀ c o, R E v c o → R (E.out h) v' c o
  | .sl i p sz lo len cap, κ, hd => by
    simp only [outV] at hd
    split at hd
    · rename_i cc hc
      obtain ⟨hp, hk⟩ := okq_okp _ _ _ hd
      split at hk
      · rename_i sz' n f hsub
        split at hk
        · rename_i hb
          rw [Nat.beq_eq] at hb
          subst hb
          obtain ⟨⟨h1⟩, ⟨h2⟩, hk⟩ := hk
          refine ⟨_, hk, by simp only [own]; exact h2, rfl, rfl, rfl, fun e => (by cases e), fun c o hr => ?_⟩
          simp only [R] at hr ⊢
          obtain ⟨hi, a, cp, h3, h4, h5, h6⟩ := hr
          refine ⟨a, cp, h3, by omega, ?_⟩
          by_cases hlen : len = 0
          · exact .inl hlen
          refine .inr ?_
          rcases h6 with h6 | ⟨h6, h7, _⟩
          · omega
          rcases live_cells hs hc with ⟨h8, _⟩ | ⟨_, h8, _, h9⟩
          · rw [h6] at h8; cases h8
          refine ⟨E.ρ i, poff p + lo * sz, h7, .inr ⟨i, cc, (hget_eq h i cc).1 hc, h6, rfl⟩, fun k hk => ?_⟩
          have h10 := R_sub p cc _ 0 hp h9
          rw [hsub] at h10
          simp only [R] at h10
          have h11 := h10 (lo + k) (by omega)
          refine ⟨h11.1, ?_⟩
          have h12 := R_own (E := E) (E' := (E.out h).bare) ⟨rfl, fun _ h => .inl h, fun h => by cases h⟩ _ _ _ (h2 k hk) h11.2
          rw [Nat.zero_add, Nat.add_mul, ← Nat.add_assoc] at h12
          exact h12
        · exact hk.elim
      · exact hk.elim
    · exact hd.elim
  | .ref i p, κ, hd => by
    simp only [outV] at hd
    split at hd
    · rename_i cc hc
      obtain ⟨hp, hk⟩ := okq_okp _ _ _ hd
      obtain ⟨⟨h1, h2⟩, hk⟩ := hk
      refine ⟨_, hk, by simp only [own]; exact h1, rfl, rfl, rfl, fun e => (by cases e), fun c o hr => ?_⟩
      simp only [R] at hr ⊢
      rcases live_cells hs hc with ⟨_, sz, f, rfl⟩ | ⟨h6, h8, _, h9⟩
      · rw [okp_virtual hp] at h2
        simp [sub, vsize] at h2
      · have h10 := R_sub p cc _ 0 hp h9
        rw [Nat.zero_add] at h10
        exact ⟨E.ρ i, poff p, hr.2, .inr ⟨i, cc, (hget_eq h i cc).1 hc, h6, rfl⟩, R_own (E := E) (E' := (E.out h).bare) ⟨rfl, fun _ h => .inl h, fun h => by cases h⟩ _ _ _ h1 h10⟩
    · exact hd.elim
  | .rref i p sz lo n, κ, hd => by simp only [outV] at hd
  | .row sz n f, κ, hd => by
    simp only [outV] at hd
    have : own (.row sz n f) := by simp only [own]; exact hd.1.out
    exact ⟨_, hd.2, this, rfl, rfl, rfl, fun e => (by cases e), fun c o hr => R_own Env.out_lee _ c o this hr⟩
  | .imm l sz n f, κ, hd => by
    simp only [outV] at hd
    cases l
    · have : own (.imm false sz n f) := by simp only [own]; exact hd.1.out
      exact ⟨_, hd.2, this, rfl, rfl, rfl, fun e => (by cases e), fun c o hr => R_own Env.out_lee _ c o this hr⟩
    · exact hd.elim
  | .pim l v, κ, hd => by
    simp only [outV] at hd
    cases l
    · have : own (.pim false v) := by simp only [own]; exact hd.1.out
      exact ⟨_, hd.2, this, rfl, rfl, rfl, fun e => (by cases e), fun c o hr => R_own Env.out_lee _ c o this hr⟩
    · exact hd.elim
  | .st l, κ, hd => by
    simp only [outV] at hd
    obtain ⟨l', h1, h2, h3, _, h4⟩ := outVs_ok hs l _ hd
    exact ⟨_, h1, by simp only [own]; exact h3, rfl, rfl, by simp only [vsize, h2], fun e => (by cases e), fun c o hr => by simp only [R] at hr ⊢; exact h4 c o hr⟩
  | .fn g l, κ, hd => by
    simp only [outV] at hd
    obtain ⟨l', h1, h2, h3, h3', h4⟩ := outVs_ok hs l _ hd
    exact ⟨_, h1, by simp only [own]; exact h3, rfl, rfl, rfl, fun e => (by cases e), fun c o hr => by
      simp only [R] at hr ⊢
      obtain ⟨xs, h5, h6, h7, h8⟩ := hr
      exact ⟨xs, h5, by rw [h2]; exact h6, h3' h7, h4 _ _ h8⟩⟩
  | .iface t v, κ, hd => by
    simp only [outV] at hd
    obtain ⟨v', h1, h1', h2, h3, h4, _, h5⟩ := outV_ok hs v _ hd
    exact ⟨_, h1, by simp only [own]; exact h1', rfl, rfl, rfl, fun e => (by cases e), fun c o hr => by
      simp only [R] at hr ⊢
      obtain ⟨x, h6, h7, h8⟩ := hr
      exact ⟨x, h6, by unfold aggOk at h7 ⊢; rw [h2, h4]; exact h7, h5 _ _ h8⟩⟩
  | .tup _, κ, hd => by simp only [outV] at hd
  | .tt, κ, hd | .ff, κ, hd => by
    simp only [outV] at hd
    exact ⟨_, hd, by simp only [own], rfl, rfl, rfl, fun e => (by cases e), fun c o hr => by simp only [R] at hr ⊢; exact hr⟩
  | .int k n, κ, hd | .bool _, κ, hd | .str _, κ, hd | .nilp, κ, hd | .emp, κ, hd | .nilf, κ, hd | .nili, κ, hd | .any, κ, hd => by
    simp only [outV] at hd
    exact ⟨_, hd, by simp only [own], rfl, rfl, rfl, fun e => e, fun c o hr => R_own Env.out_lee _ c o (by simp only [own]) hr⟩
theorem outVs_ok (hs : SimH E h) : ∀ (l : Vs) (κ : Vs → Prop), outVs h l κ → ∃ l', κ l' ∧ vsizes l' = vsizes l ∧ owns l' ∧ (l.flat = true → l'.flat = true) ∧ ∀ c o, RL E l c o → RL (E.out h) l' c o
  | .nil, κ, hd => by simp only [outVs] at hd; exact ⟨_, hd, rfl, by simp only [owns], fun h => h, fun c o _ => by simp only [RL]⟩
  | .cons v l, κ, hd => by
    simp only [outVs] at hd
    obtain ⟨v', h1, h1', h2, h3, h4, _, h5⟩ := outV_ok hs v _ hd
    obtain ⟨l', h6, h7, h7', h8, h9⟩ := outVs_ok hs l _ h1
    refine ⟨_, h6, by simp only [vsizes, h4, h7], by simp only [owns]; exact ⟨h1', h7'⟩, fun hf => ?_, fun c o hr => ?_⟩
    · simp only [Vs.flat, Bool.and_eq_true, Bool.not_eq_true'] at hf ⊢
      exact ⟨⟨by rw [h2]; exact hf.1.1, h3⟩, h8 hf.2⟩
    · simp only [RL] at hr ⊢
      exact ⟨h5 _ _ hr.1, by rw [h4]; exact h9 _ _ hr.2⟩
end
theorem outV_T (hs : SimH E h) {v : V} {κ : V → Prop} (hd : outV h v κ) : ∃ v', κ v' ∧ own v' ∧ v'.isTup = false ∧ ∀ x, T E v x → T (E.out h) v' x := by
  obtain ⟨v', h1, h1', h2, h3, h4, h5, h6⟩ := outV_ok hs v κ hd
  refine ⟨v', h1, h1', h3, fun x ht => ?_⟩
  by_cases hany : v = .any
  · rw [h5 hany]; trivial
  · have hnt : v.isTup = false := by
      cases v <;> first | rfl | (simp only [outV] at hd)
    have ht' : aggOk v x ∧ R E v (fun q => x.cells[q]?) 0 := by
      cases v <;> first | exact ht | exact absurd rfl hany | simp [V.isTup] at hnt
    have : aggOk v' x ∧ R (E.out h) v' (fun q => x.cells[q]?) 0 := ⟨by have := ht'.1; unfold aggOk at this ⊢; rw [h2, h4]; exact this, h6 _ _ ht'.2⟩
    cases v' <;> first | exact this | trivial | simp [V.isTup] at h3
end
end Go.DD
