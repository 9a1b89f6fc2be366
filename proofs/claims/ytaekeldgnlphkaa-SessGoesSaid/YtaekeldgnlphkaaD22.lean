/- A call: what its arguments are to the callee, what its result is to the caller. -/
import Derived.Test.YtaekeldgnlphkaaD21
namespace Go.DD
set_option linter.unusedVariables false
open Go.RowKit

mutual
/-- What a value of the caller's is to a callee that changes nothing of the caller's. -/
def expV (h : Heap) : V → (V → Prop) → Prop
  | .sl i p sz lo len _, κ => match hget h i with
    | some c => okq c p (match sub c p with
      | .row sz' n f => match Nat.beq sz sz' with
        | true => Ob (lo + len ≤ n) ∧ Ob (∀ k, k < len → noref (f (lo + k))) ∧ κ (.imm true sz len fun k => f (lo + k))
        | false => False
      | _ => False)
    | none => False
  | .ref i p, κ => match hget h i with
    | some c => okq c p (Ob (noref (sub c p) ∧ vsize (sub c p) ≠ 0) ∧ κ (.pim true (sub c p)))
    | none => False
  | .rref i p sz lo n, κ => match hget h i with
    | some c => okq c p (match sub c p with
      | .row sz' m f => match Nat.beq sz sz' with
        | true => Ob (lo + n ≤ m ∧ n ≠ 0) ∧ Ob (∀ k, k < n → noref (f (lo + k))) ∧ κ (.pim true (.row sz n fun k => f (lo + k)))
        | false => False
      | _ => False)
    | none => False
  | .row sz n f, κ => Ob (∀ k, k < n → noref (f k)) ∧ κ (.row sz n f)
  | .st l, κ => expVs h l fun l' => κ (.st l')
  | .fn g l, κ => expVs h l fun l' => κ (.fn g l')
  | .iface t v, κ => expV h v fun v' => κ (.iface t v')
  | .tup _, _ => False
  | .pim l v, κ => κ (.pim l v)
  | .int k n, κ => κ (.int k n)
  | .tt, κ => κ .tt
  | .ff, κ => κ .ff
  | .bool b, κ => κ (.bool b)
  | .str s, κ => κ (.str s)
  | .nilp, κ => κ .nilp
  | .emp, κ => κ .emp
  | .imm l sz n f, κ => κ (.imm l sz n f)
  | .nilf, κ => κ .nilf
  | .nili, κ => κ .nili
  | .any, κ => κ .any
def expVs (h : Heap) : Vs → (Vs → Prop) → Prop
  | .nil, κ => κ .nil
  | .cons v l, κ => expV h v fun v' => expVs h l fun l' => κ (.cons v' l')
end
def expL (h : Heap) : List V → (List V → Prop) → Prop
  | [], κ => κ []
  | v :: l, κ => expV h v fun v' => expL h l fun l' => κ (v' :: l')

mutual
theorem expV_sng {h : Heap} : ∀ (v : V) (κ : V → Prop), expV h v κ → ∃ v', κ v' ∧ ∀ κ' : V → Prop, κ' v' → expV h v κ'
  | .sl i p sz lo len cap, κ, hd => by
    simp only [expV] at hd ⊢
    split at hd
    · obtain ⟨h1, h2⟩ := okq_sng _ _ _ hd
      split at h1
      · split at h1
        · exact ⟨_, h1.2.2, fun κ' h' => by simp only [*]; exact h2 _ ⟨trivial, trivial, trivial⟩⟩
        · exact h1.elim
      · exact h1.elim
    · exact hd.elim
  | .ref i p, κ, hd => by
    simp only [expV] at hd ⊢
    split at hd
    · obtain ⟨h1, h2⟩ := okq_sng _ _ _ hd
      exact ⟨_, h1.2, fun κ' h' => by simp only [*]; exact h2 _ ⟨trivial, trivial⟩⟩
    · exact hd.elim
  | .rref i p sz lo n, κ, hd => by
    simp only [expV] at hd ⊢
    split at hd
    · obtain ⟨h1, h2⟩ := okq_sng _ _ _ hd
      split at h1
      · split at h1
        · exact ⟨_, h1.2.2, fun κ' h' => by simp only [*]; exact h2 _ ⟨trivial, trivial, trivial⟩⟩
        · exact h1.elim
      · exact h1.elim
    · exact hd.elim
  | .row sz n f, κ, hd => by simp only [expV] at hd ⊢; exact ⟨_, hd.2, fun κ' h' => ⟨hd.1, h'⟩⟩
  | .st l, κ, hd => by
    simp only [expV] at hd ⊢
    obtain ⟨l', h1, h2⟩ := expVs_sng l _ hd
    exact ⟨_, h1, fun κ' h' => h2 _ h'⟩
  | .fn g l, κ, hd => by
    simp only [expV] at hd ⊢
    obtain ⟨l', h1, h2⟩ := expVs_sng l _ hd
    exact ⟨_, h1, fun κ' h' => h2 _ h'⟩
  | .iface t v, κ, hd => by
    simp only [expV] at hd ⊢
    obtain ⟨l', h1, h2⟩ := expV_sng v _ hd
    exact ⟨_, h1, fun κ' h' => h2 _ h'⟩
  | .tup _, κ, hd => by simp only [expV] at hd
  | .int .., κ, hd | .tt, κ, hd | .ff, κ, hd | .bool _, κ, hd | .str _, κ, hd | .nilp, κ, hd | .pim .., κ, hd | .emp, κ, hd | .imm .., κ, hd | .nilf, κ, hd | .nili, κ, hd | .any, κ, hd => by
    simp only [expV] at hd ⊢; exact ⟨_, hd, fun κ' h' => h'⟩
theorem expVs_sng {h : Heap} : ∀ (l : Vs) (κ : Vs → Prop), expVs h l κ → ∃ l', κ l' ∧ ∀ κ' : Vs → Prop, κ' l' → expVs h l κ'
  | .nil, κ, hd => by simp only [expVs] at hd ⊢; exact ⟨_, hd, fun κ' h' => h'⟩
  | .cons v l, κ, hd => by
    simp only [expVs] at hd ⊢
    obtain ⟨v', h1, h2⟩ := expV_sng v _ hd
    obtain ⟨l', h3, h4⟩ := expVs_sng l _ h1
    exact ⟨_, h3, fun κ' h' => h2 _ (h4 _ h')⟩
end
theorem expL_sng {h : Heap} : ∀ (l : List V) (κ : List V → Prop), expL h l κ → ∃ l', κ l' ∧ ∀ κ' : List V → Prop, κ' l' → expL h l κ'
  | [], κ, hd => ⟨_, hd, fun κ' h' => h'⟩
  | v :: l, κ, hd => by
    simp only [expL] at hd ⊢
    obtain ⟨v', h1, h2⟩ := expV_sng v _ hd
    obtain ⟨l', h3, h4⟩ := expL_sng l _ h1
    exact ⟨_, h3, fun κ' h' => h2 _ (h4 _ h')⟩

/-- The callee's environment: all that there is is kept. -/
def Env.callee (E : Env) : Env := { w := E.w, ρ := fun _ => 0, vt := fun _ => false, N := 0, S := E.S, L := fun b => b < E.w.heap.size, K := fun b => b < E.w.heap.size }
theorem Env.callee_wf {E : Env} (hw : Wf E) : Wf E.callee := ⟨fun b hb => hw.K b (hw.S b hb), fun _ h => h, fun _ h => h⟩
theorem Env.callee_lee {E : Env} (hw : Wf E) : Lee false E E.callee := ⟨rfl, fun _ h => h, fun _ b hb => hw.K b (hw.L b hb)⟩

theorem live_cells {E : Env} {h : Heap} (hs : SimH E h) {i : Nat} {c : V} (hc : hget h i = some c) :
    (E.vt i = true ∧ ∃ sz f, c = .row sz 0 f) ∨ (E.vt i = false ∧ E.ρ i < E.w.heap.size ∧ ¬ E.K (E.ρ i) ∧ R E c (cellsAt E.w (E.ρ i)) 0) := by
  rcases hs.live i c ((hget_eq h i c).1 hc) with h1 | ⟨h1, h2, cs, t, h3, h4, h5⟩
  · exact .inl h1
  · refine .inr ⟨h1, (Array.getElem?_eq_some_iff.1 h3).1, h2, ?_⟩
    have : cellsAt E.w (E.ρ i) = fun q => cs[q]? := by funext q; simp [cellsAt, World.cell?, h3]
    rw [this]; exact h5
theorem okp_virtual {sz : Nat} {f : Nat → V} {p : List Step} (h : okp (.row sz 0 f) p) : p = [] := by
  cases p with
  | nil => rfl
  | cons s p =>
    rcases okp_cases h with ⟨l, k, off, he, _⟩ | ⟨sz', n, f', k, he, _, hkn, _⟩
    · cases he
    · cases he; omega

section
variable {E : Env} {h : Heap}
mutual
theorem expV_ok (hw : Wf E) (hs : SimH E h) : ∀ (v : V) (κ : V → Prop), expV h v κ → ∃ v', κ v' ∧ v'.isAgg = v.isAgg ∧ v'.isTup = false ∧ vsize v' = vsize v ∧ (v = .any → v' = .any) ∧ ∀ c o, R E v c o → R E.callee v' c o
  | .sl i p sz lo len cap, κ, hd => by
    simp only [expV] at hd
    split at hd
    · rename_i cc hc
      obtain ⟨hp, hk⟩ := okq_okp _ _ _ hd
      split at hk
      · rename_i sz' n f hsub
        split at hk
        · rename_i hb
          rw [Nat.beq_eq] at hb
          subst hb
          obtain ⟨⟨h1⟩, ⟨h2⟩, hk⟩ := hk
          refine ⟨_, hk, rfl, rfl, rfl, fun e => (by cases e), fun c o hr => ?_⟩
          simp only [R] at hr ⊢
          obtain ⟨hi, a, cp, h3, h4, h5, h6⟩ := hr
          refine ⟨a, cp, h3, by omega, ?_⟩
          by_cases hlen : len = 0
          · exact .inl hlen
          refine .inr ?_
          rcases h6 with h6 | ⟨h6, h7, _⟩
          · omega
          rcases live_cells hs hc with ⟨h8, _⟩ | ⟨_, h8, _, h9⟩
          · rw [h6] at h8; cases h8
          refine ⟨E.ρ i, poff p + lo * sz, h7, h8, fun k hk => ?_⟩
          have h10 := R_sub p cc _ 0 hp h9
          rw [hsub] at h10
          simp only [R] at h10
          have h11 := h10 (lo + k) (by omega)
          refine ⟨h11.1, ?_⟩
          have h12 := R_noref (E := E) (E' := E.callee.bare) ⟨rfl, fun _ h => h, fun _ b hb => hw.K b (hw.L b hb)⟩ _ _ _ (h2 k hk) h11.2
          rw [Nat.zero_add, Nat.add_mul, ← Nat.add_assoc] at h12
          exact h12
        · exact hk.elim
      · exact hk.elim
    · exact hd.elim
  | .ref i p, κ, hd => by
    simp only [expV] at hd
    split at hd
    · rename_i cc hc
      obtain ⟨hp, hk⟩ := okq_okp _ _ _ hd
      obtain ⟨⟨h1, h2⟩, hk⟩ := hk
      refine ⟨_, hk, rfl, rfl, rfl, fun e => (by cases e), fun c o hr => ?_⟩
      simp only [R] at hr ⊢
      rcases live_cells hs hc with ⟨_, sz, f, rfl⟩ | ⟨_, h8, _, h9⟩
      · rw [okp_virtual hp] at h2
        simp [sub, vsize] at h2
      · have h10 := R_sub p cc _ 0 hp h9
        rw [Nat.zero_add] at h10
        exact ⟨E.ρ i, poff p, hr.2, h8, R_noref (E := E) (E' := E.callee.bare) ⟨rfl, fun _ h => h, fun _ b hb => hw.K b (hw.L b hb)⟩ _ _ _ h1 h10⟩
    · exact hd.elim
  | .rref i p sz lo n, κ, hd => by
    simp only [expV] at hd
    split at hd
    · rename_i cc hc
      obtain ⟨hp, hk⟩ := okq_okp _ _ _ hd
      split at hk
      · rename_i sz' m f hsub
        split at hk
        · rename_i hb
          rw [Nat.beq_eq] at hb
          subst hb
          obtain ⟨⟨h1, h0⟩, ⟨h2⟩, hk⟩ := hk
          refine ⟨_, hk, rfl, rfl, rfl, fun e => (by cases e), fun c o hr => ?_⟩
          simp only [R] at hr ⊢
          rcases live_cells hs hc with ⟨_, sz', f', rfl⟩ | ⟨_, h8, _, h9⟩
          · rw [okp_virtual hp] at hsub
            simp only [sub, V.row.injEq] at hsub
            omega
          · have h10 := R_sub p cc _ 0 hp h9
            rw [hsub] at h10
            simp only [R] at h10
            refine ⟨E.ρ i, poff p + lo * sz, hr.2, h8, fun k hk => ?_⟩
            have h11 := h10 (lo + k) (by omega)
            refine ⟨h11.1, ?_⟩
            have h12 := R_noref (E := E) (E' := E.callee.bare) ⟨rfl, fun _ h => h, fun _ b hb => hw.K b (hw.L b hb)⟩ _ _ _ (h2 k hk) h11.2
            rw [Nat.zero_add, Nat.add_mul, ← Nat.add_assoc] at h12
            exact h12
        · exact hk.elim
      · exact hk.elim
    · exact hd.elim
  | .row sz n f, κ, hd => by
    simp only [expV] at hd
    exact ⟨_, hd.2, rfl, rfl, rfl, fun e => (by cases e), fun c o hr => R_noref (Env.callee_lee hw) (.row sz n f) c o (by simp only [noref]; exact hd.1.out) hr⟩
  | .st l, κ, hd => by
    simp only [expV] at hd
    obtain ⟨l', h1, h2, _, h4⟩ := expVs_ok hw hs l _ hd
    exact ⟨_, h1, rfl, rfl, by simp only [vsize, h2], fun e => (by cases e), fun c o hr => by simp only [R] at hr ⊢; exact h4 c o hr⟩
  | .fn g l, κ, hd => by
    simp only [expV] at hd
    obtain ⟨l', h1, h2, h3, h4⟩ := expVs_ok hw hs l _ hd
    exact ⟨_, h1, rfl, rfl, rfl, fun e => (by cases e), fun c o hr => by
      simp only [R] at hr ⊢
      obtain ⟨xs, h5, h6, h7, h8⟩ := hr
      exact ⟨xs, h5, by rw [h2]; exact h6, h3 h7, h4 _ _ h8⟩⟩
  | .iface t v, κ, hd => by
    simp only [expV] at hd
    obtain ⟨v', h1, h2, h3, h4, _, h5⟩ := expV_ok hw hs v _ hd
    exact ⟨_, h1, rfl, rfl, rfl, fun e => (by cases e), fun c o hr => by
      simp only [R] at hr ⊢
      obtain ⟨x, h6, h7, h8⟩ := hr
      exact ⟨x, h6, by unfold aggOk at h7 ⊢; rw [h2, h4]; exact h7, h5 _ _ h8⟩⟩
  | .tup _, κ, hd => by simp only [expV] at hd
  | .int k n, κ, hd | .tt, κ, hd | .ff, κ, hd | .bool _, κ, hd | .str _, κ, hd | .nilp, κ, hd | .pim .., κ, hd | .emp, κ, hd | .imm .., κ, hd | .nilf, κ, hd | .nili, κ, hd | .any, κ, hd => by
    simp only [expV] at hd
    exact ⟨_, hd, rfl, rfl, rfl, fun e => e, fun c o hr => R_noref (Env.callee_lee hw) _ c o (by simp only [noref]) hr⟩
theorem expVs_ok (hw : Wf E) (hs : SimH E h) : ∀ (l : Vs) (κ : Vs → Prop), expVs h l κ → ∃ l', κ l' ∧ vsizes l' = vsizes l ∧ (l.flat = true → l'.flat = true) ∧ ∀ c o, RL E l c o → RL E.callee l' c o
  | .nil, κ, hd => by simp only [expVs] at hd; exact ⟨_, hd, rfl, fun h => h, fun c o _ => by simp only [RL]⟩
  | .cons v l, κ, hd => by
    simp only [expVs] at hd
    obtain ⟨v', h1, h2, h3, h4, _, h5⟩ := expV_ok hw hs v _ hd
    obtain ⟨l', h6, h7, h8, h9⟩ := expVs_ok hw hs l _ h1
    refine ⟨_, h6, by simp only [vsizes, h4, h7], fun hf => ?_, fun c o hr => ?_⟩
    · simp only [Vs.flat, Bool.and_eq_true, Bool.not_eq_true'] at hf ⊢
      exact ⟨⟨by rw [h2]; exact hf.1.1, h3⟩, h8 hf.2⟩
    · simp only [RL] at hr ⊢
      exact ⟨h5 _ _ hr.1, by rw [h4]; exact h9 _ _ hr.2⟩
end
end
end Go.DD
