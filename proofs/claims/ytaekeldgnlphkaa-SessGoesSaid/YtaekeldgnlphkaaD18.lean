/- One abstract state seen as another, coarser one: with fewer slots, other numbers of the local variables. -/
import Derived.Test.YtaekeldgnlphkaaD17
namespace Go.DD
set_option linter.unusedVariables false
open Go.RowKit

def getM : List (Option Nat) → Nat → Option (Option Nat) | [], _ => none | x :: _, 0 => some x | _ :: l, k + 1 => getM l k
def toOld (m : List (Option Nat)) (i : Nat) : Nat := match getM m i with | some (some j) => j | _ => 0
def isVt (m : List (Option Nat)) (i : Nat) : Bool := match getM m i with | some none => true | _ => false

mutual
def leV (m : List (Option Nat)) : V → V → Prop
  | v, .any => v.isAgg = false ∧ v.isTup = false
  | v, .ref i p => match getM m i with | some (some j) => v = .ref j p | _ => False
  | v, .rref i p sz lo n => match getM m i with | some (some j) => v = .rref j p sz lo n | _ => False
  | v, .sl i p sz lo len cap => match getM m i with
    | some (some j) => v = .sl j p sz lo len cap
    | some none => v = .emp ∧ len = 0 ∧ cap = 0
    | none => False
  | v, .imm l sz n f => (v = .emp ∧ n = 0) ∨ ∃ g, v = .imm l sz n g ∧ ∀ k, k < n → g k = f k
  | v, .row sz n f => ∃ g, v = .row sz n g ∧ ∀ k, k < n → leV m (g k) (f k)
  | v, .st l' => ∃ l, v = .st l ∧ leVs m l l'
  | v, .fn f caps => ∃ c0, v = .fn f c0 ∧ leVs m c0 caps
  | v, .iface t u => ∃ u0, v = .iface t u0 ∧ leV m u0 u
  | v, .tup l => v = .tup .nil ∧ l = .nil
  | v, .bool b => vb v = some b
  | v, .int k n => v = .int k n
  | v, .tt => v = .tt
  | v, .ff => v = .ff
  | v, .str s => v = .str s
  | v, .nilp => v = .nilp
  | v, .pim l u => v = .pim l u
  | v, .emp => v = .emp
  | v, .nilf => v = .nilf
  | v, .nili => v = .nili
def leVs (m : List (Option Nat)) : Vs → Vs → Prop
  | .nil, .nil => True
  | .cons v l, .cons v' l' => leV m v v' ∧ leVs m l l'
  | _, _ => False
end

theorem vb_agg {v : V} {b : Bool} (h : vb v = some b) : v.isAgg = false ∧ v.isTup = false := by cases v <;> simp_all [vb, V.isAgg, V.isTup]
mutual
theorem leV_size {m : List (Option Nat)} : ∀ (v v' : V), leV m v v' → v.isAgg = v'.isAgg ∧ vsize v = vsize v' ∧ v.isTup = v'.isTup
  | v, .any, h => by simp only [leV] at h; exact ⟨by rw [h.1]; rfl, by rw [vsize_scalar h.1]; rfl, by rw [h.2]; rfl⟩
  | v, .ref i p, h => by simp only [leV] at h; split at h <;> first | exact h.elim | (subst h; exact ⟨rfl, rfl, rfl⟩)
  | v, .rref .., h => by simp only [leV] at h; split at h <;> first | exact h.elim | (subst h; exact ⟨rfl, rfl, rfl⟩)
  | v, .sl .., h => by
    simp only [leV] at h
    split at h
    · subst h; exact ⟨rfl, rfl, rfl⟩
    · rw [h.1]; exact ⟨rfl, rfl, rfl⟩
    · exact h.elim
  | v, .imm .., h => by
    simp only [leV] at h
    rcases h with ⟨rfl, _⟩ | ⟨g, rfl, _⟩ <;> exact ⟨rfl, rfl, rfl⟩
  | v, .row .., h => by
    simp only [leV] at h
    obtain ⟨g, rfl, _⟩ := h
    exact ⟨rfl, rfl, rfl⟩
  | v, .st l', h => by
    simp only [leV] at h
    obtain ⟨l, rfl, h⟩ := h
    exact ⟨rfl, by simp only [vsize]; exact (leVs_size l l' h).1, rfl⟩
  | v, .fn .., h => by simp only [leV] at h; obtain ⟨c, rfl, _⟩ := h; exact ⟨rfl, rfl, rfl⟩
  | v, .iface .., h => by simp only [leV] at h; obtain ⟨c, rfl, _⟩ := h; exact ⟨rfl, rfl, rfl⟩
  | v, .tup _, h => by simp only [leV] at h; rw [h.1]; exact ⟨rfl, rfl, rfl⟩
  | v, .bool b, h => by
    simp only [leV] at h
    obtain ⟨h1, h2⟩ := vb_agg h
    exact ⟨by rw [h1]; rfl, by rw [vsize_scalar h1]; rfl, by rw [h2]; rfl⟩
  | v, .int .., h | v, .tt, h | v, .ff, h | v, .str _, h | v, .nilp, h | v, .pim .., h | v, .emp, h | v, .nilf, h | v, .nili, h => by
    simp only [leV] at h; subst h; exact ⟨rfl, rfl, rfl⟩
theorem leVs_size {m : List (Option Nat)} : ∀ (l l' : Vs), leVs m l l' → vsizes l = vsizes l' ∧ l.flat = l'.flat
  | .nil, .nil, _ => ⟨rfl, rfl⟩
  | .cons v l, .cons v' l', h => by
    simp only [leVs] at h
    obtain ⟨h1, h2, h3⟩ := leV_size v v' h.1
    obtain ⟨h4, h5⟩ := leVs_size l l' h.2
    exact ⟨by simp only [vsizes, h2, h4], by simp only [Vs.flat, h1, h3, h5]⟩
  | .nil, .cons _ _, h => by simp [leVs] at h
  | .cons _ _, .nil, h => by simp [leVs] at h
end

def Env.ren (E : Env) (m : List (Option Nat)) : Env := { E with ρ := fun i => E.ρ (toOld m i), vt := fun i => isVt m i || E.vt (toOld m i), N := m.length }
theorem getM_lt : ∀ {m : List (Option Nat)} {i : Nat} {x : Option Nat}, getM m i = some x → i < m.length
  | [], _, _, h => by simp [getM] at h
  | _ :: _, 0, _, _ => by simp
  | _ :: l, k + 1, x, h => by simp only [getM] at h; have := getM_lt h; simp; omega
theorem getM_eq : ∀ (m : List (Option Nat)) (i : Nat), getM m i = m[i]? | [], _ => by simp [getM] | _ :: _, 0 => by simp [getM] | _ :: l, k + 1 => by simp [getM, getM_eq l k]
theorem Env.ren_old {E : Env} {m : List (Option Nat)} {i j : Nat} (h : getM m i = some (some j)) : (E.ren m).ρ i = E.ρ j ∧ (E.ren m).vt i = E.vt j ∧ i < (E.ren m).N := by
  simp [Env.ren, toOld, isVt, h, getM_lt h]

mutual
theorem leV_R {E : Env} {m : List (Option Nat)} : ∀ (v v' : V) (c : Nat → Option Value) (o : Nat), leV m v v' → R E v c o → R (E.ren m) v' c o
  | v, .any, c, o, h, hr => by
    simp only [leV] at h
    simp only [R]
    obtain ⟨x, h1, h2⟩ := R_one v c o 0 hr (by rw [vsize_scalar h.1]; omega)
    exact ⟨x, h1, h2⟩
  | v, .ref i p, c, o, h, hr => by
    simp only [leV] at h
    split at h
    · rename_i j hj
      subst h
      obtain ⟨e1, e2, e3⟩ := Env.ren_old (E := E) hj
      simp only [R] at hr ⊢
      exact ⟨e3, by rw [e1]; exact hr.2⟩
    · exact h.elim
  | v, .rref i p sz lo n, c, o, h, hr => by
    simp only [leV] at h
    split at h
    · rename_i j hj
      subst h
      obtain ⟨e1, e2, e3⟩ := Env.ren_old (E := E) hj
      simp only [R] at hr ⊢
      exact ⟨e3, by rw [e1]; exact hr.2⟩
    · exact h.elim
  | v, .sl i p sz lo len cap, c, o, h, hr => by
    simp only [leV] at h
    split at h
    · rename_i j hj
      subst h
      obtain ⟨e1, e2, e3⟩ := Env.ren_old (E := E) hj
      simp only [R] at hr ⊢
      exact ⟨e3, by rw [e1, e2]; exact hr.2⟩
    · rename_i hj
      obtain ⟨rfl, rfl, rfl⟩ := h
      simp only [R] at hr ⊢
      obtain ⟨a, ha⟩ := hr
      exact ⟨getM_lt hj, a, 0, ha, Nat.le_refl _, Nat.le_refl _, .inl rfl⟩
    · exact h.elim
  | v, .imm l sz n f, c, o, h, hr => by
    simp only [leV] at h
    rcases h with ⟨rfl, rfl⟩ | ⟨g, rfl, hg⟩
    · simp only [R] at hr ⊢
      obtain ⟨a, ha⟩ := hr
      exact ⟨a, 0, ha, Nat.le_refl _, .inl trivial⟩
    · simp only [R] at hr ⊢
      obtain ⟨a, cp, h1, h2, h3⟩ := hr
      exact ⟨a, cp, h1, h2, h3.imp id fun ⟨b, off, h4, h5, h6⟩ => ⟨b, off, h4, h5, fun k hk => by rw [← hg k hk]; exact h6 k hk⟩⟩
  | v, .row sz n f, c, o, h, hr => by
    simp only [leV] at h
    obtain ⟨g, rfl, hg⟩ := h
    simp only [R] at hr ⊢
    exact fun k hk => ⟨by rw [← (leV_size _ _ (hg k hk)).2.1]; exact (hr k hk).1, leV_R (g k) (f k) _ _ (hg k hk) (hr k hk).2⟩
  | v, .st l', c, o, h, hr => by
    simp only [leV] at h
    obtain ⟨l, rfl, h⟩ := h
    simp only [R] at hr ⊢
    exact leVs_R l l' c o h hr
  | v, .fn f caps, c, o, h, hr => by
    simp only [leV] at h
    obtain ⟨c0, rfl, h⟩ := h
    simp only [R] at hr ⊢
    obtain ⟨xs, h1, h2, h3, h4⟩ := hr
    obtain ⟨h5, h6⟩ := leVs_size _ _ h
    exact ⟨xs, h1, by rw [← h5]; exact h2, by rw [← h6]; exact h3, leVs_R c0 caps _ _ h h4⟩
  | v, .iface t u, c, o, h, hr => by
    simp only [leV] at h
    obtain ⟨u0, rfl, h⟩ := h
    simp only [R] at hr ⊢
    obtain ⟨x, h1, h2, h3⟩ := hr
    obtain ⟨h5, h6, _⟩ := leV_size _ _ h
    exact ⟨x, h1, by unfold aggOk at h2 ⊢; rw [← h5, ← h6]; exact h2, leV_R u0 u _ _ h h3⟩
  | v, .tup l, c, o, h, hr => by
    simp only [leV] at h
    obtain ⟨rfl, rfl⟩ := h
    simp only [R] at hr
  | v, .bool b, c, o, h, hr => by
    simp only [leV] at h
    cases v <;> simp [vb] at h
    · subst h; simpa only [R] using hr
    · subst h; simpa only [R] using hr
    · subst h; simpa only [R] using hr
  | v, .pim l u, c, o, h, hr => by
    simp only [leV] at h; subst h; simp only [R] at hr ⊢; exact hr
  | v, .int .., c, o, h, hr | v, .tt, c, o, h, hr | v, .ff, c, o, h, hr | v, .str _, c, o, h, hr | v, .nilp, c, o, h, hr | v, .emp, c, o, h, hr | v, .nilf, c, o, h, hr | v, .nili, c, o, h, hr => by
    simp only [leV] at h; subst h; simpa only [R] using hr
theorem leVs_R {E : Env} {m : List (Option Nat)} : ∀ (l l' : Vs) (c : Nat → Option Value) (o : Nat), leVs m l l' → RL E l c o → RL (E.ren m) l' c o
  | .nil, .nil, c, o, _, _ => by simp only [RL]
  | .cons v l, .cons v' l', c, o, h, hr => by
    simp only [leVs] at h
    simp only [RL] at hr ⊢
    exact ⟨leV_R v v' c o h.1 hr.1, by rw [← (leV_size _ _ h.1).2.1]; exact leVs_R l l' c _ h.2 hr.2⟩
  | .nil, .cons _ _, _, _, h, _ => by simp [leVs] at h
  | .cons _ _, .nil, _, _, h, _ => by simp [leVs] at h
end
def leS (m : List (Option Nat)) (v v' : V) : Prop := match v' with | .any => True | v' => leV m v v'
theorem leS_T {E : Env} {m : List (Option Nat)} {v v' : V} {x : Value} (h : leS m v v') (ht : T E v x) : T (E.ren m) v' x := by
  by_cases ha : v' = .any
  · subst ha; trivial
  have h : leV m v v' := by cases v' <;> first | exact absurd rfl ha | exact h
  by_cases htu : v'.isTup = true
  · cases v' <;> simp [V.isTup] at htu
    simp only [leV] at h
    obtain ⟨rfl, rfl⟩ := h
    obtain ⟨xs, h1, h2, _⟩ := ht
    have hx : xs = #[] := by simpa [Vs.len] using h2
    subst hx
    exact ⟨#[], h1, rfl, fun k y hk => by simp at hk⟩
  obtain ⟨h1, h2, h3⟩ := leV_size _ _ h
  have hv : aggOk v x ∧ R E v (fun q => x.cells[q]?) 0 := by
    have h3 : v.isTup = false := by rw [h3]; simpa using htu
    have hany : v ≠ .any := by
      rintro rfl
      cases v' <;> simp only [leV] at h <;> first
        | exact absurd rfl ha
        | (split at h <;> simp at h; done)
        | (simp [vb] at h; done)
        | simp at htu
    cases v <;> first | exact ht | exact absurd rfl hany | simp [V.isTup] at h3
  have : aggOk v' x ∧ R (E.ren m) v' (fun q => x.cells[q]?) 0 := ⟨by have := hv.1; unfold aggOk at this ⊢; rw [← h1, ← h2]; exact this, leV_R _ _ _ _ h hv.2⟩
  cases v' <;> first | exact this | exact absurd rfl ha | simp [V.isTup] at htu
end Go.DD
