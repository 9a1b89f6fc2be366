/- Paths, cells; a new block, a store. -/
import Derived.Test.YtaekeldgnlphkaaD1
namespace Go.DD
set_option linter.unusedVariables false
open Go.RowKit

theorem vsize_scalar {v : V} (h : v.isAgg = false) : vsize v = 1 := by cases v <;> simp_all [V.isAgg, vsize]

/-- Where a struct's field begins. -/
def presz : Vs → Nat → Nat | .nil, _ => 0 | .cons _ _, 0 => 0 | .cons v l, k + 1 => vsize v + presz l k

mutual
theorem R_shift {E : Env} : ∀ (v : V) (c c' : Nat → Option Value) (o o' : Nat), (∀ q, q < vsize v → c' (o' + q) = c (o + q)) → R E v c o → R E v c' o'
  | .row sz n f, c, c', o, o', hc, hr => by
    simp only [R] at hr ⊢
    intro k hk
    refine ⟨(hr k hk).1, R_shift (f k) c c' (o + k * sz) (o' + k * sz) (fun q hq => ?_) (hr k hk).2⟩
    have hq' : q < sz := by rw [(hr k hk).1] at hq; exact hq
    have : k * sz + q < sz * n := by
      have : k * sz + sz ≤ n * sz := by rw [← Nat.succ_mul]; exact Nat.mul_le_mul_right _ hk
      rw [Nat.mul_comm sz n]; omega
    have := hc (k * sz + q) (by simpa only [vsize] using this)
    simpa only [Nat.add_assoc] using this
  | .st l, c, c', o, o', hc, hr => by
    simp only [R] at hr ⊢
    exact RL_shift l c c' o o' (by simpa only [vsize] using hc) hr
  | .tup _, c, c', o, o', hc, hr => by simp only [R] at hr
  | .int .., c, c', o, o', hc, hr => by have h := hc 0 (by simp [vsize]); simp only [R, Nat.add_zero] at *; rw [h]; exact hr
  | .tt, c, c', o, o', hc, hr => by have h := hc 0 (by simp [vsize]); simp only [R, Nat.add_zero] at *; rw [h]; exact hr
  | .ff, c, c', o, o', hc, hr => by have h := hc 0 (by simp [vsize]); simp only [R, Nat.add_zero] at *; rw [h]; exact hr
  | .bool _, c, c', o, o', hc, hr => by have h := hc 0 (by simp [vsize]); simp only [R, Nat.add_zero] at *; rw [h]; exact hr
  | .str _, c, c', o, o', hc, hr => by have h := hc 0 (by simp [vsize]); simp only [R, Nat.add_zero] at *; rw [h]; exact hr
  | .nilp, c, c', o, o', hc, hr => by have h := hc 0 (by simp [vsize]); simp only [R, Nat.add_zero] at *; rw [h]; exact hr
  | .ref .., c, c', o, o', hc, hr => by have h := hc 0 (by simp [vsize]); simp only [R, Nat.add_zero] at *; rw [h]; exact hr
  | .rref .., c, c', o, o', hc, hr => by have h := hc 0 (by simp [vsize]); simp only [R, Nat.add_zero] at *; rw [h]; exact hr
  | .pim .., c, c', o, o', hc, hr => by have h := hc 0 (by simp [vsize]); simp only [R, Nat.add_zero] at *; rw [h]; exact hr
  | .sl .., c, c', o, o', hc, hr => by have h := hc 0 (by simp [vsize]); simp only [R, Nat.add_zero] at *; rw [h]; exact hr
  | .emp, c, c', o, o', hc, hr => by have h := hc 0 (by simp [vsize]); simp only [R, Nat.add_zero] at *; rw [h]; exact hr
  | .imm .., c, c', o, o', hc, hr => by have h := hc 0 (by simp [vsize]); simp only [R, Nat.add_zero] at *; rw [h]; exact hr
  | .fn .., c, c', o, o', hc, hr => by have h := hc 0 (by simp [vsize]); simp only [R, Nat.add_zero] at *; rw [h]; exact hr
  | .nilf, c, c', o, o', hc, hr => by have h := hc 0 (by simp [vsize]); simp only [R, Nat.add_zero] at *; rw [h]; exact hr
  | .iface .., c, c', o, o', hc, hr => by have h := hc 0 (by simp [vsize]); simp only [R, Nat.add_zero] at *; rw [h]; exact hr
  | .nili, c, c', o, o', hc, hr => by have h := hc 0 (by simp [vsize]); simp only [R, Nat.add_zero] at *; rw [h]; exact hr
  | .any, c, c', o, o', hc, hr => by have h := hc 0 (by simp [vsize]); simp only [R, Nat.add_zero] at *; rw [h]; exact hr
theorem RL_shift {E : Env} : ∀ (l : Vs) (c c' : Nat → Option Value) (o o' : Nat), (∀ q, q < vsizes l → c' (o' + q) = c (o + q)) → RL E l c o → RL E l c' o'
  | .nil, c, c', o, o', _, _ => by simp only [RL]
  | .cons v l, c, c', o, o', hc, hr => by
    simp only [RL] at hr ⊢
    simp only [vsizes] at hc
    refine ⟨R_shift v c c' o o' (fun q hq => hc q (by omega)) hr.1, RL_shift l c c' _ _ (fun q hq => ?_) hr.2⟩
    have := hc (vsize v + q) (by omega)
    simpa only [Nat.add_assoc] using this
end

/-- Cells that agree where 'v' stands. -/
theorem R_local {E : Env} {v : V} {c c' : Nat → Option Value} {o : Nat} (hc : ∀ q, o ≤ q → q < o + vsize v → c' q = c q) (hr : R E v c o) : R E v c' o :=
  R_shift v c c' o o (fun q hq => hc (o + q) (by omega) (by omega)) hr

def sub : V → List Step → V
  | v, [] => v
  | .st l, .f k _ :: p => sub (l.get k) p
  | .row _ _ f, .i k _ :: p => sub (f k) p
  | _, _ :: _ => .any
def okp : V → List Step → Prop
  | _, [] => True
  | .st l, .f k off :: p => (k < l.len ∧ presz l k = off) ∧ okp (l.get k) p
  | .row sz n f, .i k sz' :: p => (k < n ∧ sz' = sz) ∧ okp (f k) p
  | _, _ :: _ => False
def upd : V → List Step → V → V
  | _, [], u => u
  | .st l, .f k _ :: p, u => .st (l.set k (upd (l.get k) p u))
  | .row sz n f, .i k _ :: p, u => .row sz n (fun j => if j = k then upd (f k) p u else f j)
  | v, _ :: _, _ => v

theorem RL_get {E : Env} : ∀ (l : Vs) (k : Nat) (c : Nat → Option Value) (o : Nat), k < l.len → RL E l c o → R E (l.get k) c (o + presz l k)
  | .nil, k, c, o, hk, _ => by simp [Vs.len] at hk
  | .cons v l, 0, c, o, _, hr => by simp only [RL] at hr; simpa [Vs.get, presz] using hr.1
  | .cons v l, k + 1, c, o, hk, hr => by
    simp only [RL] at hr
    have := RL_get l k c _ (by simpa [Vs.len] using hk) hr.2
    simpa only [Vs.get, presz, Nat.add_assoc] using this
theorem presz_le : ∀ (l : Vs) (k : Nat), k < l.len → presz l k + vsize (l.get k) ≤ vsizes l
  | .nil, k, hk => by simp [Vs.len] at hk
  | .cons v l, 0, _ => by simp [presz, Vs.get, vsizes]
  | .cons v l, k + 1, hk => by
    have := presz_le l k (by simpa [Vs.len] using hk)
    simp only [presz, Vs.get, vsizes]; omega

theorem row_le {sz n k : Nat} (hk : k < n) : k * sz + sz ≤ sz * n := by
  have : k * sz + sz ≤ n * sz := by rw [← Nat.succ_mul]; exact Nat.mul_le_mul_right _ hk
  rw [Nat.mul_comm sz n]; omega

theorem R_sub {E : Env} : ∀ (p : List Step) (v : V) (c : Nat → Option Value) (o : Nat), okp v p → R E v c o → R E (sub v p) c (o + poff p)
  | [], v, c, o, _, hr => by simpa [sub, poff] using hr
  | .f k off :: p, .st l, c, o, hp, hr => by
    simp only [okp] at hp
    simp only [R] at hr
    have h1 := RL_get l k c o hp.1.1 hr
    rw [hp.1.2] at h1
    have := R_sub p _ c _ hp.2 h1
    simpa only [sub, poff, Step.off, Nat.add_assoc] using this
  | .i k sz' :: p, .row sz n f, c, o, hp, hr => by
    simp only [okp] at hp
    simp only [R] at hr
    obtain ⟨⟨hk, rfl⟩, hp⟩ := hp
    have := R_sub p _ c _ hp (hr k hk).2
    simpa only [sub, poff, Step.off, Nat.add_assoc] using this
  | .f _ _ :: _, .int .., _, _, hp, _ | .f _ _ :: _, .tt, _, _, hp, _ | .f _ _ :: _, .ff, _, _, hp, _ | .f _ _ :: _, .bool _, _, _, hp, _
  | .f _ _ :: _, .str _, _, _, hp, _ | .f _ _ :: _, .nilp, _, _, hp, _ | .f _ _ :: _, .ref .., _, _, hp, _ | .f _ _ :: _, .rref .., _, _, hp, _
  | .f _ _ :: _, .pim .., _, _, hp, _ | .f _ _ :: _, .sl .., _, _, hp, _ | .f _ _ :: _, .emp, _, _, hp, _ | .f _ _ :: _, .imm .., _, _, hp, _
  | .f _ _ :: _, .fn .., _, _, hp, _ | .f _ _ :: _, .nilf, _, _, hp, _ | .f _ _ :: _, .iface .., _, _, hp, _ | .f _ _ :: _, .nili, _, _, hp, _
  | .f _ _ :: _, .row .., _, _, hp, _ | .f _ _ :: _, .tup _, _, _, hp, _ | .f _ _ :: _, .any, _, _, hp, _
  | .i _ _ :: _, .int .., _, _, hp, _ | .i _ _ :: _, .tt, _, _, hp, _ | .i _ _ :: _, .ff, _, _, hp, _ | .i _ _ :: _, .bool _, _, _, hp, _
  | .i _ _ :: _, .str _, _, _, hp, _ | .i _ _ :: _, .nilp, _, _, hp, _ | .i _ _ :: _, .ref .., _, _, hp, _ | .i _ _ :: _, .rref .., _, _, hp, _
  | .i _ _ :: _, .pim .., _, _, hp, _ | .i _ _ :: _, .sl .., _, _, hp, _ | .i _ _ :: _, .emp, _, _, hp, _ | .i _ _ :: _, .imm .., _, _, hp, _
  | .i _ _ :: _, .fn .., _, _, hp, _ | .i _ _ :: _, .nilf, _, _, hp, _ | .i _ _ :: _, .iface .., _, _, hp, _ | .i _ _ :: _, .nili, _, _, hp, _
  | .i _ _ :: _, .st _, _, _, hp, _ | .i _ _ :: _, .tup _, _, _, hp, _ | .i _ _ :: _, .any, _, _, hp, _ => by simp [okp] at hp

theorem okp_cases {v : V} {s : Step} {p : List Step} (h : okp v (s :: p)) :
    (∃ l k off, v = .st l ∧ s = .f k off ∧ k < l.len ∧ presz l k = off ∧ okp (l.get k) p) ∨ (∃ sz n f k, v = .row sz n f ∧ s = .i k sz ∧ k < n ∧ okp (f k) p) := by
  cases v <;> cases s <;> simp only [okp] at h
  · exact .inr ⟨_, _, _, _, rfl, by rw [h.1.2], h.1.1, h.2⟩
  · exact .inl ⟨_, _, _, rfl, rfl, h.1.1, h.1.2, h.2⟩

/-- Where a path leads lies inside. -/
theorem sub_fits : ∀ (p : List Step) (v : V), okp v p → (∀ E c o, R E v c o → poff p + vsize (sub v p) ≤ vsize v)
  | [], v, _, _, _, _, _ => by simp [poff, sub]
  | s :: p, v, h, E, c, o, hr => by
    rcases okp_cases h with ⟨l, k, off, rfl, rfl, hk, ho, hp⟩ | ⟨sz, n, f, k, rfl, rfl, hk, hp⟩
    · simp only [R] at hr
      have h1 := sub_fits p _ hp E c _ (RL_get l k c o hk hr)
      have h2 := presz_le l k hk
      simp only [poff, Step.off, sub, vsize]; omega
    · simp only [R] at hr
      have h1 := sub_fits p _ hp E c _ (hr k hk).2
      have h2 := row_le (sz := sz) hk
      rw [(hr k hk).1] at h1
      simp only [poff, Step.off, sub, vsize]; omega

theorem vsizes_set : ∀ (l : Vs) (k : Nat) (u : V), vsize u = vsize (l.get k) → vsizes (l.set k u) = vsizes l
  | .nil, k, u, _ => by simp [Vs.set]
  | .cons v l, 0, u, h => by simp only [Vs.get] at h; simp [Vs.set, vsizes, h]
  | .cons v l, k + 1, u, h => by simp only [Vs.get] at h; simp [Vs.set, vsizes, vsizes_set l k u h]

theorem RL_set {E : Env} : ∀ (l : Vs) (k : Nat) (u : V) (c c' : Nat → Option Value) (o : Nat), k < l.len → vsize u = vsize (l.get k) → RL E l c o →
    (∀ q, o ≤ q → q < o + vsizes l → (q < o + presz l k ∨ o + presz l k + vsize u ≤ q) → c' q = c q) → R E u c' (o + presz l k) → RL E (l.set k u) c' o
  | .nil, k, u, c, c', o, hk, _, _, _, _ => by simp [Vs.len] at hk
  | .cons v l, 0, u, c, c', o, _, hs, hr, hc, hu => by
    simp only [Vs.get] at hs
    simp only [RL, Vs.set] at hr ⊢
    refine ⟨by simpa [presz] using hu, ?_⟩
    rw [hs]
    exact RL_shift l c c' _ _ (fun q hq => hc _ (by omega) (by simp only [vsizes]; omega) (.inr (by simp only [presz]; omega))) hr.2
  | .cons v l, k + 1, u, c, c', o, hk, hs, hr, hc, hu => by
    simp only [Vs.get] at hs
    simp only [RL, Vs.set] at hr ⊢
    simp only [presz, vsizes] at hc hu
    refine ⟨R_local (fun q h1 h2 => hc q h1 (by omega) (.inl (by omega))) hr.1, ?_⟩
    exact RL_set l k u c c' (o + vsize v) (by simpa [Vs.len] using hk) hs hr.2 (fun q h1 h2 h3 => hc q (by omega) (by omega) (by omega)) (by simpa only [Nat.add_assoc] using hu)

theorem upd_ok {E : Env} : ∀ (p : List Step) (v u : V) (c c' : Nat → Option Value) (o : Nat), okp v p → vsize u = vsize (sub v p) → R E v c o →
    (∀ q, o ≤ q → q < o + vsize v → (q < o + poff p ∨ o + poff p + vsize u ≤ q) → c' q = c q) → R E u c' (o + poff p) → R E (upd v p u) c' o ∧ vsize (upd v p u) = vsize v
  | [], v, u, c, c', o, _, hs, _, _, hu => ⟨by simpa [upd, poff] using hu, by simpa [upd, sub] using hs⟩
  | s :: p, v, u, c, c', o, h, hs, hr, hc, hu => by
    rcases okp_cases h with ⟨l, k, off, rfl, rfl, hk, ho, hp⟩ | ⟨sz, n, f, k, rfl, rfl, hk, hp⟩
    · simp only [R] at hr
      simp only [sub] at hs
      simp only [poff, Step.off, vsize] at hc hu
      have hg := RL_get l k c o hk hr
      have hfit := sub_fits p _ hp E c _ hg
      have hle := presz_le l k hk
      have ih := upd_ok p (l.get k) u c c' (o + presz l k) hp hs hg (fun q h1 h2 h3 => hc q (by omega) (by omega) (by omega)) (by rw [ho]; simpa only [Nat.add_assoc] using hu)
      refine ⟨?_, ?_⟩
      · simp only [upd, R]
        exact RL_set l k _ c c' o hk ih.2 hr (fun q h1 h2 h3 => hc q h1 h2 (by rw [ih.2] at h3; omega)) ih.1
      · simp only [upd, vsize]
        exact vsizes_set l k _ ih.2
    · simp only [R] at hr
      simp only [sub] at hs
      simp only [poff, Step.off, vsize] at hc hu
      have hg := (hr k hk).2
      have hfit := sub_fits p _ hp E c _ hg
      have hle := row_le (sz := sz) hk
      have hsz := (hr k hk).1
      have ih := upd_ok p (f k) u c c' (o + k * sz) hp hs hg (fun q h1 h2 h3 => hc q (by omega) (by omega) (by omega)) (by simpa only [Nat.add_assoc] using hu)
      refine ⟨?_, by simp only [upd, vsize]⟩
      simp only [upd, R]
      intro j hj
      by_cases hjk : j = k
      · subst hjk
        simp only [if_true]
        exact ⟨ih.2.trans hsz, ih.1⟩
      · simp only [hjk, if_false]
        refine ⟨(hr j hj).1, R_local (fun q h1 h2 => hc q (by omega) ?_ ?_) (hr j hj).2⟩
        · have := row_le (sz := sz) hj
          rw [(hr j hj).1] at h2; omega
        · rw [(hr j hj).1] at h2
          rcases Nat.lt_or_gt_of_ne hjk with hlt | hgt
          · have : j * sz + sz ≤ k * sz := by rw [← Nat.succ_mul]; exact Nat.mul_le_mul_right _ hlt
            omega
          · have : k * sz + sz ≤ j * sz := by rw [← Nat.succ_mul]; exact Nat.mul_le_mul_right _ hgt
            rw [hsz] at hfit; omega
end Go.DD
