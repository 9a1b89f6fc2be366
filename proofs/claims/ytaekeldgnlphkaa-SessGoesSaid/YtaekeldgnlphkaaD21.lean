/- Calls: what goes in, what comes out. -/
import Derived.Test.YtaekeldgnlphkaaD20
namespace Go.DD
set_option linter.unusedVariables false
open Go.RowKit

mutual
/-- Names no local variable. -/
def noref : V → Prop
  | .ref .. | .rref .. | .sl .. => False
  | .row _ n f => ∀ k, k < n → noref (f k)
  | .st l => norefs l
  | .fn _ l => norefs l
  | .iface _ v => noref v
  | .tup l => norefs l
  | _ => True
def norefs : Vs → Prop
  | .nil => True
  | .cons v l => noref v ∧ norefs l
end
mutual
/-- Names neither a local variable nor lent memory. -/
def own : V → Prop
  | .ref .. | .rref .. | .sl .. => False
  | .row _ n f => ∀ k, k < n → own (f k)
  | .imm l _ n f => match l with | true => False | false => ∀ k, k < n → own (f k)
  | .pim l v => match l with | true => False | false => own v
  | .st l => owns l
  | .fn _ l => owns l
  | .iface _ v => own v
  | .tup l => owns l
  | _ => True
def owns : Vs → Prop
  | .nil => True
  | .cons v l => own v ∧ owns l
end
mutual
theorem own_noref : ∀ v, own v → noref v
  | .row _ n f, h => by simp only [own] at h; simp only [noref]; exact fun k hk => own_noref (f k) (h k hk)
  | .st l, h => by simp only [own] at h; simp only [noref]; exact owns_norefs l h
  | .fn _ l, h => by simp only [own] at h; simp only [noref]; exact owns_norefs l h
  | .iface _ v, h => by simp only [own] at h; simp only [noref]; exact own_noref v h
  | .tup l, h => by simp only [own] at h; simp only [noref]; exact owns_norefs l h
  | .ref .., h | .rref .., h | .sl .., h => by simp only [own] at h
  | .int .., _ | .tt, _ | .ff, _ | .bool _, _ | .str _, _ | .nilp, _ | .pim .., _ | .emp, _ | .imm .., _ | .nilf, _ | .nili, _ | .any, _ => by simp only [noref]
theorem owns_norefs : ∀ l, owns l → norefs l
  | .nil, _ => by simp only [norefs]
  | .cons v l, h => by simp only [owns] at h; simp only [norefs]; exact ⟨own_noref v h.1, owns_norefs l h.2⟩
end

/-- Environments alike in the world, the first with less to say. -/
structure Lee (own? : Bool) (E E' : Env) : Prop where
  w : E'.w = E.w
  S : ∀ b, E.S b → E'.S b
  L : own? = false → ∀ b, E.L b → E'.L b
theorem Lee.bare {o : Bool} {E E' : Env} (h : Lee o E E') : Lee o E.bare E'.bare := ⟨h.w, h.S, h.L⟩
mutual
theorem R_noref {E E' : Env} (h : Lee false E E') : ∀ (v : V) (c : Nat → Option Value) (o : Nat), noref v → R E v c o → R E' v c o
  | .ref .., _, _, hn, _ | .rref .., _, _, hn, _ | .sl .., _, _, hn, _ => by simp only [noref] at hn
  | .row sz n f, c, o, hn, hr => by
    simp only [noref] at hn
    simp only [R] at hr ⊢
    exact fun k hk => ⟨(hr k hk).1, R_noref h (f k) _ _ (hn k hk) (hr k hk).2⟩
  | .st l, c, o, hn, hr => by
    simp only [noref] at hn
    simp only [R] at hr ⊢
    exact RL_noref h l c o hn hr
  | .fn f l, c, o, hn, hr => by
    simp only [noref] at hn
    simp only [R] at hr ⊢
    obtain ⟨xs, h1, h2, h3, h4⟩ := hr
    exact ⟨xs, h1, h2, h3, RL_noref h l _ _ hn h4⟩
  | .iface t v, c, o, hn, hr => by
    simp only [noref] at hn
    simp only [R] at hr ⊢
    obtain ⟨x, h1, h2, h3⟩ := hr
    exact ⟨x, h1, h2, R_noref h v _ _ hn h3⟩
  | .pim l v, c, o, _, hr => by
    simp only [R] at hr ⊢
    obtain ⟨b, off, h1, h2, h3⟩ := hr
    exact ⟨b, off, h1, by cases l <;> first | exact h.S b h2 | exact h.L rfl b h2, by rw [h.w]; exact R_bareL h v _ _ h3⟩
  | .imm l sz n f, c, o, _, hr => by
    simp only [R] at hr ⊢
    obtain ⟨a, cp, h1, h2, h3⟩ := hr
    exact ⟨a, cp, h1, h2, h3.imp id fun ⟨b, off, h4, h5, h6⟩ => ⟨b, off, h4, by cases l <;> first | exact h.S b h5 | exact h.L rfl b h5, fun k hk => ⟨(h6 k hk).1, by rw [h.w]; exact R_bareL h (f k) _ _ (h6 k hk).2⟩⟩⟩
  | .tup _, c, o, _, hr => by simp only [R] at hr
  | .int .., c, o, _, hr | .tt, c, o, _, hr | .ff, c, o, _, hr | .bool _, c, o, _, hr | .str _, c, o, _, hr | .nilp, c, o, _, hr | .emp, c, o, _, hr | .nilf, c, o, _, hr | .nili, c, o, _, hr | .any, c, o, _, hr => by simpa only [R] using hr
theorem RL_noref {E E' : Env} (h : Lee false E E') : ∀ (l : Vs) (c : Nat → Option Value) (o : Nat), norefs l → RL E l c o → RL E' l c o
  | .nil, c, o, _, _ => by simp only [RL]
  | .cons v l, c, o, hn, hr => by
    simp only [norefs] at hn
    simp only [RL] at hr ⊢
    exact ⟨R_noref h v c o hn.1 hr.1, RL_noref h l c _ hn.2 hr.2⟩
theorem R_bareL {E E' : Env} (h : Lee false E E') : ∀ (v : V) (c : Nat → Option Value) (o : Nat), R E.bare v c o → R E'.bare v c o
  | .ref .., c, o, hr => by simp only [R] at hr; exact absurd hr.1 (Nat.not_lt_zero _)
  | .rref .., c, o, hr => by simp only [R] at hr; exact absurd hr.1 (Nat.not_lt_zero _)
  | .sl .., c, o, hr => by simp only [R] at hr; exact absurd hr.1 (Nat.not_lt_zero _)
  | .row sz n f, c, o, hr => by
    simp only [R] at hr ⊢
    exact fun k hk => ⟨(hr k hk).1, R_bareL h (f k) _ _ (hr k hk).2⟩
  | .st l, c, o, hr => by
    simp only [R] at hr ⊢
    exact RL_bareL h l c o hr
  | .fn f l, c, o, hr => by
    simp only [R] at hr ⊢
    obtain ⟨xs, h1, h2, h3, h4⟩ := hr
    exact ⟨xs, h1, h2, h3, RL_bareL h l _ _ h4⟩
  | .iface t v, c, o, hr => by
    simp only [R] at hr ⊢
    obtain ⟨x, h1, h2, h3⟩ := hr
    exact ⟨x, h1, h2, R_bareL h v _ _ h3⟩
  | .pim l v, c, o, hr => by
    simp only [R] at hr ⊢
    obtain ⟨b, off, h1, h2, h3⟩ := hr
    exact ⟨b, off, h1, by cases l <;> first | exact h.S b h2 | exact h.L rfl b h2, by show R E'.bare v (cellsAt E'.w b) off; rw [h.w]; exact R_bareL h v _ _ h3⟩
  | .imm l sz n f, c, o, hr => by
    simp only [R] at hr ⊢
    obtain ⟨a, cp, h1, h2, h3⟩ := hr
    exact ⟨a, cp, h1, h2, h3.imp id fun ⟨b, off, h4, h5, h6⟩ => ⟨b, off, h4, by cases l <;> first | exact h.S b h5 | exact h.L rfl b h5, fun k hk => ⟨(h6 k hk).1, by show R E'.bare (f k) (cellsAt E'.w b) (off + k * sz); rw [h.w]; exact R_bareL h (f k) _ _ (h6 k hk).2⟩⟩⟩
  | .tup _, c, o, hr => by simp only [R] at hr
  | .int .., c, o, hr | .tt, c, o, hr | .ff, c, o, hr | .bool _, c, o, hr | .str _, c, o, hr | .nilp, c, o, hr | .emp, c, o, hr | .nilf, c, o, hr | .nili, c, o, hr | .any, c, o, hr => by simpa only [R] using hr
theorem RL_bareL {E E' : Env} (h : Lee false E E') : ∀ (l : Vs) (c : Nat → Option Value) (o : Nat), RL E.bare l c o → RL E'.bare l c o
  | .nil, c, o, _ => by simp only [RL]
  | .cons v l, c, o, hr => by
    simp only [RL] at hr ⊢
    exact ⟨R_bareL h v c o hr.1, RL_bareL h l c _ hr.2⟩
end
mutual
theorem R_own {E E' : Env} (h : Lee true E E') : ∀ (v : V) (c : Nat → Option Value) (o : Nat), own v → R E v c o → R E' v c o
  | .ref .., _, _, hn, _ | .rref .., _, _, hn, _ | .sl .., _, _, hn, _ => by simp only [own] at hn
  | .row sz n f, c, o, hn, hr => by
    simp only [own] at hn
    simp only [R] at hr ⊢
    exact fun k hk => ⟨(hr k hk).1, R_own h (f k) _ _ (hn k hk) (hr k hk).2⟩
  | .st l, c, o, hn, hr => by
    simp only [own] at hn
    simp only [R] at hr ⊢
    exact RL_own h l c o hn hr
  | .fn f l, c, o, hn, hr => by
    simp only [own] at hn
    simp only [R] at hr ⊢
    obtain ⟨xs, h1, h2, h3, h4⟩ := hr
    exact ⟨xs, h1, h2, h3, RL_own h l _ _ hn h4⟩
  | .iface t v, c, o, hn, hr => by
    simp only [own] at hn
    simp only [R] at hr ⊢
    obtain ⟨x, h1, h2, h3⟩ := hr
    exact ⟨x, h1, h2, R_own h v _ _ hn h3⟩
  | .pim l v, c, o, hn, hr => by
    cases l
    · simp only [own] at hn
      simp only [R] at hr ⊢
      obtain ⟨b, off, h1, h2, h3⟩ := hr
      exact ⟨b, off, h1, h.S b h2, by rw [h.w]; exact R_own h.bare v _ _ hn h3⟩
    · simp only [own] at hn
  | .imm l sz n f, c, o, hn, hr => by
    cases l
    · simp only [own] at hn
      simp only [R] at hr ⊢
      obtain ⟨a, cp, h1, h2, h3⟩ := hr
      exact ⟨a, cp, h1, h2, h3.imp id fun ⟨b, off, h4, h5, h6⟩ => ⟨b, off, h4, h.S b h5, fun k hk => ⟨(h6 k hk).1, by rw [h.w]; exact R_own h.bare (f k) _ _ (hn k hk) (h6 k hk).2⟩⟩⟩
    · simp only [own] at hn
  | .tup _, c, o, _, hr => by simp only [R] at hr
  | .int .., c, o, _, hr | .tt, c, o, _, hr | .ff, c, o, _, hr | .bool _, c, o, _, hr | .str _, c, o, _, hr | .nilp, c, o, _, hr | .emp, c, o, _, hr | .nilf, c, o, _, hr | .nili, c, o, _, hr | .any, c, o, _, hr => by simpa only [R] using hr
theorem RL_own {E E' : Env} (h : Lee true E E') : ∀ (l : Vs) (c : Nat → Option Value) (o : Nat), owns l → RL E l c o → RL E' l c o
  | .nil, c, o, _, _ => by simp only [RL]
  | .cons v l, c, o, hn, hr => by
    simp only [owns] at hn
    simp only [RL] at hr ⊢
    exact ⟨R_own h v c o hn.1 hr.1, RL_own h l c _ hn.2 hr.2⟩
end
theorem norefs_get : ∀ {l : Vs} {k : Nat}, norefs l → noref (l.get k)
  | .nil, _, _ => by simp [Vs.get, noref]
  | .cons v l, 0, h => by simp only [norefs] at h; exact h.1
  | .cons v l, k + 1, h => by simp only [norefs] at h; exact norefs_get (l := l) h.2
theorem owns_get : ∀ {l : Vs} {k : Nat}, owns l → own (l.get k)
  | .nil, _, _ => by simp [Vs.get, own]
  | .cons v l, 0, h => by simp only [owns] at h; exact h.1
  | .cons v l, k + 1, h => by simp only [owns] at h; exact owns_get (l := l) h.2
theorem T_noref {E E' : Env} (h : Lee false E E') {v : V} {x : Value} (hn : noref v) (ht : T E v x) : T E' v x := by
  cases v
  case any => trivial
  case tup l =>
    simp only [noref] at hn
    obtain ⟨xs, h1, h2, h3⟩ := ht
    refine ⟨xs, h1, h2, fun k y hk => ?_⟩
    have h4 := h3 k y hk
    have h5 := norefs_get (k := k) hn
    generalize l.get k = u at h4 h5 ⊢
    cases u <;> first | trivial | exact ⟨h4.1, h4.2.1, R_noref h _ _ _ h5 h4.2.2⟩
  all_goals exact ⟨ht.1, R_noref h _ _ _ hn ht.2⟩
theorem T_own {E E' : Env} (h : Lee true E E') {v : V} {x : Value} (hn : own v) (ht : T E v x) : T E' v x := by
  cases v
  case any => trivial
  case tup l =>
    simp only [own] at hn
    obtain ⟨xs, h1, h2, h3⟩ := ht
    refine ⟨xs, h1, h2, fun k y hk => ?_⟩
    have h4 := h3 k y hk
    have h5 := owns_get (k := k) hn
    generalize l.get k = u at h4 h5 ⊢
    cases u <;> first | trivial | exact ⟨h4.1, h4.2.1, R_own h _ _ _ h5 h4.2.2⟩
  all_goals exact ⟨ht.1, R_own h _ _ _ hn ht.2⟩
end Go.DD
