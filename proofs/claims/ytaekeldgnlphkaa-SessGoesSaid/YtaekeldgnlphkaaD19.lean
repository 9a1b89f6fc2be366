/- Code: what must hold so that it ends as said. -/
import Derived.Test.YtaekeldgnlphkaaD18
namespace Go.DD
set_option linter.unusedVariables false
open Go.RowKit

structure Xt (n0 : Nat) (E E' : Env) : Prop where
  os : E'.w.os = E.w.os
  tape : E'.w.tape = E.w.tape
  output : E'.w.output = E.w.output
  size : E.w.heap.size ≤ E'.w.heap.size
  N : n0 ≤ E'.N
  ρ : ∀ i, i < n0 → E'.ρ i = E.ρ i
  vt : ∀ i, i < n0 → E'.vt i = E.vt i
  S : ∀ b, E.S b → E'.S b
  S' : ∀ b, E'.S b → E.S b ∨ E.w.heap.size ≤ b
  L : ∀ b, E'.L b ↔ E.L b
  K : ∀ b, E.K b → E'.K b
  kept : ∀ b, E.K b → E'.w.heap[b]? = E.w.heap[b]?
  cells : ∀ (b : Nat) (cs : Array Value) (t : TypeId) (fr : Nat × Nat), E.w.heap[b]? = some (.cells cs t fr) → ∃ (cs' : Array Value) (fr' : Nat × Nat), E'.w.heap[b]? = some (Obj.cells cs' t fr') ∧ cs'.size = cs.size
theorem Ext.xt {n0 : Nat} {E E' : Env} (h : Ext E E') (hn : n0 ≤ E.N) : Xt n0 E E' where
  os := h.os
  tape := h.tape
  output := h.output
  size := h.size
  N := Nat.le_trans hn h.N
  ρ := fun i hi => h.ρ i (Nat.lt_of_lt_of_le hi hn)
  vt := fun i hi => h.vt i (Nat.lt_of_lt_of_le hi hn)
  S := h.S
  S' := h.S'
  L := h.L
  K := h.K
  kept := h.kept
  cells := h.cells
theorem Xt.trans {n0 : Nat} {E E' E'' : Env} (h : Xt n0 E E') (k : Xt n0 E' E'') : Xt n0 E E'' where
  os := k.os.trans h.os
  tape := k.tape.trans h.tape
  output := k.output.trans h.output
  size := Nat.le_trans h.size k.size
  N := k.N
  ρ := fun i hi => (k.ρ i hi).trans (h.ρ i hi)
  vt := fun i hi => (k.vt i hi).trans (h.vt i hi)
  S := fun b hb => k.S b (h.S b hb)
  S' := fun b hb => (k.S' b hb).elim (fun h' => h.S' b h') (fun h' => .inr (Nat.le_trans h.size h'))
  L := fun b => (k.L b).trans (h.L b)
  K := fun b hb => k.K b (h.K b hb)
  kept := fun b hb => (k.kept b (h.K b hb)).trans (h.kept b hb)
  cells := fun b cs t fr hb => by
    obtain ⟨cs', fr', h1, h2⟩ := h.cells b cs t fr hb
    obtain ⟨cs'', fr'', h3, h4⟩ := k.cells b cs' t fr' h1
    exact ⟨cs'', fr'', h3, h4.trans h2⟩

structure OK (P : Program) (Γ : Ctx) (c : Code) (Q : Exit → St → Prop) (σ : St) : Prop where
  out : ∀ E a, Γ.n0 ≤ E.N → Sim Γ E σ a → c.wp P (fun e a' w' => ∃ E' σ', w' = E'.w ∧ Xt Γ.n0 E E' ∧ Sim Γ E' σ' a' ∧ Q e σ') a E.w

/-! ### A template: some slots, some variables -/
def tmpl (tl : List (Nat × V)) (h : Heap) : St := ⟨fun k => match lookV tl k with | some v => v | none => .any, h⟩
def leT (m : List (Option Nat)) (t : Nat → V) : List (Nat × V) → Prop
  | [] => True
  | (k, v) :: l => leS m (t k) v ∧ leT m t l
def leH (mm : List (Option Nat)) (h : Heap) : List (Option Nat) → Heap → Prop
  | [], [] => True
  | none :: m, v :: l => (match v with | some (.row _ 0 _) => True | none => True | _ => False) ∧ leH mm h m l
  | some _ :: m, none :: l => leH mm h m l
  | some j :: m, some v :: l => (match hget h j with | some u => leV mm u v | none => False) ∧ leH mm h m l
  | _, _ => False
def noDup : List (Option Nat) → Bool
  | [] => true
  | none :: l => noDup l
  | some j :: l => l.all (fun x => match x with | some i => !Nat.beq i j | none => true) && noDup l
def idOn : Nat → Nat → List (Option Nat) → Bool
  | 0, _, _ => true
  | n + 1, k, some j :: l => Nat.beq j k && idOn n (k + 1) l
  | _, _, _ => false
/-- 'σ' fits the template; 'm' tells of each of the template's variables which one it is. -/
structure Le (n0 : Nat) (m : List (Option Nat)) (σ : St) (tl : List (Nat × V)) (h : Heap) : Prop where
  t : leT m σ.t tl
  h : leH m σ.h m h
  s : (noDup m && idOn n0 0 m) = true

theorem leT_get {m : List (Option Nat)} {t : Nat → V} : ∀ {tl : List (Nat × V)} {k : Nat} {v : V}, leT m t tl → lookV tl k = some v → leS m (t k) v
  | [], _, _, _, h => by simp [lookV] at h
  | (k', u) :: l, k, v, hl, h => by
    simp only [leT] at hl
    simp only [lookV] at h
    split at h
    · rename_i hb
      simp only [Nat.beq_eq] at hb
      cases h
      rw [← hb]; exact hl.1
    · exact leT_get hl.2 h
theorem leH_get {mm : List (Option Nat)} {h : Heap} : ∀ {m : List (Option Nat)} {l : Heap}, leH mm h m l → m.length = l.length ∧ ∀ (i : Nat) v, l[i]? = some (some v) → (m[i]? = some none ∧ ∃ sz f, v = .row sz 0 f) ∨ ∃ j u, m[i]? = some (some j) ∧ h[j]? = some (some u) ∧ leV mm u v
  | [], [], _ => ⟨rfl, fun i v h => by simp at h⟩
  | none :: m, v :: l, hl => by
    simp only [leH] at hl
    obtain ⟨h1, h2⟩ := leH_get hl.2
    refine ⟨by simp [h1], fun i u hi => ?_⟩
    cases i with
    | zero =>
      simp at hi
      subst hi
      have := hl.1
      split at this
      · rename_i he; cases he; exact .inl ⟨rfl, _, _, rfl⟩
      · rename_i he; cases he
      · exact this.elim
    | succ i => exact h2 i u (by simpa using hi)
  | some j :: m, none :: l, hl => by
    simp only [leH] at hl
    obtain ⟨h1, h2⟩ := leH_get hl
    refine ⟨by simp [h1], fun i u hi => ?_⟩
    cases i with
    | zero => simp at hi
    | succ i => exact h2 i u (by simpa using hi)
  | some j :: m, some v :: l, hl => by
    simp only [leH] at hl
    obtain ⟨h1, h2⟩ := leH_get hl.2
    refine ⟨by simp [h1], fun i u hi => ?_⟩
    cases i with
    | zero =>
      simp at hi
      subst hi
      have := hl.1
      split at this
      · rename_i w hw
        exact .inr ⟨j, w, rfl, (hget_eq _ _ _).1 hw, this⟩
      · exact this.elim
    | succ i => exact h2 i u (by simpa using hi)
  | [], _ :: _, hl => by simp [leH] at hl
  | some _ :: _, [], hl => by simp [leH] at hl
  | none :: _, [], hl => by simp [leH] at hl
theorem noDup_ne : ∀ {m : List (Option Nat)} {i k j : Nat}, noDup m = true → m[i]? = some (some j) → m[k]? = some (some j) → i = k
  | [], i, _, _, _, hi, _ => by simp at hi
  | none :: l, i, k, j, h, hi, hk => by
    cases i with
    | zero => simp at hi
    | succ i => cases k with
      | zero => simp at hk
      | succ k => exact congrArg _ (noDup_ne (m := l) (by simpa [noDup] using h) (by simpa using hi) (by simpa using hk))
  | some x :: l, i, k, j, h, hi, hk => by
    simp only [noDup, Bool.and_eq_true, List.all_eq_true] at h
    have hx : ∀ q, l[q]? ≠ some (some x) := fun q hq => by
      have := h.1 _ (List.mem_of_getElem? hq)
      simp at this
    cases i with
    | zero =>
      cases k with
      | zero => rfl
      | succ k =>
        simp at hi hk
        subst hi
        exact absurd hk (hx k)
    | succ i =>
      cases k with
      | zero =>
        simp at hi hk
        subst hk
        exact absurd hi (hx i)
      | succ k => exact congrArg _ (noDup_ne (m := l) h.2 (by simpa using hi) (by simpa using hk))
theorem idOn_get : ∀ {n k : Nat} {m : List (Option Nat)}, idOn n k m = true → n ≤ m.length ∧ ∀ i, i < n → m[i]? = some (some (k + i))
  | 0, _, _, _ => ⟨Nat.zero_le _, fun i hi => absurd hi (Nat.not_lt_zero i)⟩
  | n + 1, k, some j :: l, h => by
    simp only [idOn, Bool.and_eq_true, Nat.beq_eq] at h
    obtain ⟨h1, h2⟩ := idOn_get h.2
    refine ⟨by simp; omega, fun i hi => ?_⟩
    cases i with
    | zero => simp [h.1]
    | succ i => have := h2 i (by omega); simp only [List.getElem?_cons_succ]; rw [this]; congr 2; omega
  | n + 1, k, none :: l, h => by simp [idOn] at h
  | n + 1, k, [], h => by simp [idOn] at h

section
variable {P : Program} {Γ : Ctx}
theorem Le.sim {E : Env} {σ : St} {a : Act} {m : List (Option Nat)} {tl : List (Nat × V)} {h : Heap} (hl : Le Γ.n0 m σ tl h) (hs : Sim Γ E σ a) (_hn : Γ.n0 ≤ E.N) : Xt Γ.n0 E (E.ren m) ∧ Sim Γ (E.ren m) (tmpl tl h) a := by
  obtain ⟨ht, hh, hm⟩ := hl
  simp only [Bool.and_eq_true] at hm
  obtain ⟨hlen, hget⟩ := leH_get hh
  obtain ⟨hid1, hid2⟩ := idOn_get hm.2
  have hold : ∀ {i j : Nat}, m[i]? = some (some j) → (E.ren m).ρ i = E.ρ j ∧ (E.ren m).vt i = E.vt j := fun hij => by
    have := Env.ren_old (E := E) (m := m) (by rw [getM_eq]; exact hij)
    exact ⟨this.1, this.2.1⟩
  have hwf : Wf (E.ren m) := ⟨hs.wf.S, hs.wf.L, hs.wf.K⟩
  constructor
  · exact {
      os := rfl, tape := rfl, output := rfl, size := Nat.le_refl _, N := hid1
      ρ := fun i hi => by have := (hold (hid2 i hi)).1; simpa using this
      vt := fun i hi => by have := (hold (hid2 i hi)).2; simpa using this
      S := fun _ h => h, S' := fun _ h => .inl h, L := fun _ => Iff.rfl, K := fun _ h => h, kept := fun _ _ => rfl
      cells := fun b cs t fr hb => ⟨cs, fr, hb, rfl⟩ }
  · refine { wf := hwf, heap := ⟨?_, fun i v hi => ?_, fun i j v v' hi hj hne h1 h2 => ?_⟩, tmp := fun k => ?_, size := hs.size, defers := hs.defers, gl := fun p hp => hs.gl p hp }
    · simp only [tmpl, Env.ren]; exact hlen.symm
    · rcases hget i v hi with ⟨h1, sz, f, rfl⟩ | ⟨j, u, h1, h2, h3⟩
      · exact .inl ⟨by simp [Env.ren, isVt, getM_eq, h1], sz, f, rfl⟩
      · obtain ⟨e1, e2⟩ := hold h1
        rcases hs.heap.live j u h2 with ⟨h4, sz, f, rfl⟩ | ⟨h4, h5, cs, t, h6, h7, h8⟩
        · refine .inl ⟨e2.trans h4, ?_⟩
          cases v <;> simp only [leV] at h3
          case row sz' n' f' =>
            obtain ⟨g, hg, _⟩ := h3
            cases hg
            exact ⟨_, _, rfl⟩
          all_goals first
            | (cases h3; done)
            | (exact absurd h3.1 (by simp [V.isAgg]))
            | (obtain ⟨x, hx, _⟩ := h3; cases hx; done)
            | (rcases h3 with ⟨hx, _⟩ | ⟨x, hx, _⟩ <;> cases hx; done)
            | (split at h3 <;> first | (cases h3; done) | (cases h3.1; done))
            | (simp [vb] at h3; done)
        · refine .inr ⟨e2.trans h4, by rw [e1]; exact h5, cs, t, by rw [e1]; exact h6, by rw [← (leV_size _ _ h3).2.1]; exact h7, leV_R _ _ _ _ h3 h8⟩
    · rcases hget i v hi with ⟨h3, _⟩ | ⟨i', u, h3, h4, _⟩
      · exfalso
        simp [Env.ren, isVt, getM_eq, h3] at h1
      · rcases hget j v' hj with ⟨h5, _⟩ | ⟨j', u', h5, h6, _⟩
        · exfalso
          simp [Env.ren, isVt, getM_eq, h5] at h2
        · rw [(hold h3).1, (hold h5).1]
          rw [(hold h3).2] at h1
          rw [(hold h5).2] at h2
          exact hs.heap.inj i' j' u u' h4 h6 (fun e => hne (noDup_ne hm.1 h3 (e ▸ h5))) h1 h2
    · simp only [tmpl]
      split
      · rename_i v hv
        exact leS_T (leT_get ht hv) (hs.tmp k)
      · trivial

theorem OK.mono {c : Code} {Q Q' : Exit → St → Prop} {σ : St} (h : OK P Γ c Q σ) (hq : ∀ e σ, Q e σ → Q' e σ) : OK P Γ c Q' σ :=
  ⟨fun E a hn hs => wp_mono (h.out E a hn hs) fun _ _ _ ⟨E', σ', h1, h2, h3, h4⟩ => ⟨E', σ', h1, h2, h3, hq _ _ h4⟩⟩
theorem OK_weak {c : Code} {Q : Exit → St → Prop} {σ : St} (m : List (Option Nat)) {tl : List (Nat × V)} {h : Heap} (hl : Le Γ.n0 m σ tl h) (hk : OK P Γ c Q (tmpl tl h)) : OK P Γ c Q σ :=
  ⟨fun E a hn hs => by
    obtain ⟨h1, h2⟩ := hl.sim hs hn
    exact wp_mono (hk.out (E.ren m) a h1.N h2) fun _ _ _ ⟨E', σ', e1, e2, e3, e4⟩ => ⟨E', σ', e1, h1.trans e2, e3, e4⟩⟩

def seqQ (K : St → Prop) (Q : Exit → St → Prop) : Exit → St → Prop := fun e σ => match e with | .normal => K σ | e => Q e σ
theorem OK_seq {a b : Code} {Q : Exit → St → Prop} {σ : St} (h : OK P Γ a (seqQ (OK P Γ b Q) Q) σ) : OK P Γ (.seq a b) Q σ :=
  ⟨fun E ac hn hs => wp_seq (wp_mono (h.out E ac hn hs) fun e a' w' ⟨E', σ', h1, h2, h3, h4⟩ => by
    cases e with
    | normal =>
      subst h1
      exact wp_mono (h4.out E' a' h2.N h3) fun _ _ _ ⟨E'', σ'', e1, e2, e3, e4⟩ => ⟨E'', σ'', e1, h2.trans e2, e3, e4⟩
    | _ => exact ⟨E', σ', h1, h2, h3, h4⟩)⟩
/-- A cut between two codes. -/
theorem OK_cut {ι : Type} {a b : Code} {Q : Exit → St → Prop} {σ : St} (tl : ι → List (Nat × V)) (hp : ι → Heap) (p : ι → Prop)
    (h : OK P Γ a (seqQ (fun σ' => ∃ x m, Le Γ.n0 m σ' (tl x) (hp x) ∧ p x) Q) σ) (hb : ∀ x, p x → OK P Γ b Q (tmpl (tl x) (hp x))) : OK P Γ (.seq a b) Q σ :=
  OK_seq (h.mono fun e σ' hq => by
    cases e with
    | normal => obtain ⟨x, m, hl, hx⟩ := hq; exact OK_weak m hl (hb x hx)
    | _ => exact hq)

theorem wp_loop_ix {ι : Type} {c : Code} {Q : Exit → Act → World → Prop} (I : ι → Act → World → Prop) (μ : ι → Nat)
    (round : ∀ x a w, I x a w → c.wp P (Exit.then (fun a' w' => ∃ y, I y a' w' ∧ μ y < μ x) Q) a w) {x : ι} {a : Act} {w : World} (h₀ : I x a w) : (Code.loop c).wp P Q a w := by
  intro b k cs
  have key : ∀ n x a w, μ x = n → I x a w →
      ∃ e a' w', Q e a' w' ∧ Arrives P (lone (b.at a (.code c :: .inLoop c :: k)) cs w) b k cs e a' w' := by
    intro n
    induction n using Nat.strongRecOn with
    | _ n ih =>
      intro x a w hn hI
      obtain ⟨e, a₁, w₁, hq, harr⟩ := round x a w hI b (.inLoop c :: k) cs
      cases e with
      | normal =>
        obtain ⟨y, hI₁, hlt⟩ := hq
        obtain ⟨e₂, a₂, w₂, hq₂, harr₂⟩ := ih (μ y) (hn ▸ hlt) y a₁ w₁ rfl hI₁
        exact ⟨e₂, a₂, w₂, hq₂, .of_steps (Steps.trans harr (.one step_inLoop)) harr₂⟩
      | exit id => exact ⟨_, a₁, w₁, hq, .pass (x := .inLoop c) rfl (fun _ _ => .inl (by simp)) harr⟩
      | goto l => exact ⟨_, a₁, w₁, hq, .pass (x := .inLoop c) rfl (fun _ _ => .inl (by simp)) harr⟩
      | ret => exact ⟨_, a₁, w₁, hq, .pass (x := .inLoop c) rfl (fun _ _ => .inl (by simp)) harr⟩
      | panic ch => exact ⟨_, a₁, w₁, hq, .pass (x := .inLoop c) rfl (fun _ _ => .inl (by simp)) harr⟩
      | outgrown => exact ⟨_, a₁, w₁, hq, .pass (x := .inLoop c) rfl (fun _ _ => .inl (by simp)) harr⟩
  obtain ⟨e, a', w', hq, harr⟩ := key _ x a w rfl h₀
  exact ⟨e, a', w', hq, .of_steps (.one step_loop) harr⟩

theorem OK_loop {ι : Type} {b : Code} {Q : Exit → St → Prop} {σ : St} (tl : ι → List (Nat × V)) (hp : ι → Heap) (p : ι → Prop) (μ : ι → Nat) (x0 : ι) (m0 : List (Option Nat)) (h0 : Le Γ.n0 m0 σ (tl x0) (hp x0)) (hp0 : p x0)
    (round : ∀ x, p x → OK P Γ b (seqQ (fun σ' => ∃ y m, Le Γ.n0 m σ' (tl y) (hp y) ∧ p y ∧ μ y < μ x) Q) (tmpl (tl x) (hp x))) : OK P Γ (.loop b) Q σ :=
  ⟨fun E a hn hs => by
    obtain ⟨h1, h2⟩ := h0.sim hs hn
    refine wp_loop_ix (P := P) (fun x a w => p x ∧ ∃ E', w = E'.w ∧ Xt Γ.n0 E E' ∧ Sim Γ E' (tmpl (tl x) (hp x)) a) μ (fun x a' w' ⟨hx, E', e1, e2, e3⟩ => ?_) (x := x0) ⟨hp0, E.ren m0, rfl, h1, h2⟩
    subst e1
    refine wp_mono ((round x hx).out E' a' e2.N e3) fun e a'' w'' ⟨E'', σ'', k1, k2, k3, k4⟩ => ?_
    cases e with
    | normal =>
      obtain ⟨y, m, k5, k6, k7⟩ := k4
      obtain ⟨k8, k9⟩ := k5.sim k3 k2.N
      exact ⟨y, ⟨k6, E''.ren m, k1, (e2.trans k2).trans k8, k9⟩, k7⟩
    | _ => exact ⟨E'', σ'', k1, e2.trans k2, k3, k4⟩⟩
end
end Go.DD
