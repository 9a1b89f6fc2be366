/- Part of the claim: D1, D2, D3, D4, D5, D6, D7, D8, D9, D10, D11, D27, D28, D29, D33. -/
import Derived.Calls
import Derived.Orders
import Derived.Below
import Derived.KernelRfl
import Derived.RowKit3
import Derived.Laws.CopyRow
import Derived.Deep.MidRow
import Derived.Deep.AppendSrc
import GoSem.Dispatch
import Derived.DeepKeys
import Derived.Laws.StructEq
import Derived.Laws.Strings
import Derived.Deep.Upon
import Derived.Lib.MinMax
import Derived.Laws.Cover3
import Derived.Great.BuildSlice
import Derived.Laws.MakeOwn
import Derived.Laws.BytesString
import Derived.Lib.ConvBytes
/- The abstract values of a walk, and what they say of the model's values and memory. -/
namespace Go.DD
set_option linter.unusedVariables false
set_option linter.unusedSimpArgs false
open Go.RowKit

/-- A step of a path into a variable: a field (its number, where it begins), an element (its number, an element's size). -/
inductive Step where
  | f (k off : Nat)
  | i (k sz : Nat)
def Step.off : Step → Nat | .f _ o => o | .i k sz => k * sz
def poff : List Step → Nat | [] => 0 | s :: p => s.off + poff p

mutual
inductive V where
  | int (k : IntKind) (n : Int)
  | tt
  | ff
  | bool (b : Bool)
  | str (s : List UInt8)
  | nilp
  | ref (i : Nat) (p : List Step)
  | rref (i : Nat) (p : List Step) (sz lo n : Nat)
  | pim (lent : Bool) (v : V)
  | sl (i : Nat) (p : List Step) (sz lo len cap : Nat)
  | slx (i sz lo len cap : Nat)
  | emp
  | imm (lent : Bool) (sz n : Nat) (f : Nat → V)
  | fn (f : FuncId) (caps : Vs)
  | nilf
  | iface (t : TypeId) (v : V)
  | nili
  | row (sz n : Nat) (f : Nat → V)
  | st (l : Vs)
  | tup (l : Vs)
  | any
inductive Vs where
  | nil
  | cons (v : V) (l : Vs)
end
instance : Inhabited V := ⟨.any⟩

def Vs.of : List V → Vs | [] => .nil | v :: l => .cons v (Vs.of l)
def Vs.get : Vs → Nat → V | .nil, _ => .any | .cons v _, 0 => v | .cons _ l, k + 1 => l.get k
def Vs.len : Vs → Nat | .nil => 0 | .cons _ l => l.len + 1
def Vs.set : Vs → Nat → V → Vs | .nil, _, _ => .nil | .cons _ l, 0, u => .cons u l | .cons v l, k + 1, u => .cons v (l.set k u)

mutual
def vsize : V → Nat
  | .row sz n _ => sz * n
  | .st l => vsizes l
  | _ => 1
def vsizes : Vs → Nat
  | .nil => 0
  | .cons v l => vsize v + vsizes l
end
def V.isAgg : V → Bool | .row .. | .st .. => true | _ => false
def V.isTup : V → Bool | .tup .. => true | _ => false
/-- One-cell values, all of them. -/
def Vs.flat : Vs → Bool | .nil => true | .cons v l => !v.isAgg && !v.isTup && l.flat

structure Env where
  w : World
  ρ : Nat → Nat
  vt : Nat → Bool
  N : Nat
  S : Nat → Prop
  L : Nat → Prop
  K : Nat → Prop


/-- Without the local heap: what stands behind a stable pointer tells of no local variable. -/
def Env.bare (E : Env) : Env := { E with N := 0, ρ := fun _ => 0, vt := fun _ => false }
def Env.foot (E : Env) (lent : Bool) (b : Nat) : Prop := match lent with | true => E.L b | false => E.S b
def cellsAt (w : World) (b : Nat) : Nat → Option Value := fun q => w.cell? ⟨b, q, none⟩
def aggOk (v : V) (x : Value) : Prop := (v.isAgg = true ∧ (∃ cs, x = .agg cs) ∧ x.cells.size = vsize v) ∨ (v.isAgg = false ∧ x.oneCell' = true)

mutual
/-- 'v' stands in the cells 'c' from 'o' on. -/
def R (E : Env) : V → (Nat → Option Value) → Nat → Prop
  | .int k n, c, o => c o = some (.int k n)
  | .tt, c, o => c o = some (.bool true)
  | .ff, c, o => c o = some (.bool false)
  | .bool b, c, o => c o = some (.bool b)
  | .str s, c, o => c o = some (.string ⟨s.toArray⟩)
  | .nilp, c, o => c o = some (.pointer none)
  | .ref i p, c, o => i < E.N ∧ c o = some (.pointer (some ⟨E.ρ i, poff p, none⟩))
  | .rref i p sz lo _, c, o => i < E.N ∧ c o = some (.pointer (some ⟨E.ρ i, poff p + lo * sz, none⟩))
  | .pim lent v, c, o => ∃ b off, c o = some (.pointer (some ⟨b, off, none⟩)) ∧ E.foot lent b ∧ R E.bare v (cellsAt E.w b) off
  | .sl i p sz lo len cap, c, o => i < E.N ∧ ∃ a cp, c o = some (.slice a len cp) ∧ len ≤ cap ∧ cap ≤ cp ∧
      (cp = 0 ∨ (E.vt i = false ∧ a = some ⟨E.ρ i, poff p + lo * sz, none⟩ ∧ ∃ cs t fr, E.w.heap[E.ρ i]? = some (.cells cs t fr) ∧ poff p + (lo + cp) * sz ≤ cs.size))
  | .slx i sz lo len cap, c, o => i < E.N ∧ ∃ a, c o = some (.slice a len cap) ∧ len ≤ cap ∧
      (cap = 0 ∨ (E.vt i = false ∧ a = some ⟨E.ρ i, lo * sz, none⟩ ∧ ∃ cs t fr, E.w.heap[E.ρ i]? = some (.cells cs t fr) ∧ (lo + cap) * sz ≤ cs.size))
  | .emp, c, o => ∃ a, c o = some (.slice a 0 0)
  | .imm lent sz n f, c, o => ∃ a cp, c o = some (.slice a n cp) ∧ n ≤ cp ∧
      (n = 0 ∨ ∃ b off, a = some ⟨b, off, none⟩ ∧ E.foot lent b ∧ ∀ k, k < n → vsize (f k) = sz ∧ R E.bare (f k) (cellsAt E.w b) (off + k * sz))
  | .fn f caps, c, o => ∃ xs, c o = some (.func (.func f) #[] xs) ∧ xs.size = vsizes caps ∧ caps.flat = true ∧ RL E caps (fun k => xs[k]?) 0
  | .nilf, c, o => c o = some .nilFunc
  | .iface t v, c, o => ∃ x, c o = some (.iface t x) ∧ aggOk v x ∧ R E v (fun k => x.cells[k]?) 0
  | .nili, c, o => c o = some .nilIface
  | .row sz n f, c, o => ∀ k, k < n → vsize (f k) = sz ∧ R E (f k) c (o + k * sz)
  | .st l, c, o => RL E l c o
  | .tup _, _, _ => False
  | .any, c, o => ∃ x, c o = some x ∧ x.oneCell' = true
def RL (E : Env) : Vs → (Nat → Option Value) → Nat → Prop
  | .nil, _, _ => True
  | .cons v l, c, o => R E v c o ∧ RL E l c (o + vsize v)
end

/-- What a slot holds. -/
def T (E : Env) (v : V) (x : Value) : Prop :=
  match v with
  | .any => True
  | .tup l => ∃ xs, x = .tuple xs ∧ xs.size = l.len ∧ ∀ k y, xs[k]? = some y → match l.get k with
      | .any => True
      | u => u.isTup = false ∧ aggOk u y ∧ R E u (fun q => y.cells[q]?) 0
  | v => aggOk v x ∧ R E v (fun q => x.cells[q]?) 0

structure Ext (E E' : Env) : Prop where
  os : E'.w.os = E.w.os
  tape : E'.w.tape = E.w.tape
  output : E'.w.output = E.w.output
  size : E.w.heap.size ≤ E'.w.heap.size
  N : E.N ≤ E'.N
  ρ : ∀ i, i < E.N → E'.ρ i = E.ρ i
  vt : ∀ i, i < E.N → E'.vt i = E.vt i
  S : ∀ b, E.S b → E'.S b
  S' : ∀ b, E'.S b → E.S b ∨ ¬ E.K b
  L : ∀ b, E'.L b ↔ E.L b
  K : ∀ b, E.K b → E'.K b
  kept : ∀ b, E.K b → E'.w.heap[b]? = E.w.heap[b]?
  cells : ∀ (b : Nat) (cs : Array Value) (t : TypeId) (fr : Nat × Nat), E.w.heap[b]? = some (.cells cs t fr) → ∃ (cs' : Array Value) (fr' : Nat × Nat), E'.w.heap[b]? = some (Obj.cells cs' t fr') ∧ cs'.size = cs.size

theorem Ext.refl (E : Env) : Ext E E := ⟨rfl, rfl, rfl, Nat.le_refl _, Nat.le_refl _, fun _ _ => rfl, fun _ _ => rfl, fun _ h => h, fun _ h => .inl h, fun _ => Iff.rfl, fun _ h => h, fun _ _ => rfl, fun _ cs _ fr h => ⟨cs, fr, h, rfl⟩⟩
theorem Ext.trans {E E' E'' : Env} (h : Ext E E') (k : Ext E' E'') : Ext E E'' where
  os := k.os.trans h.os
  tape := k.tape.trans h.tape
  output := k.output.trans h.output
  size := Nat.le_trans h.size k.size
  N := Nat.le_trans h.N k.N
  ρ := fun i hi => (k.ρ i (Nat.lt_of_lt_of_le hi h.N)).trans (h.ρ i hi)
  vt := fun i hi => (k.vt i (Nat.lt_of_lt_of_le hi h.N)).trans (h.vt i hi)
  S := fun b hb => k.S b (h.S b hb)
  S' := fun b hb => (k.S' b hb).elim (fun h' => h.S' b h') (fun h' => .inr fun hk => h' (h.K b hk))
  L := fun b => (k.L b).trans (h.L b)
  K := fun b hb => k.K b (h.K b hb)
  kept := fun b hb => (k.kept b (h.K b hb)).trans (h.kept b hb)
  cells := fun b cs t fr hb => by
    obtain ⟨cs', fr', h1, h2⟩ := h.cells b cs t fr hb
    obtain ⟨cs'', fr'', h3, h4⟩ := k.cells b cs' t fr' h1
    exact ⟨cs'', fr'', h3, h4.trans h2⟩

/-- The sets of an environment fit its world. -/
structure Wf (E : Env) : Prop where
  S : ∀ b, E.S b → E.K b
  L : ∀ b, E.L b → E.K b
  K : ∀ b, E.K b → b < E.w.heap.size

theorem Ext.bare {E E' : Env} (h : Ext E E') : Ext E.bare E'.bare where
  os := h.os
  tape := h.tape
  output := h.output
  size := h.size
  N := Nat.le_refl _
  ρ := fun i hi => absurd hi (Nat.not_lt_zero i)
  vt := fun i hi => absurd hi (Nat.not_lt_zero i)
  S := h.S
  S' := h.S'
  L := h.L
  K := h.K
  kept := h.kept
  cells := h.cells
theorem Ext.of_bare (E : Env) : Ext E.bare E where
  os := rfl
  tape := rfl
  output := rfl
  size := Nat.le_refl _
  N := Nat.zero_le _
  ρ := fun i hi => absurd hi (Nat.not_lt_zero i)
  vt := fun i hi => absurd hi (Nat.not_lt_zero i)
  S := fun _ h => h
  S' := fun _ h => .inl h
  L := fun _ => Iff.rfl
  K := fun _ h => h
  kept := fun _ _ => rfl
  cells := fun b cs t fr hb => ⟨cs, fr, hb, rfl⟩
theorem Wf.bare {E : Env} (h : Wf E) : Wf E.bare := ⟨h.S, h.L, h.K⟩
theorem Ext.foot {E E' : Env} (h : Ext E E') {lent : Bool} {b : Nat} (hb : E.foot lent b) : E'.foot lent b := by
  cases lent
  · exact h.S b hb
  · exact (h.L b).2 hb
theorem Wf.foot {E : Env} (h : Wf E) {lent : Bool} {b : Nat} (hb : E.foot lent b) : E.K b := by
  cases lent
  · exact h.S b hb
  · exact h.L b hb
theorem cellsAt_of_block {w w' : World} {b : Nat} (h : w'.heap[b]? = w.heap[b]?) : cellsAt w' b = cellsAt w b := by
  funext q
  simp only [cellsAt, World.cell?, h]

mutual
theorem R_ext {E E' : Env} (hw : Wf E) (h : Ext E E') : ∀ (v : V) (c : Nat → Option Value) (o : Nat), R E v c o → R E' v c o
  | .int .., c, o, hr => by simpa only [R] using hr
  | .tt, c, o, hr => by simpa only [R] using hr
  | .ff, c, o, hr => by simpa only [R] using hr
  | .bool _, c, o, hr => by simpa only [R] using hr
  | .str _, c, o, hr => by simpa only [R] using hr
  | .nilp, c, o, hr => by simpa only [R] using hr
  | .ref i p, c, o, hr => by
    simp only [R] at hr ⊢
    exact ⟨Nat.lt_of_lt_of_le hr.1 h.N, by rw [h.ρ i hr.1]; exact hr.2⟩
  | .rref i p sz lo n, c, o, hr => by
    simp only [R] at hr ⊢
    exact ⟨Nat.lt_of_lt_of_le hr.1 h.N, by rw [h.ρ i hr.1]; exact hr.2⟩
  | .pim lent v, c, o, hr => by
    simp only [R] at hr ⊢
    obtain ⟨b, off, h1, h2, h3⟩ := hr
    refine ⟨b, off, h1, h.foot h2, ?_⟩
    rw [cellsAt_of_block (h.kept b (hw.foot h2))]
    exact R_ext hw.bare h.bare v _ _ h3
  | .sl i p sz lo len cap, c, o, hr => by
    simp only [R] at hr ⊢
    obtain ⟨hi, a, cp, h1, h2, h3, h4⟩ := hr
    refine ⟨Nat.lt_of_lt_of_le hi h.N, a, cp, h1, h2, h3, h4.imp id fun ⟨h5, h6, cs, t, fr, h7, h8⟩ => ?_⟩
    obtain ⟨cs', fr', h9, h10⟩ := h.cells _ _ _ _ h7
    exact ⟨(h.vt i hi).trans h5, by rw [h.ρ i hi]; exact h6, cs', t, fr', by rw [h.ρ i hi]; exact h9, by omega⟩
  | .slx i sz lo len cap, c, o, hr => by
    simp only [R] at hr ⊢
    obtain ⟨hi, a, h1, h2, h4⟩ := hr
    refine ⟨Nat.lt_of_lt_of_le hi h.N, a, h1, h2, h4.imp id fun ⟨h5, h6, cs, t, fr, h7, h8⟩ => ?_⟩
    obtain ⟨cs', fr', h9, h10⟩ := h.cells _ _ _ _ h7
    exact ⟨(h.vt i hi).trans h5, by rw [h.ρ i hi]; exact h6, cs', t, fr', by rw [h.ρ i hi]; exact h9, by omega⟩
  | .emp, c, o, hr => by simpa only [R] using hr
  | .imm lent sz n f, c, o, hr => by
    simp only [R] at hr ⊢
    obtain ⟨a, cp, h1, h2, h3⟩ := hr
    refine ⟨a, cp, h1, h2, h3.imp id fun ⟨b, off, h4, h5, h6⟩ => ⟨b, off, h4, h.foot h5, fun k hk => ⟨(h6 k hk).1, ?_⟩⟩⟩
    rw [cellsAt_of_block (h.kept b (hw.foot h5))]
    exact R_ext hw.bare h.bare (f k) _ _ (h6 k hk).2
  | .fn f caps, c, o, hr => by
    simp only [R] at hr ⊢
    obtain ⟨xs, h1, h2, h3, h4⟩ := hr
    exact ⟨xs, h1, h2, h3, RL_ext hw h caps _ _ h4⟩
  | .nilf, c, o, hr => by simpa only [R] using hr
  | .iface t v, c, o, hr => by
    simp only [R] at hr ⊢
    obtain ⟨x, h1, h2, h3⟩ := hr
    exact ⟨x, h1, h2, R_ext hw h v _ _ h3⟩
  | .nili, c, o, hr => by simpa only [R] using hr
  | .row sz n f, c, o, hr => by
    simp only [R] at hr ⊢
    exact fun k hk => ⟨(hr k hk).1, R_ext hw h (f k) _ _ (hr k hk).2⟩
  | .st l, c, o, hr => by
    simp only [R] at hr ⊢
    exact RL_ext hw h l c o hr
  | .tup _, c, o, hr => by simp only [R] at hr
  | .any, c, o, hr => by simpa only [R] using hr
theorem RL_ext {E E' : Env} (hw : Wf E) (h : Ext E E') : ∀ (l : Vs) (c : Nat → Option Value) (o : Nat), RL E l c o → RL E' l c o
  | .nil, c, o, _ => by simp only [RL]
  | .cons v l, c, o, hr => by
    simp only [RL] at hr ⊢
    exact ⟨R_ext hw h v c o hr.1, RL_ext hw h l c _ hr.2⟩
end

theorem R_bare {E : Env} (hw : Wf E) {v : V} {c : Nat → Option Value} {o : Nat} (h : R E.bare v c o) : R E v c o := R_ext (E := E.bare) (E' := E) hw.bare (Ext.of_bare E) v c o h
theorem T_ext {E E' : Env} (hw : Wf E) (h : Ext E E') {v : V} {x : Value} (ht : T E v x) : T E' v x := by
  cases v
  case any => trivial
  case tup l =>
    obtain ⟨xs, h1, h2, h3⟩ := ht
    refine ⟨xs, h1, h2, fun k y hk => ?_⟩
    have := h3 k y hk
    generalize l.get k = u at this ⊢
    cases u <;> first | trivial | exact ⟨this.1, this.2.1, R_ext hw h _ _ _ this.2.2⟩
  all_goals exact ⟨ht.1, R_ext hw h _ _ _ ht.2⟩
end Go.DD

/- Paths, cells; a new block, a store. -/
namespace Go.DD
set_option linter.unusedVariables false
set_option linter.unusedSimpArgs false
open Go.RowKit

theorem vsize_scalar {v : V} (h : v.isAgg = false) : vsize v = 1 := by cases v <;> simp_all [V.isAgg, vsize]

/-- Where a struct's field begins. -/
def presz : Vs → Nat → Nat | .nil, _ => 0 | .cons _ _, 0 => 0 | .cons v l, k + 1 => vsize v + presz l k

mutual
theorem R_shift {E : Env} : ∀ (v : V) (c c' : Nat → Option Value) (o o' : Nat), (∀ q, q < vsize v → c' (o' + q) = c (o + q)) → R E v c o → R E v c' o'
  | .row sz n f, c, c', o, o', hc, hr => by
    simp only [R] at hr ⊢
    intro k hk
    refine ⟨(hr k hk).1, R_shift (f k) c c' (o + k * sz) (o' + k * sz) (fun q hq => ?_) (hr k hk).2⟩
    have hq' : q < sz := by rw [(hr k hk).1] at hq; exact hq
    have : k * sz + q < sz * n := by
      have : k * sz + sz ≤ n * sz := by rw [← Nat.succ_mul]; exact Nat.mul_le_mul_right _ hk
      rw [Nat.mul_comm sz n]; omega
    have := hc (k * sz + q) (by simpa only [vsize] using this)
    simpa only [Nat.add_assoc] using this
  | .st l, c, c', o, o', hc, hr => by
    simp only [R] at hr ⊢
    exact RL_shift l c c' o o' (by simpa only [vsize] using hc) hr
  | .tup _, c, c', o, o', hc, hr => by simp only [R] at hr
  | .int .., c, c', o, o', hc, hr => by have h := hc 0 (by simp [vsize]); simp only [R, Nat.add_zero] at *; rw [h]; exact hr
  | .tt, c, c', o, o', hc, hr => by have h := hc 0 (by simp [vsize]); simp only [R, Nat.add_zero] at *; rw [h]; exact hr
  | .ff, c, c', o, o', hc, hr => by have h := hc 0 (by simp [vsize]); simp only [R, Nat.add_zero] at *; rw [h]; exact hr
  | .bool _, c, c', o, o', hc, hr => by have h := hc 0 (by simp [vsize]); simp only [R, Nat.add_zero] at *; rw [h]; exact hr
  | .str _, c, c', o, o', hc, hr => by have h := hc 0 (by simp [vsize]); simp only [R, Nat.add_zero] at *; rw [h]; exact hr
  | .nilp, c, c', o, o', hc, hr => by have h := hc 0 (by simp [vsize]); simp only [R, Nat.add_zero] at *; rw [h]; exact hr
  | .ref .., c, c', o, o', hc, hr => by have h := hc 0 (by simp [vsize]); simp only [R, Nat.add_zero] at *; rw [h]; exact hr
  | .rref .., c, c', o, o', hc, hr => by have h := hc 0 (by simp [vsize]); simp only [R, Nat.add_zero] at *; rw [h]; exact hr
  | .pim .., c, c', o, o', hc, hr => by have h := hc 0 (by simp [vsize]); simp only [R, Nat.add_zero] at *; rw [h]; exact hr
  | .sl .., c, c', o, o', hc, hr => by have h := hc 0 (by simp [vsize]); simp only [R, Nat.add_zero] at *; rw [h]; exact hr
  | .slx .., c, c', o, o', hc, hr => by have h := hc 0 (by simp [vsize]); simp only [R, Nat.add_zero] at *; rw [h]; exact hr
  | .emp, c, c', o, o', hc, hr => by have h := hc 0 (by simp [vsize]); simp only [R, Nat.add_zero] at *; rw [h]; exact hr
  | .imm .., c, c', o, o', hc, hr => by have h := hc 0 (by simp [vsize]); simp only [R, Nat.add_zero] at *; rw [h]; exact hr
  | .fn .., c, c', o, o', hc, hr => by have h := hc 0 (by simp [vsize]); simp only [R, Nat.add_zero] at *; rw [h]; exact hr
  | .nilf, c, c', o, o', hc, hr => by have h := hc 0 (by simp [vsize]); simp only [R, Nat.add_zero] at *; rw [h]; exact hr
  | .iface .., c, c', o, o', hc, hr => by have h := hc 0 (by simp [vsize]); simp only [R, Nat.add_zero] at *; rw [h]; exact hr
  | .nili, c, c', o, o', hc, hr => by have h := hc 0 (by simp [vsize]); simp only [R, Nat.add_zero] at *; rw [h]; exact hr
  | .any, c, c', o, o', hc, hr => by have h := hc 0 (by simp [vsize]); simp only [R, Nat.add_zero] at *; rw [h]; exact hr
theorem RL_shift {E : Env} : ∀ (l : Vs) (c c' : Nat → Option Value) (o o' : Nat), (∀ q, q < vsizes l → c' (o' + q) = c (o + q)) → RL E l c o → RL E l c' o'
  | .nil, c, c', o, o', _, _ => by simp only [RL]
  | .cons v l, c, c', o, o', hc, hr => by
    simp only [RL] at hr ⊢
    simp only [vsizes] at hc
    refine ⟨R_shift v c c' o o' (fun q hq => hc q (by omega)) hr.1, RL_shift l c c' _ _ (fun q hq => ?_) hr.2⟩
    have := hc (vsize v + q) (by omega)
    simpa only [Nat.add_assoc] using this
end

/-- Cells that agree where 'v' stands. -/
theorem R_local {E : Env} {v : V} {c c' : Nat → Option Value} {o : Nat} (hc : ∀ q, o ≤ q → q < o + vsize v → c' q = c q) (hr : R E v c o) : R E v c' o :=
  R_shift v c c' o o (fun q hq => hc (o + q) (by omega) (by omega)) hr

def sub : V → List Step → V
  | v, [] => v
  | .st l, .f k _ :: p => sub (l.get k) p
  | .row _ _ f, .i k _ :: p => sub (f k) p
  | _, _ :: _ => .any
def okp : V → List Step → Prop
  | _, [] => True
  | .st l, .f k off :: p => (k < l.len ∧ presz l k = off) ∧ okp (l.get k) p
  | .row sz n f, .i k sz' :: p => (k < n ∧ sz' = sz) ∧ okp (f k) p
  | _, _ :: _ => False
def upd : V → List Step → V → V
  | _, [], u => u
  | .st l, .f k _ :: p, u => .st (l.set k (upd (l.get k) p u))
  | .row sz n f, .i k _ :: p, u => .row sz n (fun j => if j = k then upd (f k) p u else f j)
  | v, _ :: _, _ => v

theorem RL_get {E : Env} : ∀ (l : Vs) (k : Nat) (c : Nat → Option Value) (o : Nat), k < l.len → RL E l c o → R E (l.get k) c (o + presz l k)
  | .nil, k, c, o, hk, _ => by simp [Vs.len] at hk
  | .cons v l, 0, c, o, _, hr => by simp only [RL] at hr; simpa [Vs.get, presz] using hr.1
  | .cons v l, k + 1, c, o, hk, hr => by
    simp only [RL] at hr
    have := RL_get l k c _ (by simpa [Vs.len] using hk) hr.2
    simpa only [Vs.get, presz, Nat.add_assoc] using this
theorem presz_le : ∀ (l : Vs) (k : Nat), k < l.len → presz l k + vsize (l.get k) ≤ vsizes l
  | .nil, k, hk => by simp [Vs.len] at hk
  | .cons v l, 0, _ => by simp [presz, Vs.get, vsizes]
  | .cons v l, k + 1, hk => by
    have := presz_le l k (by simpa [Vs.len] using hk)
    simp only [presz, Vs.get, vsizes]; omega

theorem row_le {sz n k : Nat} (hk : k < n) : k * sz + sz ≤ sz * n := by
  have : k * sz + sz ≤ n * sz := by rw [← Nat.succ_mul]; exact Nat.mul_le_mul_right _ hk
  rw [Nat.mul_comm sz n]; omega

theorem R_sub {E : Env} : ∀ (p : List Step) (v : V) (c : Nat → Option Value) (o : Nat), okp v p → R E v c o → R E (sub v p) c (o + poff p)
  | [], v, c, o, _, hr => by simpa [sub, poff] using hr
  | .f k off :: p, .st l, c, o, hp, hr => by
    simp only [okp] at hp
    simp only [R] at hr
    have h1 := RL_get l k c o hp.1.1 hr
    rw [hp.1.2] at h1
    have := R_sub p _ c _ hp.2 h1
    simpa only [sub, poff, Step.off, Nat.add_assoc] using this
  | .i k sz' :: p, .row sz n f, c, o, hp, hr => by
    simp only [okp] at hp
    simp only [R] at hr
    obtain ⟨⟨hk, rfl⟩, hp⟩ := hp
    have := R_sub p _ c _ hp (hr k hk).2
    simpa only [sub, poff, Step.off, Nat.add_assoc] using this
  | .f _ _ :: _, .int .., _, _, hp, _ | .f _ _ :: _, .tt, _, _, hp, _ | .f _ _ :: _, .ff, _, _, hp, _ | .f _ _ :: _, .bool _, _, _, hp, _
  | .f _ _ :: _, .str _, _, _, hp, _ | .f _ _ :: _, .nilp, _, _, hp, _ | .f _ _ :: _, .ref .., _, _, hp, _ | .f _ _ :: _, .rref .., _, _, hp, _
  | .f _ _ :: _, .pim .., _, _, hp, _ | .f _ _ :: _, .sl .., _, _, hp, _ | .f _ _ :: _, .slx .., _, _, hp, _ | .f _ _ :: _, .emp, _, _, hp, _ | .f _ _ :: _, .imm .., _, _, hp, _
  | .f _ _ :: _, .fn .., _, _, hp, _ | .f _ _ :: _, .nilf, _, _, hp, _ | .f _ _ :: _, .iface .., _, _, hp, _ | .f _ _ :: _, .nili, _, _, hp, _
  | .f _ _ :: _, .row .., _, _, hp, _ | .f _ _ :: _, .tup _, _, _, hp, _ | .f _ _ :: _, .any, _, _, hp, _
  | .i _ _ :: _, .int .., _, _, hp, _ | .i _ _ :: _, .tt, _, _, hp, _ | .i _ _ :: _, .ff, _, _, hp, _ | .i _ _ :: _, .bool _, _, _, hp, _
  | .i _ _ :: _, .str _, _, _, hp, _ | .i _ _ :: _, .nilp, _, _, hp, _ | .i _ _ :: _, .ref .., _, _, hp, _ | .i _ _ :: _, .rref .., _, _, hp, _
  | .i _ _ :: _, .pim .., _, _, hp, _ | .i _ _ :: _, .sl .., _, _, hp, _ | .i _ _ :: _, .slx .., _, _, hp, _ | .i _ _ :: _, .emp, _, _, hp, _ | .i _ _ :: _, .imm .., _, _, hp, _
  | .i _ _ :: _, .fn .., _, _, hp, _ | .i _ _ :: _, .nilf, _, _, hp, _ | .i _ _ :: _, .iface .., _, _, hp, _ | .i _ _ :: _, .nili, _, _, hp, _
  | .i _ _ :: _, .st _, _, _, hp, _ | .i _ _ :: _, .tup _, _, _, hp, _ | .i _ _ :: _, .any, _, _, hp, _ => by simp [okp] at hp

theorem okp_cases {v : V} {s : Step} {p : List Step} (h : okp v (s :: p)) :
    (∃ l k off, v = .st l ∧ s = .f k off ∧ k < l.len ∧ presz l k = off ∧ okp (l.get k) p) ∨ (∃ sz n f k, v = .row sz n f ∧ s = .i k sz ∧ k < n ∧ okp (f k) p) := by
  cases v <;> cases s <;> simp only [okp] at h
  · exact .inr ⟨_, _, _, _, rfl, by rw [h.1.2], h.1.1, h.2⟩
  · exact .inl ⟨_, _, _, rfl, rfl, h.1.1, h.1.2, h.2⟩

/-- Where a path leads lies inside. -/
theorem sub_fits : ∀ (p : List Step) (v : V), okp v p → (∀ E c o, R E v c o → poff p + vsize (sub v p) ≤ vsize v)
  | [], v, _, _, _, _, _ => by simp [poff, sub]
  | s :: p, v, h, E, c, o, hr => by
    rcases okp_cases h with ⟨l, k, off, rfl, rfl, hk, ho, hp⟩ | ⟨sz, n, f, k, rfl, rfl, hk, hp⟩
    · simp only [R] at hr
      have h1 := sub_fits p _ hp E c _ (RL_get l k c o hk hr)
      have h2 := presz_le l k hk
      simp only [poff, Step.off, sub, vsize]; omega
    · simp only [R] at hr
      have h1 := sub_fits p _ hp E c _ (hr k hk).2
      have h2 := row_le (sz := sz) hk
      rw [(hr k hk).1] at h1
      simp only [poff, Step.off, sub, vsize]; omega

theorem vsizes_set : ∀ (l : Vs) (k : Nat) (u : V), vsize u = vsize (l.get k) → vsizes (l.set k u) = vsizes l
  | .nil, k, u, _ => by simp [Vs.set]
  | .cons v l, 0, u, h => by simp only [Vs.get] at h; simp [Vs.set, vsizes, h]
  | .cons v l, k + 1, u, h => by simp only [Vs.get] at h; simp [Vs.set, vsizes, vsizes_set l k u h]

theorem RL_set {E : Env} : ∀ (l : Vs) (k : Nat) (u : V) (c c' : Nat → Option Value) (o : Nat), k < l.len → vsize u = vsize (l.get k) → RL E l c o →
    (∀ q, o ≤ q → q < o + vsizes l → (q < o + presz l k ∨ o + presz l k + vsize u ≤ q) → c' q = c q) → R E u c' (o + presz l k) → RL E (l.set k u) c' o
  | .nil, k, u, c, c', o, hk, _, _, _, _ => by simp [Vs.len] at hk
  | .cons v l, 0, u, c, c', o, _, hs, hr, hc, hu => by
    simp only [Vs.get] at hs
    simp only [RL, Vs.set] at hr ⊢
    refine ⟨by simpa [presz] using hu, ?_⟩
    rw [hs]
    exact RL_shift l c c' _ _ (fun q hq => hc _ (by omega) (by simp only [vsizes]; omega) (.inr (by simp only [presz]; omega))) hr.2
  | .cons v l, k + 1, u, c, c', o, hk, hs, hr, hc, hu => by
    simp only [Vs.get] at hs
    simp only [RL, Vs.set] at hr ⊢
    simp only [presz, vsizes] at hc hu
    refine ⟨R_local (fun q h1 h2 => hc q h1 (by omega) (.inl (by omega))) hr.1, ?_⟩
    exact RL_set l k u c c' (o + vsize v) (by simpa [Vs.len] using hk) hs hr.2 (fun q h1 h2 h3 => hc q (by omega) (by omega) (by omega)) (by simpa only [Nat.add_assoc] using hu)

theorem upd_ok {E : Env} : ∀ (p : List Step) (v u : V) (c c' : Nat → Option Value) (o : Nat), okp v p → vsize u = vsize (sub v p) → R E v c o →
    (∀ q, o ≤ q → q < o + vsize v → (q < o + poff p ∨ o + poff p + vsize u ≤ q) → c' q = c q) → R E u c' (o + poff p) → R E (upd v p u) c' o ∧ vsize (upd v p u) = vsize v
  | [], v, u, c, c', o, _, hs, _, _, hu => ⟨by simpa [upd, poff] using hu, by simpa [upd, sub] using hs⟩
  | s :: p, v, u, c, c', o, h, hs, hr, hc, hu => by
    rcases okp_cases h with ⟨l, k, off, rfl, rfl, hk, ho, hp⟩ | ⟨sz, n, f, k, rfl, rfl, hk, hp⟩
    · simp only [R] at hr
      simp only [sub] at hs
      simp only [poff, Step.off, vsize] at hc hu
      have hg := RL_get l k c o hk hr
      have hfit := sub_fits p _ hp E c _ hg
      have hle := presz_le l k hk
      have ih := upd_ok p (l.get k) u c c' (o + presz l k) hp hs hg (fun q h1 h2 h3 => hc q (by omega) (by omega) (by omega)) (by rw [ho]; simpa only [Nat.add_assoc] using hu)
      refine ⟨?_, ?_⟩
      · simp only [upd, R]
        exact RL_set l k _ c c' o hk ih.2 hr (fun q h1 h2 h3 => hc q h1 h2 (by rw [ih.2] at h3; omega)) ih.1
      · simp only [upd, vsize]
        exact vsizes_set l k _ ih.2
    · simp only [R] at hr
      simp only [sub] at hs
      simp only [poff, Step.off, vsize] at hc hu
      have hg := (hr k hk).2
      have hfit := sub_fits p _ hp E c _ hg
      have hle := row_le (sz := sz) hk
      have hsz := (hr k hk).1
      have ih := upd_ok p (f k) u c c' (o + k * sz) hp hs hg (fun q h1 h2 h3 => hc q (by omega) (by omega) (by omega)) (by simpa only [Nat.add_assoc] using hu)
      refine ⟨?_, by simp only [upd, vsize]⟩
      simp only [upd, R]
      intro j hj
      by_cases hjk : j = k
      · subst hjk
        simp only [if_true]
        exact ⟨ih.2.trans hsz, ih.1⟩
      · simp only [hjk, if_false]
        refine ⟨(hr j hj).1, R_local (fun q h1 h2 => hc q (by omega) ?_ ?_) (hr j hj).2⟩
        · have := row_le (sz := sz) hj
          rw [(hr j hj).1] at h2; omega
        · rw [(hr j hj).1] at h2
          rcases Nat.lt_or_gt_of_ne hjk with hlt | hgt
          · have : j * sz + sz ≤ k * sz := by rw [← Nat.succ_mul]; exact Nat.mul_le_mul_right _ hlt
            omega
          · have : k * sz + sz ≤ j * sz := by rw [← Nat.succ_mul]; exact Nat.mul_le_mul_right _ hgt
            rw [hsz] at hfit; omega
end Go.DD

/- The heap of a walk: new blocks, stores, draws. -/
namespace Go.DD
set_option linter.unusedVariables false
set_option linter.unusedSimpArgs false
open Go.RowKit

mutual
/-- Whatever stands in cells is of one cell each. -/
theorem R_one {E : Env} : ∀ (v : V) (c : Nat → Option Value) (o q : Nat), R E v c o → q < vsize v → ∃ x, c (o + q) = some x ∧ x.oneCell' = true
  | .row sz n f, c, o, q, hr, hq => by
    simp only [R] at hr
    simp only [vsize] at hq
    have hsz : 0 < sz := by rcases Nat.eq_zero_or_pos sz with h | h; (subst h; simp at hq); exact h
    have hk : q / sz < n := by rw [Nat.div_lt_iff_lt_mul hsz, Nat.mul_comm]; exact hq
    have hm : q % sz < sz := Nat.mod_lt _ hsz
    obtain ⟨x, h1, h2⟩ := R_one (f (q / sz)) c (o + q / sz * sz) (q % sz) (hr _ hk).2 (by rw [(hr _ hk).1]; exact hm)
    refine ⟨x, ?_, h2⟩
    rw [← h1]; congr 1
    have := Nat.div_add_mod q sz
    rw [Nat.mul_comm] at this
    omega
  | .st l, c, o, q, hr, hq => by
    simp only [R] at hr
    exact RL_one l c o q hr (by simpa only [vsize] using hq)
  | .tup _, c, o, q, hr, _ => by simp only [R] at hr
  | .int .., c, o, q, hr, hq => by simp only [R, vsize] at hr hq; obtain rfl : q = 0 := by omega
                                   exact ⟨_, hr, rfl⟩
  | .tt, c, o, q, hr, hq => by simp only [R, vsize] at hr hq; obtain rfl : q = 0 := by omega
                               exact ⟨_, hr, rfl⟩
  | .ff, c, o, q, hr, hq => by simp only [R, vsize] at hr hq; obtain rfl : q = 0 := by omega
                               exact ⟨_, hr, rfl⟩
  | .bool _, c, o, q, hr, hq => by simp only [R, vsize] at hr hq; obtain rfl : q = 0 := by omega
                                   exact ⟨_, hr, rfl⟩
  | .str _, c, o, q, hr, hq => by simp only [R, vsize] at hr hq; obtain rfl : q = 0 := by omega
                                  exact ⟨_, hr, rfl⟩
  | .nilp, c, o, q, hr, hq => by simp only [R, vsize] at hr hq; obtain rfl : q = 0 := by omega
                                 exact ⟨_, hr, rfl⟩
  | .ref .., c, o, q, hr, hq => by simp only [R, vsize] at hr hq; obtain rfl : q = 0 := by omega
                                   exact ⟨_, hr.2, rfl⟩
  | .rref .., c, o, q, hr, hq => by simp only [R, vsize] at hr hq; obtain rfl : q = 0 := by omega
                                    exact ⟨_, hr.2, rfl⟩
  | .pim .., c, o, q, hr, hq => by simp only [R, vsize] at hr hq; obtain rfl : q = 0 := by omega
                                   obtain ⟨b, off, h, _⟩ := hr; exact ⟨_, h, rfl⟩
  | .sl .., c, o, q, hr, hq => by simp only [R, vsize] at hr hq; obtain rfl : q = 0 := by omega
                                  obtain ⟨_, b, off, h, _⟩ := hr; exact ⟨_, h, rfl⟩
  | .slx .., c, o, q, hr, hq => by simp only [R, vsize] at hr hq; obtain rfl : q = 0 := by omega
                                   obtain ⟨_, b, h, _⟩ := hr; exact ⟨_, h, rfl⟩
  | .emp, c, o, q, hr, hq => by simp only [R, vsize] at hr hq; obtain rfl : q = 0 := by omega
                                obtain ⟨b, h⟩ := hr; exact ⟨_, h, rfl⟩
  | .imm .., c, o, q, hr, hq => by simp only [R, vsize] at hr hq; obtain rfl : q = 0 := by omega
                                   obtain ⟨b, off, h, _⟩ := hr; exact ⟨_, h, rfl⟩
  | .fn .., c, o, q, hr, hq => by simp only [R, vsize] at hr hq; obtain rfl : q = 0 := by omega
                                  obtain ⟨b, h, _⟩ := hr; exact ⟨_, h, rfl⟩
  | .nilf, c, o, q, hr, hq => by simp only [R, vsize] at hr hq; obtain rfl : q = 0 := by omega
                                 exact ⟨_, hr, rfl⟩
  | .iface .., c, o, q, hr, hq => by simp only [R, vsize] at hr hq; obtain rfl : q = 0 := by omega
                                     obtain ⟨b, h, _⟩ := hr; exact ⟨_, h, rfl⟩
  | .nili, c, o, q, hr, hq => by simp only [R, vsize] at hr hq; obtain rfl : q = 0 := by omega
                                 exact ⟨_, hr, rfl⟩
  | .any, c, o, q, hr, hq => by simp only [R, vsize] at hr hq; obtain rfl : q = 0 := by omega
                                obtain ⟨x, h, h2⟩ := hr; exact ⟨x, h, h2⟩
theorem RL_one {E : Env} : ∀ (l : Vs) (c : Nat → Option Value) (o q : Nat), RL E l c o → q < vsizes l → ∃ x, c (o + q) = some x ∧ x.oneCell' = true
  | .nil, c, o, q, _, hq => by simp [vsizes] at hq
  | .cons v l, c, o, q, hr, hq => by
    simp only [RL] at hr
    simp only [vsizes] at hq
    by_cases h : q < vsize v
    · exact R_one v c o q hr.1 h
    · obtain ⟨x, h1, h2⟩ := RL_one l c (o + vsize v) (q - vsize v) hr.2 (by omega)
      exact ⟨x, by rw [← h1]; congr 1; omega, h2⟩
end

def Live (E : Env) (v : V) (i : Nat) : Prop :=
  (E.vt i = true ∧ ∃ sz f, v = .row sz 0 f) ∨
  (E.vt i = false ∧ ¬ E.K (E.ρ i) ∧ ∃ (cs : Array Value) (t : TypeId), E.w.heap[E.ρ i]? = some (.cells cs t (0, 0)) ∧ vsize v ≤ cs.size ∧ R E v (fun q => cs[q]?) 0)
structure SimH (E : Env) (h : List (Option V)) : Prop where
  len : h.length = E.N
  live : ∀ (i : Nat) v, h[i]? = some (some v) → Live E v i
  inj : ∀ (i j : Nat) v v', h[i]? = some (some v) → h[j]? = some (some v') → i ≠ j → E.vt i = false → E.vt j = false → E.ρ i ≠ E.ρ j

theorem SimH.lt {E : Env} {h : List (Option V)} (hs : SimH E h) {i : Nat} {x : Option V} (hi : h[i]? = some x) : i < E.N := by
  rw [← hs.len]; exact (List.getElem?_eq_some_iff.1 hi).1

/-- Forgetting a block. -/
theorem SimH.forget {E : Env} {h : List (Option V)} (hs : SimH E h) (i : Nat) : SimH E (h.set i none) where
  len := by simpa using hs.len
  live := fun j v hj => by
    rw [List.getElem?_set] at hj
    split at hj
    · split at hj <;> simp at hj
    · exact hs.live j v hj
  inj := fun j k v v' hj hk => by
    rw [List.getElem?_set] at hj hk
    split at hj
    · split at hj <;> simp at hj
    · split at hk
      · split at hk <;> simp at hk
      · exact hs.inj j k v v' hj hk

/-! ### A new block -/
theorem World.heap_size_alloc (w : World) (o : Obj) : (w.alloc o).heap.size = w.heap.size + 1 := by simp
theorem World.heap_alloc_new (w : World) (o : Obj) : (w.alloc o).heap[w.heap.size]? = some o := by
  show (w.heap.push o)[w.heap.size]? = some o
  rw [Array.getElem?_push, if_pos rfl]
def Env.alloc (E : Env) (o : Obj) : Env :=
  { E with w := E.w.alloc o, ρ := fun i => if i = E.N then E.w.heap.size else E.ρ i, vt := fun i => if i = E.N then false else E.vt i, N := E.N + 1 }
/-- A row of nothing, nowhere. -/
def Env.valloc (E : Env) : Env := { E with vt := fun i => if i = E.N then true else E.vt i, N := E.N + 1 }

theorem Env.ext_alloc {E : Env} (hw : Wf E) (o : Obj) : Ext E (E.alloc o) where
  os := rfl
  tape := rfl
  output := rfl
  size := by simp [Env.alloc]
  N := Nat.le_succ _
  ρ := fun i hi => by simp only [Env.alloc]; rw [if_neg (by omega)]
  vt := fun i hi => by simp only [Env.alloc]; rw [if_neg (by omega)]
  S := fun _ h => h
  S' := fun _ h => .inl h
  L := fun _ => Iff.rfl
  K := fun _ h => h
  kept := fun b hb => Below.heap_alloc _ _ _ (hw.K b hb)
  cells := fun b cs t fr hb => ⟨cs, fr, by
    have hlt : b < E.w.heap.size := (Array.getElem?_eq_some_iff.1 hb).1
    exact (Below.heap_alloc E.w o b hlt).trans hb, rfl⟩
theorem Env.wf_alloc {E : Env} (hw : Wf E) (o : Obj) : Wf (E.alloc o) := ⟨hw.S, hw.L, fun b hb => by have := hw.K b hb; simp only [Env.alloc, World.heap_size_alloc]; omega⟩
theorem Env.ext_valloc {E : Env} : Ext E E.valloc where
  os := rfl
  tape := rfl
  output := rfl
  size := Nat.le_refl _
  N := Nat.le_succ _
  ρ := fun i hi => rfl
  vt := fun i hi => by simp only [Env.valloc]; rw [if_neg (by omega)]
  S := fun _ h => h
  S' := fun _ h => .inl h
  L := fun _ => Iff.rfl
  K := fun _ h => h
  kept := fun b hb => rfl
  cells := fun b cs t fr hb => ⟨cs, fr, hb, rfl⟩
theorem Env.wf_valloc {E : Env} (hw : Wf E) : Wf E.valloc := ⟨hw.S, hw.L, hw.K⟩

/-- What a block holds, in a greater environment that left its block alone. -/
theorem Live.ext {E E' : Env} (hw : Wf E) (h : Ext E E') {v : V} {i : Nat} (hi : i < E.N) (hl : Live E v i) (hk : ¬ E.K (E.ρ i) → E.vt i = false → ¬ E'.K (E.ρ i)) (hb : E.vt i = false → E'.w.heap[E.ρ i]? = E.w.heap[E.ρ i]?) : Live E' v i := by
  rcases hl with ⟨h1, h2⟩ | ⟨h1, h2, cs, t, h3, h4, h5⟩
  · exact .inl ⟨(h.vt i hi).trans h1, h2⟩
  · refine .inr ⟨(h.vt i hi).trans h1, by rw [h.ρ i hi]; exact hk h2 h1, cs, t, by rw [h.ρ i hi, hb h1]; exact h3, h4, R_ext hw h _ _ _ h5⟩

theorem alloc_ok {E : Env} {h : List (Option V)} (hw : Wf E) (hs : SimH E h) {cs : Array Value} {t : TypeId} {v : V} (hv : R E v (fun q => cs[q]?) 0) (hz : vsize v ≤ cs.size) :
    SimH (E.alloc (.cells cs t)) (h ++ [some v]) := by
  have hx := Env.ext_alloc hw (.cells cs t)
  refine ⟨by simp [Env.alloc, hs.len], fun i u hi => ?_, fun i j u u' hi hj hne h1 h2 => ?_⟩
  · rw [List.getElem?_append] at hi
    split at hi
    · rename_i hlt
      have hiN : i < E.N := by rw [← hs.len]; exact hlt
      refine (hs.live i u hi).ext hw hx hiN (fun h _ => h) (fun hv => ?_)
      rcases hs.live i u hi with ⟨h1, _⟩ | ⟨_, _, cs', t', h3, _⟩
      · rw [h1] at hv; cases hv
      · exact Below.heap_alloc _ _ _ (Array.getElem?_eq_some_iff.1 h3).1
    · rename_i hlt
      rw [hs.len] at hi hlt
      have : i = E.N := by
        have := (List.getElem?_eq_some_iff.1 hi).1
        simp at this; omega
      subst this
      simp at hi
      subst hi
      refine .inr ⟨by simp [Env.alloc], ?_, cs, t, ?_, hz, R_ext hw hx _ _ _ hv⟩
      · simp only [Env.alloc, if_true]
        intro hk
        exact Nat.lt_irrefl _ (hw.K _ hk)
      · simp only [Env.alloc, if_true]; exact World.heap_alloc_new _ _
  · have hphys : ∀ k x, h[k]? = some (some x) → E.vt k = false → E.ρ k < E.w.heap.size := fun k x hk hv => by
      rcases hs.live k x hk with ⟨h1, _⟩ | ⟨_, _, cs', t', h3, _⟩
      · rw [h1] at hv; cases hv
      · exact (Array.getElem?_eq_some_iff.1 h3).1
    rw [List.getElem?_append] at hi hj
    have hnew : ∀ k x, ¬ k < h.length → [some v][k - h.length]? = some (some x) → k = E.N := fun k x hk hx => by
      have := (List.getElem?_eq_some_iff.1 hx).1
      simp at this; rw [hs.len] at this hk; omega
    split at hi <;> split at hj
    · rename_i ha hb
      rw [hs.len] at ha hb
      simp only [Env.alloc] at h1 h2 ⊢
      rw [if_neg (by omega)] at h1 h2 ⊢
      rw [if_neg (by omega)]
      exact hs.inj i j u u' hi hj hne h1 h2
    · rename_i ha hb
      have := hnew j u' hb hj
      subst this
      rw [hs.len] at ha
      simp only [Env.alloc, if_true] at h1 ⊢
      rw [if_neg (by omega)] at h1 ⊢
      exact Nat.ne_of_lt (hphys i u hi h1)
    · rename_i ha hb
      have := hnew i u ha hi
      subst this
      rw [hs.len] at hb
      simp only [Env.alloc, if_true] at h2 ⊢
      rw [if_neg (by omega)] at h2 ⊢
      exact Nat.ne_of_gt (hphys j u' hj h2)
    · rename_i ha hb
      exact absurd ((hnew i u ha hi).trans (hnew j u' hb hj).symm) hne

theorem valloc_ok {E : Env} {h : List (Option V)} (hw : Wf E) (hs : SimH E h) (sz : Nat) (f : Nat → V) : SimH E.valloc (h ++ [some (.row sz 0 f)]) := by
  have hx := Env.ext_valloc (E := E)
  refine ⟨by simp [Env.valloc, hs.len], fun i u hi => ?_, fun i j u u' hi hj hne h1 h2 => ?_⟩
  · rw [List.getElem?_append] at hi
    split at hi
    · rename_i hlt
      have hiN : i < E.N := by rw [← hs.len]; exact hlt
      exact (hs.live i u hi).ext hw hx hiN (fun h _ => h) (fun _ => rfl)
    · rename_i hlt
      rw [hs.len] at hi hlt
      have : i = E.N := by
        have := (List.getElem?_eq_some_iff.1 hi).1
        simp at this; omega
      subst this
      simp at hi
      subst hi
      exact .inl ⟨by simp [Env.valloc], sz, f, rfl⟩
  · rw [List.getElem?_append] at hi hj
    have hnew : ∀ k x, ¬ k < h.length → [some (V.row sz 0 f)][k - h.length]? = some (some x) → k = E.N := fun k x hk hx => by
      have := (List.getElem?_eq_some_iff.1 hx).1
      simp at this; rw [hs.len] at this hk; omega
    split at hi <;> split at hj
    · rename_i ha hb
      rw [hs.len] at ha hb
      simp only [Env.valloc] at h1 h2 ⊢
      rw [if_neg (by omega)] at h1 h2
      exact hs.inj i j u u' hi hj hne h1 h2
    · rename_i ha hb
      have := hnew j u' hb hj
      subst this
      simp [Env.valloc] at h2
    · rename_i ha hb
      have := hnew i u ha hi
      subst this
      simp [Env.valloc] at h1
    · rename_i ha hb
      exact absurd ((hnew i u ha hi).trans (hnew j u' hb hj).symm) hne

/-! ### A block written -/
structure Wrote (w w' : World) (b : Nat) (cs' : Array Value) (t : TypeId) : Prop where
  os : w'.os = w.os
  tape : w'.tape = w.tape
  output : w'.output = w.output
  size : w'.heap.size = w.heap.size
  here : w'.heap[b]? = some (.cells cs' t (0, 0))
  other : ∀ k, k ≠ b → w'.heap[k]? = w.heap[k]?

theorem Wrote.setRow {w : World} {b : Nat} {cs cs' : Array Value} {t : TypeId} (h : w.heap[b]? = some (.cells cs t (0, 0))) : Wrote w (w.setRow b cs') b cs' t :=
  ⟨rfl, rfl, rfl, by simp, setRow_heap w b cs cs' t _ h, fun k hk => setRow_other w b k cs' hk⟩

theorem Wrote.ext {E : Env} {w' : World} {b : Nat} {cs cs' : Array Value} {t : TypeId} (hb : E.w.heap[b]? = some (.cells cs t (0, 0))) (hk : ¬ E.K b) (hsz : cs'.size = cs.size) (h : Wrote E.w w' b cs' t) : Ext E { E with w := w' } where
  os := h.os
  tape := h.tape
  output := h.output
  size := by simp [h.size]
  N := Nat.le_refl _
  ρ := fun _ _ => rfl
  vt := fun _ _ => rfl
  S := fun _ h => h
  S' := fun _ h => .inl h
  L := fun _ => Iff.rfl
  K := fun _ h => h
  kept := fun c hc => h.other c (fun e => hk (e ▸ hc))
  cells := fun c cs₀ t₀ fr hc => by
    by_cases e : c = b
    · subst e
      rw [hb] at hc
      cases hc
      exact ⟨cs', _, h.here, hsz⟩
    · exact ⟨cs₀, fr, (h.other c e).trans hc, rfl⟩
theorem Wrote.wf {E : Env} {w' : World} {b : Nat} {cs' : Array Value} {t : TypeId} (hw : Wf E) (h : Wrote E.w w' b cs' t) : Wf { E with w := w' } :=
  ⟨hw.S, hw.L, fun c hc => by have := hw.K c hc; simp only [h.size]; exact this⟩

theorem wrote_ok {E : Env} {h : List (Option V)} {w' : World} {i : Nat} {v v' : V} {cs cs' : Array Value} {t : TypeId} (hw : Wf E) (hs : SimH E h) (hi : h[i]? = some (some v)) (hvt : E.vt i = false)
    (hb : E.w.heap[E.ρ i]? = some (.cells cs t (0, 0))) (hk : ¬ E.K (E.ρ i)) (hsz : cs'.size = cs.size) (hwr : Wrote E.w w' (E.ρ i) cs' t) (hv : R E v' (fun q => cs'[q]?) 0) (hz : vsize v' ≤ cs'.size) :
    SimH { E with w := w' } (h.set i (some v')) := by
  have hx := Wrote.ext hb hk hsz hwr
  have old : ∀ j u, (h.set i (some v'))[j]? = some (some u) → (j = i ∧ u = v') ∨ (j ≠ i ∧ h[j]? = some (some u)) := fun j u hj => by
    rw [List.getElem?_set] at hj
    split at hj
    · rename_i e
      split at hj
      · simp at hj; exact .inl ⟨e.symm, hj.symm⟩
      · cases hj
    · rename_i e
      exact .inr ⟨fun e' => e e'.symm, hj⟩
  have keep : ∀ j u, (h.set i (some v'))[j]? = some (some u) → ∃ u', h[j]? = some (some u') := fun j u hj => by
    rcases old j u hj with ⟨rfl, _⟩ | ⟨_, h2⟩
    · exact ⟨v, hi⟩
    · exact ⟨u, h2⟩
  refine ⟨by simpa using hs.len, fun j u hj => ?_, fun j k u u' hj hk' => ?_⟩
  · rcases old j u hj with ⟨rfl, rfl⟩ | ⟨hne, hj'⟩
    · exact .inr ⟨hvt, hk, cs', t, hwr.here, hz, R_ext hw hx _ _ _ hv⟩
    · refine (hs.live j u hj').ext hw hx (hs.lt hj') (fun h _ => h) (fun hvj => hwr.other _ (hs.inj j i u v hj' hi hne hvj hvt))
  · obtain ⟨a, ha⟩ := keep j u hj
    obtain ⟨b, hb⟩ := keep k u' hk'
    exact hs.inj j k a b ha hb

/-! ### A draw -/
def Env.drew (E : Env) : Env := { E with w := E.w.drew }
theorem Env.ext_drew (E : Env) : Ext E E.drew := ⟨rfl, rfl, rfl, Nat.le_refl _, Nat.le_refl _, fun _ _ => rfl, fun _ _ => rfl, fun _ h => h, fun _ h => .inl h, fun _ => Iff.rfl, fun _ h => h, fun _ _ => rfl, fun _ cs _ fr h => ⟨cs, fr, h, rfl⟩⟩
theorem Env.wf_drew {E : Env} (hw : Wf E) : Wf E.drew := ⟨hw.S, hw.L, hw.K⟩
theorem drew_ok {E : Env} {h : List (Option V)} (hw : Wf E) (hs : SimH E h) : SimH E.drew h :=
  ⟨hs.len, fun i v hi => (hs.live i v hi).ext hw E.ext_drew (hs.lt hi) (fun h _ => h) (fun _ => rfl), hs.inj⟩
end Go.DD

/- Types, and the operations that touch no memory. -/
namespace Go.DD
set_option linter.unusedVariables false
set_option linter.unusedSimpArgs false
open Go.RowKit

/-! ### What a slot holds, scalar by scalar -/
def V.one : V → Bool | .row .. | .st .. | .tup .. | .any => false | _ => true
theorem cells_one {x : Value} (h : x.oneCell' = true) : x.cells = #[x] := by cases x <;> simp_all [Value.cells, Value.oneCell']
theorem T_one {E : Env} {v : V} {x : Value} (h : v.one = true) (ht : T E v x) : x.oneCell' = true ∧ R E v (fun _ => some x) 0 := by
  have hz : vsize v = 1 := by cases v <;> simp_all [V.one, vsize]
  have ha : v.isAgg = false := by cases v <;> simp_all [V.one, V.isAgg]
  have h' : aggOk v x ∧ R E v (fun q => x.cells[q]?) 0 := by cases v <;> first | exact ht | simp [V.one] at h
  have h1 : x.oneCell' = true := by
    rcases h'.1 with h2 | h2
    · rw [ha] at h2; cases h2.1
    · exact h2.2
  refine ⟨h1, R_shift v _ _ 0 0 (fun q hq => ?_) h'.2⟩
  rw [hz] at hq
  obtain rfl : q = 0 := by omega
  simp [cells_one h1]
theorem T_mk {E : Env} {v : V} {x : Value} (h : v.one = true) (h1 : x.oneCell' = true) (hr : R E v (fun _ => some x) 0) : T E v x := by
  have hz : vsize v = 1 := by cases v <;> simp_all [V.one, vsize]
  have ha : v.isAgg = false := by cases v <;> simp_all [V.one, V.isAgg]
  have h' : aggOk v x ∧ R E v (fun q => x.cells[q]?) 0 := ⟨.inr ⟨ha, h1⟩, R_shift v _ _ 0 0 (fun q hq => by
    rw [hz] at hq
    obtain rfl : q = 0 := by omega
    simp [cells_one h1]) hr⟩
  cases v <;> first | exact h' | simp [V.one] at h
theorem T_agg {E : Env} {v : V} {x : Value} (h : v.isAgg = true) (ht : T E v x) : ∃ cs, x = .agg cs ∧ cs.size = vsize v ∧ R E v (fun q => cs[q]?) 0 := by
  have h' : aggOk v x ∧ R E v (fun q => x.cells[q]?) 0 := by cases v <;> first | exact ht | simp [V.isAgg] at h
  rcases h'.1 with ⟨_, ⟨cs, rfl⟩, h3⟩ | ⟨h2, _⟩
  · exact ⟨cs, rfl, h3, h'.2⟩
  · rw [h] at h2; cases h2
theorem T_mkAgg {E : Env} {v : V} {cs : Array Value} (h : v.isAgg = true) (hz : cs.size = vsize v) (hr : R E v (fun q => cs[q]?) 0) : T E v (.agg cs) := by
  have h' : aggOk v (.agg cs) ∧ R E v (fun q => (Value.agg cs).cells[q]?) 0 := ⟨.inl ⟨h, ⟨cs, rfl⟩, hz⟩, hr⟩
  cases v <;> first | exact h' | simp [V.isAgg] at h

section
variable {E : Env} {x : Value}
theorem T_int {k : IntKind} {n : Int} : T E (.int k n) x ↔ x = .int k n :=
  ⟨fun h => by have := (T_one rfl h).2; simpa [R] using this, fun h => by subst h; exact T_mk rfl rfl (by simp [R])⟩
theorem T_tt : T E .tt x ↔ x = .bool true := ⟨fun h => by have := (T_one rfl h).2; simpa [R] using this, fun h => by subst h; exact T_mk rfl rfl (by simp [R])⟩
theorem T_ff : T E .ff x ↔ x = .bool false := ⟨fun h => by have := (T_one rfl h).2; simpa [R] using this, fun h => by subst h; exact T_mk rfl rfl (by simp [R])⟩
theorem T_bool {b : Bool} : T E (.bool b) x ↔ x = .bool b := ⟨fun h => by have := (T_one rfl h).2; simpa [R] using this, fun h => by subst h; exact T_mk rfl rfl (by simp [R])⟩
theorem T_str {s : List UInt8} : T E (.str s) x ↔ x = .string ⟨s.toArray⟩ := ⟨fun h => by have := (T_one rfl h).2; simpa [R] using this, fun h => by subst h; exact T_mk rfl rfl (by simp [R])⟩
theorem T_nilp : T E .nilp x ↔ x = .pointer none := ⟨fun h => by have := (T_one rfl h).2; simpa [R] using this, fun h => by subst h; exact T_mk rfl rfl (by simp [R])⟩
theorem T_nilf : T E .nilf x ↔ x = .nilFunc := ⟨fun h => by have := (T_one rfl h).2; simpa [R] using this, fun h => by subst h; exact T_mk rfl rfl (by simp [R])⟩
theorem T_nili : T E .nili x ↔ x = .nilIface := ⟨fun h => by have := (T_one rfl h).2; simpa [R] using this, fun h => by subst h; exact T_mk rfl rfl (by simp [R])⟩
theorem T_ref {i : Nat} {p : List Step} : T E (.ref i p) x ↔ i < E.N ∧ x = .pointer (some ⟨E.ρ i, poff p, none⟩) :=
  ⟨fun h => by have := (T_one rfl h).2; simpa [R] using this, fun ⟨h, h2⟩ => by subst h2; exact T_mk rfl rfl (by simpa [R] using h)⟩
theorem T_rref {i : Nat} {p : List Step} {sz lo n : Nat} : T E (.rref i p sz lo n) x ↔ i < E.N ∧ x = .pointer (some ⟨E.ρ i, poff p + lo * sz, none⟩) :=
  ⟨fun h => by have := (T_one rfl h).2; simpa [R] using this, fun ⟨h, h2⟩ => by subst h2; exact T_mk rfl rfl (by simpa [R] using h)⟩
theorem T_pim {l : Bool} {v : V} : T E (.pim l v) x ↔ ∃ b off, x = .pointer (some ⟨b, off, none⟩) ∧ E.foot l b ∧ R E.bare v (cellsAt E.w b) off :=
  ⟨fun h => by have := (T_one rfl h).2; simpa only [R, Option.some.injEq] using this, fun ⟨b, off, h, h2⟩ => by subst h; exact T_mk rfl rfl (by simp only [R, Option.some.injEq]; exact ⟨b, off, rfl, h2⟩)⟩
theorem T_emp : T E .emp x ↔ ∃ a, x = .slice a 0 0 :=
  ⟨fun h => by have := (T_one rfl h).2; simpa only [R, Option.some.injEq] using this, fun ⟨a, h⟩ => by subst h; exact T_mk rfl rfl (by simp only [R]; exact ⟨a, rfl⟩)⟩
theorem T_sl {i : Nat} {p : List Step} {sz lo len cap : Nat} : T E (.sl i p sz lo len cap) x ↔ i < E.N ∧ ∃ a cp, x = .slice a len cp ∧ len ≤ cap ∧ cap ≤ cp ∧
      (cp = 0 ∨ (E.vt i = false ∧ a = some ⟨E.ρ i, poff p + lo * sz, none⟩ ∧ ∃ cs t fr, E.w.heap[E.ρ i]? = some (.cells cs t fr) ∧ poff p + (lo + cp) * sz ≤ cs.size)) :=
  ⟨fun h => by have := (T_one rfl h).2; simpa only [R, Option.some.injEq] using this, fun ⟨h0, a, cp, h, h2⟩ => by subst h; exact T_mk rfl rfl (by simp only [R, Option.some.injEq]; exact ⟨h0, a, cp, rfl, h2⟩)⟩
theorem T_slx {i : Nat} {sz lo len cap : Nat} : T E (.slx i sz lo len cap) x ↔ i < E.N ∧ ∃ a, x = .slice a len cap ∧ len ≤ cap ∧
      (cap = 0 ∨ (E.vt i = false ∧ a = some ⟨E.ρ i, lo * sz, none⟩ ∧ ∃ cs t fr, E.w.heap[E.ρ i]? = some (.cells cs t fr) ∧ (lo + cap) * sz ≤ cs.size)) :=
  ⟨fun h => by have := (T_one rfl h).2; simpa only [R, Option.some.injEq] using this, fun ⟨h0, a, h, h2⟩ => by subst h; exact T_mk rfl rfl (by simp only [R, Option.some.injEq]; exact ⟨h0, a, rfl, h2⟩)⟩
/-- A slice whose room is known, seen as one of which that is not. -/
def unx : V → V
  | .slx i sz lo len cap => .sl i [] sz lo len cap
  | v => v
theorem T_unx {v : V} (h : T E v x) : T E (unx v) x := by
  unfold unx
  split
  · obtain ⟨h0, a, h1, h2, h3⟩ := T_slx.1 h
    exact T_sl.2 ⟨h0, a, _, h1, h2, Nat.le_refl _, h3.imp id fun ⟨h4, h5, cs, t, fr, h6, h7⟩ => ⟨h4, by simpa [poff] using h5, cs, t, fr, h6, by simpa [poff] using h7⟩⟩
  · exact h
theorem T_imm {l : Bool} {sz n : Nat} {f : Nat → V} : T E (.imm l sz n f) x ↔ ∃ a cp, x = .slice a n cp ∧ n ≤ cp ∧
      (n = 0 ∨ ∃ b off, a = some ⟨b, off, none⟩ ∧ E.foot l b ∧ ∀ k, k < n → vsize (f k) = sz ∧ R E.bare (f k) (cellsAt E.w b) (off + k * sz)) :=
  ⟨fun h => by have := (T_one rfl h).2; simpa only [R, Option.some.injEq] using this, fun ⟨a, cp, h, h2⟩ => by subst h; exact T_mk rfl rfl (by simp only [R, Option.some.injEq]; exact ⟨a, cp, rfl, h2⟩)⟩
theorem T_fn {f : FuncId} {caps : Vs} : T E (.fn f caps) x ↔ ∃ xs, x = .func (.func f) #[] xs ∧ xs.size = vsizes caps ∧ caps.flat = true ∧ RL E caps (fun k => xs[k]?) 0 :=
  ⟨fun h => by have := (T_one rfl h).2; simpa only [R, Option.some.injEq] using this, fun ⟨xs, h, h2⟩ => by subst h; exact T_mk rfl rfl (by simp only [R, Option.some.injEq]; exact ⟨xs, rfl, h2⟩)⟩
theorem T_iface {t : TypeId} {v : V} : T E (.iface t v) x ↔ ∃ y, x = .iface t y ∧ aggOk v y ∧ R E v (fun k => y.cells[k]?) 0 :=
  ⟨fun h => by have := (T_one rfl h).2; simpa only [R, Option.some.injEq] using this, fun ⟨xs, h, h2⟩ => by subst h; exact T_mk rfl rfl (by simp only [R, Option.some.injEq]; exact ⟨xs, rfl, h2⟩)⟩
end

/-! ### Types -/
inductive TD where
  | int (k : IntKind) | bool | str | ptr (e : Nat) | slice (e : Nat) | arr (n e : Nat) | st (fs : List (Nat × Nat)) | fn | iface | other
  deriving DecidableEq
structure TI where
  d : TD
  sz : Nat
  by_ : Nat
  z : V

def TD.isAgg : TD → Bool | .arr .. | .st _ => true | _ => false
def getT : List (Option TI) → Nat → Option TI | [], _ => none | x :: _, 0 => x | _ :: l, k + 1 => getT l k

mutual
def zchk : V → (Nat → Option Value) → Nat → Bool
  | .int k n, c, o => match c o with | some (.int k' n') => k == k' && n == n' | _ => false
  | .ff, c, o => match c o with | some (.bool b) => !b | _ => false
  | .str s, c, o => match c o with | some (.string t) => t.data.toList == s | _ => false
  | .nilp, c, o => match c o with | some (.pointer none) => true | _ => false
  | .emp, c, o => match c o with | some (.slice _ 0 0) => true | _ => false
  | .nilf, c, o => match c o with | some .nilFunc => true | _ => false
  | .nili, c, o => match c o with | some .nilIface => true | _ => false
  | .row sz n f, c, o => (List.range n).all fun k => vsize (f k) == sz && zchk (f k) c (o + k * sz)
  | .st l, c, o => zchkL l c o
  | _, _, _ => false
def zchkL : Vs → (Nat → Option Value) → Nat → Bool
  | .nil, _, _ => true
  | .cons v l, c, o => zchk v c o && zchkL l c (o + vsize v)
end
mutual
theorem zchk_ok {E : Env} : ∀ (v : V) (c : Nat → Option Value) (o : Nat), zchk v c o = true → R E v c o
  | .int k n, c, o, h => by
    simp only [zchk] at h; split at h
    · rename_i k' n' hc; simp at h; simp only [R]; rw [hc, h.1, h.2]
    · cases h
  | .ff, c, o, h => by
    simp only [zchk] at h; split at h
    · rename_i b hc; simp at h; simp only [R]; rw [hc, h]
    · cases h
  | .str s, c, o, h => by
    simp only [zchk] at h; split at h
    · rename_i t hc
      simp only [beq_iff_eq] at h
      simp only [R]; rw [hc, ← h]
    · cases h
  | .nilp, c, o, h => by
    simp only [zchk] at h; split at h
    · rename_i hc; simp only [R]; rw [hc]
    · cases h
  | .emp, c, o, h => by
    simp only [zchk] at h; split at h
    · rename_i a hc; simp only [R]; exact ⟨_, hc⟩
    · cases h
  | .nilf, c, o, h => by
    simp only [zchk] at h; split at h
    · rename_i hc; simp only [R]; rw [hc]
    · cases h
  | .nili, c, o, h => by
    simp only [zchk] at h; split at h
    · rename_i hc; simp only [R]; rw [hc]
    · cases h
  | .row sz n f, c, o, h => by
    simp only [zchk, List.all_eq_true, List.mem_range, Bool.and_eq_true, beq_iff_eq] at h
    simp only [R]
    exact fun k hk => ⟨(h k hk).1, zchk_ok (f k) c _ (h k hk).2⟩
  | .st l, c, o, h => by
    simp only [zchk] at h
    simp only [R]
    exact zchkL_ok l c o h
  | .tt, _, _, h | .bool _, _, _, h | .ref .., _, _, h | .rref .., _, _, h | .pim .., _, _, h | .sl .., _, _, h | .slx .., _, _, h | .imm .., _, _, h | .fn .., _, _, h | .iface .., _, _, h | .tup _, _, _, h | .any, _, _, h => by simp [zchk] at h
theorem zchkL_ok {E : Env} : ∀ (l : Vs) (c : Nat → Option Value) (o : Nat), zchkL l c o = true → RL E l c o
  | .nil, _, _, _ => by simp only [RL]
  | .cons v l, c, o, h => by
    simp only [zchkL, Bool.and_eq_true] at h
    simp only [RL]
    exact ⟨zchk_ok v c o h.1, zchkL_ok l c _ h.2⟩
end

def tdOk (P : Program) (t : Nat) : TD → Bool
  | .int k => match P.underlying t with | some (.int k') => k == k' | _ => false
  | .bool => match P.underlying t with | some .bool => true | _ => false
  | .str => match P.underlying t with | some .string => true | _ => false
  | .ptr e => match P.underlying t with | some (.pointer e') => e == e' | _ => false
  | .slice e => match P.underlying t with | some (.slice e') => e == e' | _ => false
  | .arr n e => match P.underlying t with | some (.array n' e') => n == n' && e == e' | _ => false
  | .st fs => match P.underlying t with | some (.struct gs) => gs.toList.map (fun f => (f.offset, f.type)) == fs && gs.toList.all (fun f => (P.info? f.type).isSome) | _ => false
  | .fn => match P.underlying t with | some (.func ..) => true | _ => false
  | .iface => match P.underlying t with | some (.interface _) => true | _ => false
  | .other => false
/-- What an entry of the table says is so. -/
def tiOk (P : Program) (t : Nat) (i : TI) : Bool :=
  tdOk P t i.d && match P.info? t with
    | some f => f.size == i.sz && f.bytes == i.by_ && (match f.zero with
      | some z => (match z with | .agg cs => i.d.isAgg && cs.size == i.sz | z => !i.d.isAgg && z.oneCell' && i.sz == 1) && zchk i.z (fun k => z.cells[k]?) 0 && i.z.isAgg == i.d.isAgg && i.z.one == !i.d.isAgg && vsize i.z == i.sz
      | none => false)
    | none => false
def tabOk (P : Program) : List (Option TI) → Nat → Bool
  | [], _ => true
  | none :: l, t => tabOk P l (t + 1)
  | some i :: l, t => tiOk P t i && tabOk P l (t + 1)
def TabOk (P : Program) (tb : List (Option TI)) : Prop := tabOk P tb 0 = true
theorem tabOk_get {P : Program} : ∀ {tb : List (Option TI)} {s t : Nat} {i : TI}, tabOk P tb s = true → getT tb t = some i → tiOk P (s + t) i = true
  | [], _, _, _, _, h => by simp [getT] at h
  | none :: l, s, 0, i, _, h => by simp [getT] at h
  | some j :: l, s, 0, i, hok, h => by
    simp only [getT, Option.some.injEq] at h
    subst h
    simp only [tabOk, Bool.and_eq_true] at hok
    exact hok.1
  | none :: l, s, t + 1, i, hok, h => by
    simp only [getT] at h
    have := tabOk_get (s := s + 1) (by simpa only [tabOk] using hok) h
    rwa [Nat.add_assoc, Nat.add_comm 1 t] at this
  | some j :: l, s, t + 1, i, hok, h => by
    simp only [getT] at h
    simp only [tabOk, Bool.and_eq_true] at hok
    have := tabOk_get (s := s + 1) hok.2 h
    rwa [Nat.add_assoc, Nat.add_comm 1 t] at this

structure TypeOk (P : Program) (t : Nat) (i : TI) : Prop where
  td : tdOk P t i.d = true
  info : ∃ f z, P.info? t = some f ∧ f.size = i.sz ∧ f.bytes = i.by_ ∧ f.zero = some z ∧ (∀ E, T E i.z z) ∧ z.cells.size = i.sz
  agg : i.z.isAgg = i.d.isAgg
  one : i.z.one = !i.d.isAgg
  size : vsize i.z = i.sz
theorem TabOk.get {P : Program} {tb : List (Option TI)} (h : TabOk P tb) {t : Nat} {i : TI} (hg : getT tb t = some i) : TypeOk P t i := by
  have h1 := tabOk_get (s := 0) h hg
  rw [Nat.zero_add] at h1
  simp only [tiOk, Bool.and_eq_true] at h1
  obtain ⟨h2, h3⟩ := h1
  split at h3
  · rename_i f hf
    simp only [Bool.and_eq_true, beq_iff_eq] at h3
    obtain ⟨⟨h4, h5⟩, h6⟩ := h3
    split at h6
    · rename_i z hz
      simp only [Bool.and_eq_true, beq_iff_eq] at h6
      obtain ⟨⟨⟨⟨h7, h8⟩, h9⟩, h10⟩, h11⟩ := h6
      have hr : ∀ E, R E i.z (fun k => z.cells[k]?) 0 := fun E => zchk_ok _ _ _ h8
      have hag : ∀ E, T E i.z z ∧ z.cells.size = i.sz := fun E => by
        cases z with
        | agg cs =>
          simp only [Bool.and_eq_true, beq_iff_eq] at h7
          exact ⟨T_mkAgg (h9.trans h7.1) (h7.2.trans h11.symm) (hr E), h7.2⟩
        | _ =>
          simp only [Bool.and_eq_true, Bool.not_eq_true', beq_iff_eq] at h7
          first
            | (simp [Value.oneCell'] at h7; done)
            | exact ⟨T_mk (by rw [h10, h7.1.1]; rfl) h7.1.2 (R_shift _ _ _ 0 0 (fun q hq => by
                rw [h11, h7.2] at hq
                obtain rfl : q = 0 := by omega
                simp [Value.cells]) (hr E)), by simp [Value.cells, h7.2]⟩
      exact ⟨h2, ⟨f, z, hf, h4, h5, hz, fun E => (hag E).1, (hag ⟨default, fun _ => 0, fun _ => false, 0, fun _ => False, fun _ => False, fun _ => False⟩).2⟩, h9, h10, h11⟩
    · cases h6
  · cases h3
end Go.DD

/- Arithmetic, comparisons, conversions between numbers. -/
namespace Go.DD
set_option linter.unusedVariables false
set_option linter.unusedSimpArgs false
open Go.RowKit

structure Ob (p : Prop) : Prop where
  out : p

/-- A pure operation's outcome. -/
def ResP (E : Env) (κ : V → Prop) (r : Result Value) : Prop := ∃ x v, r = .ok x E.w ∧ T E v x ∧ κ v
theorem ResP.mk {E : Env} {κ : V → Prop} {r : Result Value} (x : Value) (v : V) (h : r = .ok x E.w) (ht : T E v x) (hk : κ v) : ResP E κ r := ⟨x, v, h, ht, hk⟩

def bitsI (op : BinOp) (k : IntKind) (x y : Int) : Int :=
  match op with
  | .and => k.wrap (BitVec.ofInt k.bits x &&& BitVec.ofInt k.bits y).toNat
  | .or => k.wrap (BitVec.ofInt k.bits x ||| BitVec.ofInt k.bits y).toNat
  | .xor => k.wrap (BitVec.ofInt k.bits x ^^^ BitVec.ofInt k.bits y).toNat
  | _ => k.wrap (BitVec.ofInt k.bits x &&& ~~~BitVec.ofInt k.bits y).toNat
def shlI (k : IntKind) (x y : Int) : Int := k.wrap (x * 2 ^ min y.toNat k.bits)
def shrI (k : IntKind) (x y : Int) : Int := x.fdiv (2 ^ min y.toNat k.bits)

def vb : V → Option Bool | .tt => some true | .ff => some false | .bool b => some b | _ => none
def isInt (k : IntKind) : V → Bool | .int k' _ => k' == k | _ => false
def intOfV : V → Int | .int _ n => n | _ => 0
/-- Are two rows of numbers alike? -/
def rowEq (n : Nat) (f g : Nat → V) : Bool := (List.range n).all fun k => intOfV (f k) == intOfV (g k)

def intBin (op : BinOp) (k : IntKind) (a b : Int) (κ : V → Prop) : Prop :=
  match op with
  | .add => κ (.int k (k.wrap (a + b)))
  | .sub => κ (.int k (k.wrap (a - b)))
  | .mul => κ (.int k (k.wrap (a * b)))
  | .quo => Ob (b ≠ 0) ∧ κ (.int k (k.wrap (a.tdiv b)))
  | .rem => Ob (b ≠ 0) ∧ κ (.int k (a.tmod b))
  | .and => κ (.int k (bitsI .and k a b))
  | .or => κ (.int k (bitsI .or k a b))
  | .xor => κ (.int k (bitsI .xor k a b))
  | .andNot => κ (.int k (bitsI .andNot k a b))
  | .eql => κ (.bool (a == b))
  | .neq => κ (.bool (a != b))
  | .lss => κ (.bool (decide (a < b)))
  | .leq => κ (.bool (decide (a ≤ b)))
  | .gtr => κ (.bool (decide (b < a)))
  | .geq => κ (.bool (decide (b ≤ a)))
  | _ => False
def strBin (op : BinOp) (a b : List UInt8) (κ : V → Prop) : Prop :=
  match op with
  | .add => Ob (a.length + b.length ≤ 140737488355328) ∧ κ (.str (a ++ b))
  | .eql => κ (.bool (a == b))
  | .neq => κ (.bool (!(a == b)))
  | .lss => κ (.bool (Op.bytesLess a b))
  | .leq => κ (.bool (Op.bytesLess a b || a == b))
  | .gtr => κ (.bool (!(Op.bytesLess a b || a == b)))
  | .geq => κ (.bool (!Op.bytesLess a b))
  | _ => False
/-- Is it nil? (Of a slice without elements nobody knows.) -/
def nilD (d : TD) (x : V) (κ : Bool → Prop) : Prop :=
  match d, x with
  | .ptr _, .nilp | .fn, .nilf | .iface, .nili => κ true
  | .ptr _, .ref .. | .ptr _, .rref .. | .ptr _, .pim .. | .fn, .fn .. | .iface, .iface .. => κ false
  | .slice _, .emp => ∀ b, κ b
  | .slice _, .imm _ _ n _ => ∀ b : Bool, (b = true → n = 0) → κ b
  | .slice _, .sl _ _ _ _ n _ => ∀ b : Bool, (b = true → n = 0) → κ b
  | _, _ => False
/-- Is the operand the literal nil of such a type? -/
def isNilC (d : TD) (y : Operand) : Bool :=
  match d, y with
  | .ptr _, .const (.pointer none) | .fn, .const .nilFunc | .iface, .const .nilIface | .slice _, .const (.slice none 0 0) => true
  | _, _ => false

def eqRow (tb : List (Option TI)) (t n : Nat) (f : Nat → V) (m : Nat) (g : Nat → V) (κ : Bool → Prop) : Prop :=
  match getT tb t with
  | some ⟨.arr l e, _, _, _⟩ =>
    match getT tb e with
    | some ⟨.int k, 1, _, _⟩ =>
      match Nat.beq n l && Nat.beq m l with
      | true => Ob (∀ i, i < l → isInt k (f i) = true) ∧ Ob (∀ i, i < l → isInt k (g i) = true) ∧ κ (rowEq l f g)
      | false => False
    | _ => False
  | _ => False
def eqD (tb : List (Option TI)) (t : Nat) (x y : V) (κ : Bool → Prop) : Prop :=
  match vb x, vb y with
  | some a, some b => (match getT tb t with | some ⟨.bool, _, _, _⟩ => κ (a == b) | _ => False)
  | _, _ =>
    match x, y with
    | .row _ n f, .row _ m g => eqRow tb t n f m g κ
    | _, _ => False

def eqlD (tb : List (Option TI)) (t : Nat) (yo : Operand) (x y : V) (κ : Bool → Prop) : Prop :=
  match getT tb t with
  | some i =>
    match isNilC i.d yo with
    | true => nilD i.d x κ
    | false => eqD tb t x y κ
  | none => False
def binD (tb : List (Option TI)) (op : BinOp) (t : Nat) (_xo yo : Operand) (x y : V) (κ : V → Prop) : Prop :=
  match x, y with
  | .int k a, .int k' b =>
    (match op with
    | .shl => Ob (0 ≤ b) ∧ κ (.int k (shlI k a b))
    | .shr => Ob (0 ≤ b) ∧ κ (.int k (shrI k a b))
    | op => if k = k' then intBin op k a b κ else False)
  | .str a, .str b => strBin op a b κ
  | x, y =>
    match op with
    | .eql => eqlD tb t yo x y (fun b => κ (.bool b))
    | .neq => eqlD tb t yo x y (fun b => κ (.bool (!b)))
    | _ => False
def unD (op : UnOp) (x : V) (κ : V → Prop) : Prop :=
  match op, x with
  | .not, .tt => κ .ff
  | .not, .ff => κ .tt
  | .not, .bool b => κ (.bool (!b))
  | .neg, .int k n => κ (.int k (k.wrap (0 - n)))
  | .xor, .int k n => κ (.int k (bitsI .xor k (if k.signed then -1 else k.max) n))
  | _, _ => False

theorem vb_T {E : Env} {v : V} {x : Value} {b : Bool} (h : vb v = some b) (ht : T E v x) : x = .bool b := by
  cases v <;> simp [vb] at h
  · subst h; exact T_tt.1 ht
  · subst h; exact T_ff.1 ht
  · subst h; exact T_bool.1 ht

section
variable {P : Program} {tb : List (Option TI)} {E : Env}

theorem T_boolv (b : Bool) : T E (.bool b) (.bool b) := T_bool.2 rfl

theorem eqGuard_int (op : BinOp) (t : TypeId) (xo yo : Operand) (k k' : IntKind) (a b : Int) (w : World) : (eqGuard op t xo yo (.int k a) (.int k' b)).run P w = .ok () w := by
  cases op <;> rfl

theorem intBin_ok {op : BinOp} {k : IntKind} {a b : Int} {κ : V → Prop} (h : intBin op k a b κ) (hs : op ≠ .shl) (hr : op ≠ .shr) (t : TypeId) : ResP E κ ((binOp op t (.int k a) (.int k b)).run P E.w) := by
  cases op <;> simp only [intBin] at h <;> first | exact h.elim | (exact absurd rfl hs) | (exact absurd rfl hr) | skip
  all_goals simp only [binOp, ne_eq, not_true, if_false, Op.intArith, Op.intDiv, Op.intBits, Op.intCmp, Sem.run_ite, Sem.run_pure]
  case quo => rw [if_neg h.1.out]; exact .mk _ _ rfl (T_int.2 rfl) h.2
  case rem => rw [if_neg h.1.out]; exact .mk _ _ rfl (T_int.2 rfl) h.2
  all_goals first
    | exact .mk _ _ rfl (T_int.2 rfl) h
    | exact .mk _ _ rfl (T_bool.2 rfl) h

theorem strBin_ok {op : BinOp} {a b : List UInt8} {κ : V → Prop} (h : strBin op a b κ) (t : TypeId) : ResP E κ ((binOp op t (.string ⟨a.toArray⟩) (.string ⟨b.toArray⟩)).run P E.w) := by
  cases op <;> simp only [strBin] at h <;> first | exact h.elim | skip
  all_goals simp only [binOp, Op.stringOp, ByteArray.toList_mk, Sem.run_ite, Sem.run_pure]
  case add =>
    have h1 := h.1.out
    rw [if_neg (by
      show ¬ ((((ByteArray.mk a.toArray).size + (ByteArray.mk b.toArray).size : Nat) : Int) > IntKind.i64.max)
      have ha : (ByteArray.mk a.toArray).size = a.length := by simp [ByteArray.size]
      have hb : (ByteArray.mk b.toArray).size = b.length := by simp [ByteArray.size]
      rw [ha, hb]
      have : IntKind.i64.max = 9223372036854775807 := by decide
      rw [this]; omega)]
    refine .mk _ _ rfl (T_str.2 ?_) h.2
    congr 1
    first | done | (apply ByteArray.ext; first | done | simp)
  all_goals exact .mk _ _ rfl (T_bool.2 rfl) h

theorem eqGuard_str (op : BinOp) (t : TypeId) (xo yo : Operand) (a b : ByteArray) (w : World) : (eqGuard op t xo yo (.string a) (.string b)).run P w = .ok () w := by
  cases op <;> rfl

theorem row_ints {l : Nat} {f : Nat → V} {k : IntKind} {cs : Array Value} {sz : Nat} (h : ∀ i, i < l → isInt k (f i) = true) (hr : ∀ i, i < l → vsize (f i) = sz ∧ R E (f i) (fun q => cs[q]?) (0 + i * sz)) :
    ∀ j, j < l → cs[j]? = some (.int k (intOfV (f j))) := fun j hj => by
  have h1 := hr j hj
  have h2 := h j hj
  generalize f j = u at h1 h2
  cases u <;> simp [isInt] at h2
  subst h2
  obtain ⟨h3, h4⟩ := h1
  simp only [vsize] at h3
  subst h3
  simpa [R, intOfV] using h4
theorem eqRow_ok (ht : TabOk P tb) {t : Nat} {sz n sz' m : Nat} {f g : Nat → V} {X Y : Value} {κ : Bool → Prop} (h : eqRow tb t n f m g κ) (hx : T E (.row sz n f) X) (hy : T E (.row sz' m g) Y) (op : BinOp) (xo yo : Operand) :
    (eqGuard op t xo yo X Y).run P E.w = .ok () E.w ∧ ∃ b, κ b ∧ (Op.equal t X Y).run P E.w = .ok b E.w ∧ ∃ a c, X = .agg a ∧ Y = .agg c := by
  unfold eqRow at h
  split at h
  · rename_i l e zs zb zz hg
    split at h
    · rename_i k zb' zz' hg'
      split at h
      · rename_i hnm
        obtain ⟨hf, hg2, hk⟩ := h
        simp only [Bool.and_eq_true, Nat.beq_eq] at hnm
        obtain ⟨rfl, rfl⟩ := hnm
        have hT := (ht.get hg).td
        simp only [tdOk] at hT
        have hTe := ht.get hg'
        have hTd := hTe.td
        simp only [tdOk] at hTd
        split at hT
        · rename_i n' e' hu
          simp only [Bool.and_eq_true, beq_iff_eq] at hT
          obtain ⟨rfl, rfl⟩ := hT
          split at hTd
          · rename_i k' hue
            simp only [beq_iff_eq] at hTd
            subst hTd
            obtain ⟨i, zv, hi, hsz, _⟩ := hTe.info
            obtain ⟨xs, rfl, hxs, hrx⟩ := T_agg rfl hx
            obtain ⟨ys, rfl, hys, hry⟩ := T_agg rfl hy
            simp only [R] at hrx hry
            have hfx := row_ints hf.out hrx
            have hgx := row_ints hg2.out hry
            have hguard : P.eqGuardType P.depth t = false := by
              have : P.depth = (2 * (P.types.size + Made.depth)) + 1 + 1 := rfl
              rw [this]
              simp only [Program.eqGuardType, hu, hue]
            refine ⟨run_eqGuard_agg E.w op t xo yo xs ys hguard, _, hk, ?_, xs, ys, rfl, rfl⟩
            show (Op.equalIn (9999 + 1) t (.agg xs) (.agg ys)).run P E.w = _
            rw [run_equalIn_array E.w 9999 xs ys hu hi]
            have hc : P.cellsOf e = 1 := by simp [Program.cellsOf, hi, hsz]
            rw [hc]
            have hpart : ∀ (cs : Array Value) (j : Nat) (v : Value), cs[j]? = some v → (part e cs (j * 1)).run P E.w = .ok v E.w := fun cs j v hv => by
              simp only [part, isAgg, Sem.run_bind, run_underlying hue, Result.andThen_ok, Sem.run_pure, Nat.mul_one, hv, Bool.false_eq_true, if_false]
            have key : ∀ (is : List Nat), (∀ j ∈ is, j < m) → (Op.eqItems 9999 e 1 xs ys is).run P E.w = .ok (is.all fun j => intOfV (f j) == intOfV (g j)) E.w := by
              intro is
              induction is with
              | nil => intro _; simp [Op.eqItems]
              | cons j is ih =>
                intro hall
                have hj := hall j (by simp)
                simp only [Op.eqItems, Sem.run_bind, hpart _ _ _ (hfx j hj), hpart _ _ _ (hgx j hj), Result.andThen_ok, run_equalIn_int E.w 9998 e k k _ _ hue, List.all_cons]
                cases hb : (intOfV (f j) == intOfV (g j))
                · simp
                · simpa using ih (fun q hq => hall q (by simp [hq]))
            exact key (List.range m) (fun j hj => List.mem_range.1 hj)
          · cases hTd
        · cases hT
      · exact h.elim
    · exact h.elim
  · exact h.elim
theorem eqD_ok (ht : TabOk P tb) {t : Nat} {x y : V} {X Y : Value} {κ : Bool → Prop} (h : eqD tb t x y κ) (hx : T E x X) (hy : T E y Y) (op : BinOp) (xo yo : Operand) :
    (eqGuard op t xo yo X Y).run P E.w = .ok () E.w ∧ ∃ b, κ b ∧ (Op.equal t X Y).run P E.w = .ok b E.w ∧ ((∃ a c, X = .bool a ∧ Y = .bool c) ∨ (∃ a c, X = .agg a ∧ Y = .agg c)) := by
  unfold eqD at h
  split at h
  · rename_i a b ha hb
    have h1 := vb_T ha hx
    have h2 := vb_T hb hy
    subst h1; subst h2
    split at h
    · rename_i hg
      have hT := (ht.get hg).td
      simp only [tdOk] at hT
      split at hT
      · rename_i hu
        refine ⟨by cases op <;> rfl, a == b, h, run_equalIn_bool E.w 9999 t a b hu, .inl ⟨a, b, rfl, rfl⟩⟩
      · cases hT
    · exact h.elim
  · cases x <;> cases y <;> first | exact h.elim | skip
    obtain ⟨h1, b, h2, h3, h4⟩ := eqRow_ok ht h hx hy op xo yo
    exact ⟨h1, b, h2, h3, .inr h4⟩

theorem eq_pp {t e : TypeId} (hu : P.underlying t = some (.pointer e)) (A : Option Addr) (w : World) : (Op.equal t (.pointer A) (.pointer none)).run P w = .ok A.isNone w := by
  show (Op.equalIn (9999 + 1) t _ _).run P w = _
  unfold Op.equalIn
  simp only [Sem.run_bind, run_underlying hu, Result.andThen_ok]
  cases A <;> rfl
theorem eq_nf {t : TypeId} {a b : Array TypeId} {v : Bool} (hu : P.underlying t = some (.func a b v)) (w : World) : (Op.equal t .nilFunc .nilFunc).run P w = .ok true w := by
  show (Op.equalIn (9999 + 1) t _ _).run P w = _
  unfold Op.equalIn
  simp only [Sem.run_bind, run_underlying hu, Result.andThen_ok]
  rfl
theorem eq_fn {t : TypeId} {a b : Array TypeId} {v : Bool} (hu : P.underlying t = some (.func a b v)) (f : Fn) (x y : Array Value) (w : World) : (Op.equal t (.func f x y) .nilFunc).run P w = .ok false w := by
  show (Op.equalIn (9999 + 1) t _ _).run P w = _
  unfold Op.equalIn
  simp only [Sem.run_bind, run_underlying hu, Result.andThen_ok]
  rfl
theorem eq_ni {t : TypeId} {ms : Array (String × TypeId)} (hu : P.underlying t = some (.interface ms)) (w : World) : (Op.equal t .nilIface .nilIface).run P w = .ok true w := by
  show (Op.equalIn (9999 + 1) t _ _).run P w = _
  unfold Op.equalIn
  simp only [Sem.run_bind, run_underlying hu, Result.andThen_ok]
  rfl
theorem eq_in {t : TypeId} {ms : Array (String × TypeId)} (hu : P.underlying t = some (.interface ms)) (u : TypeId) (v : Value) (w : World) : (Op.equal t (.iface u v) .nilIface).run P w = .ok false w := by
  show (Op.equalIn (9999 + 1) t _ _).run P w = _
  unfold Op.equalIn
  simp only [Sem.run_bind, run_underlying hu, Result.andThen_ok]
  rfl
theorem eq_sl {t e : TypeId} (hu : P.underlying t = some (.slice e)) (A : Option Addr) (n c : Nat) (w : World) : (Op.equal t (.slice A n c) (.slice none 0 0)).run P w = .ok A.isNone w := by
  show (Op.equalIn (9999 + 1) t _ _).run P w = _
  unfold Op.equalIn
  simp only [Sem.run_bind, run_underlying hu, Result.andThen_ok]
  cases A <;> rfl

theorem nilD_ok (ht : TabOk P tb) {t : Nat} {i : TI} (hg : getT tb t = some i) {x : V} {a : Act} {xo yo : Operand} {κ : Bool → Prop} (hn : isNilC i.d yo = true) (h : nilD i.d x κ) (hx : T E x (a.eval xo)) (op : BinOp) :
    (eqGuard op t xo yo (a.eval xo) (a.eval yo)).run P E.w = .ok () E.w ∧ ∃ b, κ b ∧ (Op.equal t (a.eval xo) (a.eval yo)).run P E.w = .ok b E.w ∧
      ((∀ (op : BinOp), op = .eql → binOp op t (a.eval xo) (a.eval yo) = (do pure (.bool (← Op.equal t (a.eval xo) (a.eval yo))))) ∧ (∀ (op : BinOp), op = .neq → binOp op t (a.eval xo) (a.eval yo) = (do pure (.bool (!(← Op.equal t (a.eval xo) (a.eval yo))))))) := by
  have hT := (ht.get hg).td
  generalize hX : a.eval xo = X at *
  unfold isNilC at hn
  split at hn <;> first | cases hn | skip
  · rename_i e hd
    rw [hd] at h hT
    simp only [tdOk] at hT
    split at hT
    · rename_i e' hu
      cases x <;> simp only [nilD] at h <;> first | exact h.elim | skip
      · obtain rfl := T_nilp.1 hx
        exact ⟨by cases op <;> rfl, true, h, eq_pp hu _ _, fun op ho => by subst ho; rfl, fun op ho => by subst ho; rfl⟩
      · obtain ⟨_, rfl⟩ := T_ref.1 hx
        exact ⟨by cases op <;> rfl, false, h, eq_pp hu _ _, fun op ho => by subst ho; rfl, fun op ho => by subst ho; rfl⟩
      · obtain ⟨_, rfl⟩ := T_rref.1 hx
        exact ⟨by cases op <;> rfl, false, h, eq_pp hu _ _, fun op ho => by subst ho; rfl, fun op ho => by subst ho; rfl⟩
      · obtain ⟨b, off, rfl, _⟩ := T_pim.1 hx
        exact ⟨by cases op <;> rfl, false, h, eq_pp hu _ _, fun op ho => by subst ho; rfl, fun op ho => by subst ho; rfl⟩
    · cases hT
  · rename_i hd
    rw [hd] at h hT
    simp only [tdOk] at hT
    split at hT
    · rename_i hu
      cases x <;> simp only [nilD] at h <;> first | exact h.elim | skip
      · obtain ⟨xs, rfl, _⟩ := T_fn.1 hx
        exact ⟨by cases op <;> rfl, false, h, eq_fn hu _ _ _ _, fun op ho => by subst ho; rfl, fun op ho => by subst ho; rfl⟩
      · obtain rfl := T_nilf.1 hx
        exact ⟨by cases op <;> rfl, true, h, eq_nf hu _, fun op ho => by subst ho; rfl, fun op ho => by subst ho; rfl⟩
    · cases hT
  · rename_i hd
    rw [hd] at h hT
    simp only [tdOk] at hT
    split at hT
    · rename_i hu
      cases x <;> simp only [nilD] at h <;> first | exact h.elim | skip
      · obtain ⟨y, rfl, _⟩ := T_iface.1 hx
        exact ⟨by cases op <;> rfl, false, h, eq_in hu _ _ _, fun op ho => by subst ho; rfl, fun op ho => by subst ho; rfl⟩
      · obtain rfl := T_nili.1 hx
        exact ⟨by cases op <;> cases xo <;> rfl, true, h, eq_ni hu _, fun op ho => by subst ho; rfl, fun op ho => by subst ho; rfl⟩
    · cases hT
  · rename_i e hd
    rw [hd] at h hT
    simp only [tdOk] at hT
    split at hT
    · rename_i e' hu
      have key : ∀ (A : Option Addr) (n c : Nat), κ A.isNone → X = .slice A n c → (eqGuard op t xo (.const (.slice none 0 0)) X (a.eval (.const (.slice none 0 0)))).run P E.w = .ok () E.w ∧ ∃ b, κ b ∧ (Op.equal t X (a.eval (.const (.slice none 0 0)))).run P E.w = .ok b E.w ∧
          ((∀ (op : BinOp), op = .eql → binOp op t X (a.eval (.const (.slice none 0 0))) = (do pure (.bool (← Op.equal t X (a.eval (.const (.slice none 0 0))))))) ∧ (∀ (op : BinOp), op = .neq → binOp op t X (a.eval (.const (.slice none 0 0))) = (do pure (.bool (!(← Op.equal t X (a.eval (.const (.slice none 0 0))))))))) := fun A n c hk hX => by
        subst hX
        exact ⟨by cases op <;> rfl, A.isNone, hk, eq_sl hu _ _ _ _, fun op ho => by subst ho; rfl, fun op ho => by subst ho; rfl⟩
      cases x <;> simp only [nilD] at h <;> first | exact h.elim | skip
      · obtain ⟨_, A, cp, h1, h2, h3, h4⟩ := T_sl.1 hx
        exact key A _ cp (h _ fun ha => by
          rcases h4 with h4 | ⟨_, h4, _⟩
          · omega
          · subst h4; cases ha) h1
      · obtain ⟨A, h1⟩ := T_emp.1 hx
        exact key A _ _ (h _) h1
      · obtain ⟨A, cp, h1, h2, h3⟩ := T_imm.1 hx
        exact key A _ cp (h _ fun ha => by
          rcases h3 with h3 | ⟨b, off, h3, _⟩
          · exact h3
          · subst h3; cases ha) h1
    · cases hT

theorem eqlD_ok (ht : TabOk P tb) {t : Nat} {x y : V} {a : Act} {xo yo : Operand} {κ : Bool → Prop} (h : eqlD tb t yo x y κ) (hx : T E x (a.eval xo)) (hy : T E y (a.eval yo)) (op : BinOp) :
    (eqGuard op t xo yo (a.eval xo) (a.eval yo)).run P E.w = .ok () E.w ∧ ∃ b, κ b ∧ (Op.equal t (a.eval xo) (a.eval yo)).run P E.w = .ok b E.w ∧
      ((∀ (op : BinOp), op = .eql → binOp op t (a.eval xo) (a.eval yo) = (do pure (.bool (← Op.equal t (a.eval xo) (a.eval yo))))) ∧ (∀ (op : BinOp), op = .neq → binOp op t (a.eval xo) (a.eval yo) = (do pure (.bool (!(← Op.equal t (a.eval xo) (a.eval yo))))))) := by
  unfold eqlD at h
  split at h
  · rename_i i hg
    split at h
    · rename_i hn
      exact nilD_ok ht hg hn h hx op
    · obtain ⟨h1, b, h2, h3, h4⟩ := eqD_ok ht h hx hy op xo yo
      refine ⟨h1, b, h2, h3, ?_⟩
      rcases h4 with ⟨p, q, h5, h6⟩ | ⟨p, q, h5, h6⟩
      · rw [h5, h6]; exact ⟨fun op ho => by subst ho; rfl, fun op ho => by subst ho; rfl⟩
      · rw [h5, h6]; exact ⟨fun op ho => by subst ho; rfl, fun op ho => by subst ho; rfl⟩
  · exact h.elim

theorem binD_ok (ht : TabOk P tb) {op : BinOp} {t : Nat} {x y : V} {a : Act} {xo yo : Operand} {κ : V → Prop} (h : binD tb op t xo yo x y κ) (hx : T E x (a.eval xo)) (hy : T E y (a.eval yo)) :
    ResP E κ ((do eqGuard op t xo yo (a.eval xo) (a.eval yo); binOp op t (a.eval xo) (a.eval yo)).run P E.w) := by
  have eqs : ∀ κ' : V → Prop, (op = .eql ∧ eqlD tb t yo x y (fun b => κ' (.bool b)) ∨ op = .neq ∧ eqlD tb t yo x y (fun b => κ' (.bool (!b)))) → ResP E κ' ((do eqGuard op t xo yo (a.eval xo) (a.eval yo); binOp op t (a.eval xo) (a.eval yo)).run P E.w) := by
    rintro κ' (⟨rfl, hq⟩ | ⟨rfl, hq⟩)
    · obtain ⟨h1, b, h2, h3, h4, _⟩ := eqlD_ok ht hq hx hy .eql
      simp only [Sem.run_bind, h1, Result.andThen_ok, h4 _ rfl, h3, Sem.run_pure]
      exact .mk _ _ rfl (T_bool.2 rfl) h2
    · obtain ⟨h1, b, h2, h3, _, h4⟩ := eqlD_ok ht hq hx hy .neq
      simp only [Sem.run_bind, h1, Result.andThen_ok, h4 _ rfl, h3, Sem.run_pure]
      exact .mk _ _ rfl (T_bool.2 rfl) h2
  unfold binD at h
  split at h
  · rename_i k n k' m
    have h1 := T_int.1 hx
    have h2 := T_int.1 hy
    simp only [Sem.run_bind]
    rw [h1, h2, eqGuard_int]
    simp only [Result.andThen_ok]
    split at h
    · simp only [binOp, Op.shift, Sem.run_ite]
      rw [if_neg (by have := h.1.out; omega)]
      exact .mk _ _ rfl (T_int.2 rfl) h.2
    · simp only [binOp, Op.shift, Sem.run_ite]
      rw [if_neg (by have := h.1.out; omega)]
      exact .mk _ _ rfl (T_int.2 rfl) h.2
    · rename_i hs hr
      split at h
      · rename_i hk
        subst hk
        exact intBin_ok h (fun e => hs e) (fun e => hr e) t
      · exact h.elim
  · have h1 := T_str.1 hx
    have h2 := T_str.1 hy
    simp only [Sem.run_bind]
    rw [h1, h2, eqGuard_str]
    exact strBin_ok h t
  · split at h
    · exact eqs κ (.inl ⟨rfl, h⟩)
    · exact eqs κ (.inr ⟨rfl, h⟩)
    · exact h.elim

theorem unD_ok {op : UnOp} {x : V} {X : Value} {κ : V → Prop} (h : unD op x κ) (hx : T E x X) : ResP E κ ((Op.unary op X).run P E.w) := by
  unfold unD at h
  split at h
  · obtain rfl := T_tt.1 hx; exact .mk _ _ rfl (T_ff.2 rfl) h
  · obtain rfl := T_ff.1 hx; exact .mk _ _ rfl (T_tt.2 rfl) h
  · obtain rfl := T_bool.1 hx; exact .mk _ _ rfl (T_bool.2 rfl) h
  · obtain rfl := T_int.1 hx; exact .mk _ _ rfl (T_int.2 rfl) h
  · obtain rfl := T_int.1 hx; exact .mk _ _ rfl (T_int.2 rfl) h
  · exact h.elim
end
end Go.DD

/- Addresses, loads, stores. -/
namespace Go.DD
set_option linter.unusedVariables false
set_option linter.unusedSimpArgs false
open Go.RowKit

def hget : List (Option V) → Nat → Option V | [], _ => none | x :: _, 0 => x | _ :: l, k + 1 => hget l k
theorem hget_eq : ∀ (h : List (Option V)) (k : Nat) (v : V), hget h k = some v ↔ h[k]? = some (some v)
  | [], k, v => by simp [hget]
  | x :: l, 0, v => by simp [hget]
  | x :: l, k + 1, v => by simpa [hget] using hget_eq l k v

def fitB (i : TI) (v : V) : Bool :=
  match v with
  | .row .. | .st .. => i.d.isAgg && Nat.beq i.sz (vsize v)
  | .tup _ | .any => false
  | _ => !i.d.isAgg
/-- A path leads somewhere; and so on. -/
def okq : V → List Step → Prop → Prop
  | _, [], K => K
  | .st l, .f k off :: p, K => match Nat.blt k l.len && Nat.beq (presz l k) off with | true => okq (l.get k) p K | false => False
  | .row sz n f, .i k sz' :: p, K => match Nat.beq sz' sz with | true => Ob (k < n) ∧ okq (f k) p K | false => False
  | _, _ :: _, _ => False
theorem okq_okp : ∀ (p : List Step) (v : V) (K : Prop), okq v p K → okp v p ∧ K
  | [], v, K, h => ⟨by simp [okp], by simpa [okq] using h⟩
  | s :: p, v, K, h => by
    cases v <;> cases s <;> simp only [okq] at h
    · split at h
      · rename_i hb
        have := okq_okp p _ K h.2
        exact ⟨by simp only [okp]; exact ⟨⟨h.1.out, by simpa using hb⟩, this.1⟩, this.2⟩
      · exact h.elim
    · split at h
      · rename_i hb
        simp only [Bool.and_eq_true, Nat.beq_eq, Nat.blt_eq] at hb
        have := okq_okp p _ K h
        exact ⟨by simp only [okp]; exact ⟨hb, this.1⟩, this.2⟩
      · exact h.elim

def loadD (tb : List (Option TI)) (t : Nat) (x : V) (h : List (Option V)) (κ : V → Prop) : Prop :=
  match getT tb t with
  | none => False
  | some i =>
    match x with
    | .ref j p =>
      match hget h j with
      | some c => okq c p (match fitB i (sub c p) with | true => κ (sub c p) | false => False)
      | none => False
    | .rref j p sz lo n =>
      match hget h j with
      | some c =>
        match sub c p with
        | .row sz' m f => okq c p (Ob (lo + n ≤ m) ∧ match Nat.beq sz sz' && fitB i (.row sz n fun k => f (lo + k)) with | true => κ (.row sz n fun k => f (lo + k)) | false => False)
        | _ => False
      | none => False
    | .pim _ v => match fitB i v with | true => κ v | false => False
    | _ => False
def storeD (tb : List (Option TI)) (t : Nat) (x u : V) (h : List (Option V)) (κ : List (Option V) → Prop) : Prop :=
  match getT tb t with
  | none => False
  | some i =>
    match x with
    | .ref j p =>
      match hget h j with
      | some c => okq c p (match fitB i (sub c p) && fitB i u && !Nat.beq i.sz 0 with | true => κ (h.set j (some (upd c p u))) | false => False)
      | none => False
    | _ => False
def fieldAddrD (tb : List (Option TI)) (s : Nat) (x : V) (k : Nat) (κ : V → Prop) : Prop :=
  match getT tb s with
  | some ⟨.st fs, _, _, _⟩ =>
    match fs[k]? with
    | some (off, ft) =>
      match getT tb ft with
      | some fi =>
        match Nat.beq fi.sz 0 with
        | true => False
        | false =>
          match x with
          | .ref j p => κ (.ref j (p ++ [.f k off]))
          | .pim l (.st vs) => match Nat.blt k vs.len && Nat.beq (presz vs k) off with | true => κ (.pim l (vs.get k)) | false => False
          | _ => False
      | none => False
    | none => False
  | _ => False
def indexAddrD (tb : List (Option TI)) (t : Nat) (x ix : V) (κ : V → Prop) : Prop :=
  match ix with
  | .int _ n =>
    match getT tb t with
    | some ⟨.slice e, _, _, _⟩ =>
      match getT tb e with
      | some ei =>
        match x with
        | .sl j p sz lo len _ => match Nat.beq ei.sz sz with | true => Ob (0 ≤ n ∧ n < len) ∧ κ (.ref j (p ++ [.i (lo + n.toNat) sz])) | false => False
        | .imm l sz m f => match Nat.beq ei.sz sz with | true => Ob (0 ≤ n ∧ n < m) ∧ κ (.pim l (f n.toNat)) | false => False
        | _ => False
      | none => False
    | some ⟨.arr m e, _, _, _⟩ =>
      match getT tb e with
      | some ei =>
        match x with
        | .ref j p => Ob (0 ≤ n ∧ n < m) ∧ κ (.ref j (p ++ [.i n.toNat ei.sz]))
        | .pim l (.row sz m' f) => match Nat.beq ei.sz sz && Nat.beq m' m with | true => Ob (0 ≤ n ∧ n < m) ∧ κ (.pim l (f n.toNat)) | false => False
        | _ => False
      | none => False
    | _ => False
  | _ => False
/-- A bound of a cut: what is not written is 'd'. -/
def cutAt (v : Option V) (d : Int) (κ : Int → Prop) : Prop :=
  match v with
  | none => κ d
  | some (.int _ n) => κ n
  | some _ => False
def sliceD (tb : List (Option TI)) (t : Nat) (x : V) (lo hi mx : Option V) (h : List (Option V)) (κ : V → Prop) : Prop :=
  match mx.isSome && hi.isNone with
  | true => False
  | false =>
  cutAt lo 0 fun l =>
  match getT tb t with
  | some ⟨.slice e, _, _, _⟩ =>
    match getT tb e with
    | some ei =>
      match x with
      | .sl j p sz l0 len cap => match Nat.beq ei.sz sz with
        | true => cutAt hi len fun r => cutAt mx cap fun m => Ob (0 ≤ l ∧ l ≤ r ∧ r ≤ m ∧ m ≤ cap) ∧ κ (.sl j p sz (l0 + l.toNat) (r.toNat - l.toNat) (m.toNat - l.toNat))
        | false => False
      | .slx j sz l0 len cap => match Nat.beq ei.sz sz with
        | true => cutAt hi len fun r => match mx with
          | none => Ob (0 ≤ l ∧ l ≤ r ∧ r ≤ cap) ∧ κ (.slx j sz (l0 + l.toNat) (r.toNat - l.toNat) (cap - l.toNat))
          | some _ => False
        | false => False
      | .imm b sz n f => match Nat.beq ei.sz sz with
        | true => cutAt hi n fun r => match mx with
          | none => Ob (0 ≤ l ∧ l ≤ r ∧ r ≤ n) ∧ κ (.imm b sz (r.toNat - l.toNat) fun k => f (l.toNat + k))
          | some mv => cutAt (some mv) 0 fun m => (Ob (0 ≤ l ∧ l = r ∧ r = m ∧ m ≤ n) ∧ κ .emp) ∨ (Ob (0 ≤ l ∧ l ≤ r ∧ r ≤ m ∧ m ≤ n) ∧ κ (.imm b sz (r.toNat - l.toNat) fun k => f (l.toNat + k)))
        | false => False
      | .emp => cutAt hi 0 fun r => cutAt mx 0 fun m => Ob (l = 0 ∧ r = 0 ∧ m = 0) ∧ κ .emp
      | _ => False
    | none => False
  | some ⟨.str, _, _, _⟩ =>
    match x, mx with
    | .str s, none => cutAt hi s.length fun r => Ob (0 ≤ l ∧ l ≤ r ∧ r ≤ s.length) ∧ κ (.str ((s.drop l.toNat).take (r.toNat - l.toNat)))
    | _, _ => False
  | some ⟨.arr n e, _, _, _⟩ =>
    match getT tb e with
    | some ei =>
      match x with
      | .ref j p => match hget h j with
        | none => False
        | some c => okq c p (match sub c p with
          | .row sz' n' _ => match Nat.beq sz' ei.sz && Nat.beq n' n with
            | true => cutAt hi n fun r => cutAt mx n fun m => Ob (0 ≤ l ∧ l ≤ r ∧ r ≤ m ∧ m ≤ n) ∧ κ (.sl j p ei.sz l.toNat (r.toNat - l.toNat) (m.toNat - l.toNat))
            | false => False
          | _ => False)
      | .pim b (.row sz n' f) => match Nat.beq ei.sz sz && Nat.beq n' n with
        | true => cutAt hi n fun r => match mx with
          | none => Ob (0 ≤ l ∧ l ≤ r ∧ r ≤ n) ∧ κ (.imm b sz (r.toNat - l.toNat) fun k => f (l.toNat + k))
          | some _ => False
        | false => False
      | _ => False
    | none => False
  | _ => False

section
variable {P : Program} {tb : List (Option TI)} {E : Env}

theorem TypeOk.isAgg {t : Nat} {i : TI} (h : TypeOk P t i) : ∃ d, P.underlying t = some d ∧ d.isRow = i.d.isAgg := by
  have hT := h.td
  cases hd : i.d <;> rw [hd] at hT <;> simp only [tdOk] at hT <;> first | (split at hT <;> first | exact ⟨_, ‹_›, rfl⟩ | cases hT) | cases hT
theorem run_isAgg' {t : Nat} {d : TypeDesc} (hu : P.underlying t = some d) (w : World) : (Go.isAgg t).run P w = .ok d.isRow w := by
  unfold Go.isAgg
  rw [Sem.run_bind, run_underlying hu w]
  cases d <;> rfl

theorem load_core (ht : TabOk P tb) {t : Nat} {i : TI} (hg : getT tb t = some i) {v : V} (hf : fitB i v = true) {b o : Nat} (hr : R E v (cellsAt E.w b) o) :
    ∃ x, (loadVar t ⟨b, o, none⟩).run P E.w = .ok x E.w ∧ T E v x := by
  have hty := ht.get hg
  obtain ⟨d, hu, hd⟩ := hty.isAgg
  obtain ⟨f, z, hi, hsz, _⟩ := hty.info
  by_cases hagg : v.isAgg = true
  · have hs : i.d.isAgg = true ∧ i.sz = vsize v := by
      cases v <;> simp_all [fitB, V.isAgg]
    let cs := (List.range (vsize v)).map fun q => (cellsAt E.w b (o + q)).getD undef
    have hcs : ∀ q, q < vsize v → cs[q]? = cellsAt E.w b (o + q) := fun q hq => by
      obtain ⟨x, h1, _⟩ := R_one v _ o q hr hq
      simp [cs, hq, h1]
    refine ⟨.agg cs.toArray, ?_, ?_⟩
    · refine run_loadVar_mid E.w b o t cs d (fun j x hj => ?_) hu (hd.trans hs.1) (by simp [hi, hsz, hs.2, cs])
      have hlt : j < vsize v := by
        have := (List.getElem?_eq_some_iff.1 hj).1
        simpa [cs] using this
      rw [hcs j hlt] at hj
      exact hj
    · refine T_mkAgg hagg (by simp [cs]) (R_shift v _ _ o 0 (fun q hq => ?_) hr)
      simpa using hcs q hq
  · have hone : v.one = true ∧ i.d.isAgg = false := by
      cases v <;> simp_all [fitB, V.isAgg, V.one]
    have hz : vsize v = 1 := by cases v <;> simp_all [V.one, vsize]
    obtain ⟨x, h1, h2⟩ := R_one v _ o 0 hr (by omega)
    refine ⟨x, ?_, T_mk hone.1 h2 (R_shift v _ _ o 0 (fun q hq => by obtain rfl : q = 0 := by omega
                                                                     exact h1.symm) hr)⟩
    have hc : E.w.cell? ⟨b, o, none⟩ = some x := h1
    simp only [loadVar, Sem.run_bind, run_isAgg' hu, hd, hone.2, Result.andThen_ok, Bool.false_eq_true, if_false, run_load, hc]

theorem loadD_ok (ht : TabOk P tb) (hw : Wf E) {h : List (Option V)} (hs : SimH E h) {t : Nat} {x : V} {X : Value} {κ : V → Prop} (hl : loadD tb t x h κ) (hx : T E x X) : ResP E κ ((Instr.loadAt t X).run P E.w) := by
  unfold loadD at hl
  split at hl
  · exact hl.elim
  · rename_i i hg
    split at hl
    · rename_i j p
      split at hl
      · rename_i c hc
        obtain ⟨hp, hk⟩ := okq_okp p c _ hl
        split at hk
        · rename_i hfit
          obtain ⟨_, rfl⟩ := T_ref.1 hx
          rcases hs.live j c ((hget_eq h j c).1 hc) with ⟨_, sz, f, rfl⟩ | ⟨_, _, cs, t', hb, _, hr⟩
          · cases p with
            | nil =>
              have hr : R E (.row sz 0 f) (cellsAt E.w (E.ρ j)) 0 := by simp [R]
              obtain ⟨x, h1, h2⟩ := load_core ht hg (v := .row sz 0 f) hfit hr
              exact ⟨x, _, h1, h2, hk⟩
            | cons s p =>
              rcases okp_cases hp with ⟨l, k, off, he, _⟩ | ⟨sz', n, f', k, he, _, hkn, _⟩
              · cases he
              · cases he; omega
          · have hr' : R E c (cellsAt E.w (E.ρ j)) 0 := by
              have : cellsAt E.w (E.ρ j) = fun q => cs[q]? := by funext q; simp [cellsAt, World.cell?, hb]
              rw [this]; exact hr
            have h1 := R_sub p c _ 0 hp hr'
            rw [Nat.zero_add] at h1
            obtain ⟨x, h2, h3⟩ := load_core ht hg hfit h1
            exact ⟨x, _, h2, h3, hk⟩
        · exact hk.elim
      · exact hl.elim
    · rename_i j p sz lo n
      split at hl
      · rename_i c hc
        split at hl
        · rename_i sz' m f hsub
          obtain ⟨hp, hle, hk⟩ := okq_okp p c _ hl
          split at hk
          · rename_i hfit
            simp only [Bool.and_eq_true, Nat.beq_eq] at hfit
            obtain ⟨rfl, hfit⟩ := hfit
            obtain ⟨_, rfl⟩ := T_rref.1 hx
            have hle := hle.out
            rcases hs.live j c ((hget_eq h j c).1 hc) with ⟨_, sz', f', rfl⟩ | ⟨_, _, cs, t', hb, _, hr⟩
            · cases p with
              | nil =>
                simp only [sub, V.row.injEq] at hsub
                obtain ⟨rfl, rfl, rfl⟩ := hsub
                have hn : n = 0 := by omega
                subst hn
                have hr : R E (.row sz' 0 fun k => f' (lo + k)) (cellsAt E.w (E.ρ j)) (poff [] + lo * sz') := by simp [R]
                obtain ⟨x, h1, h2⟩ := load_core ht hg hfit hr
                exact ⟨x, _, h1, h2, hk⟩
              | cons s p =>
                rcases okp_cases hp with ⟨l, k, off, he, _⟩ | ⟨sz', n, f', k, he, _, hkn, _⟩
                · cases he
                · cases he; omega
            · have hr' : R E c (cellsAt E.w (E.ρ j)) 0 := by
                have : cellsAt E.w (E.ρ j) = fun q => cs[q]? := by funext q; simp [cellsAt, World.cell?, hb]
                rw [this]; exact hr
              have h1 := R_sub p c _ 0 hp hr'
              rw [Nat.zero_add, hsub] at h1
              have h2 : R E (.row sz n fun k => f (lo + k)) (cellsAt E.w (E.ρ j)) (poff p + lo * sz) := by
                simp only [R] at h1 ⊢
                intro k hk'
                have := h1 (lo + k) (by omega)
                refine ⟨this.1, ?_⟩
                have h3 := this.2
                rw [Nat.add_mul, ← Nat.add_assoc] at h3
                exact h3
              obtain ⟨x, h2, h3⟩ := load_core ht hg hfit h2
              exact ⟨x, _, h2, h3, hk⟩
          · exact hk.elim
        · exact hl.elim
      · exact hl.elim
    · rename_i lent v
      split at hl
      · rename_i hfit
        obtain ⟨b, off, rfl, _, hr⟩ := T_pim.1 hx
        obtain ⟨x, h1, h2⟩ := load_core ht hg hfit (R_bare hw hr)
        exact ⟨x, _, h1, h2, hl⟩
      · exact hl.elim
    · exact hl.elim
end
end Go.DD

/- Stores, addresses, cuts: sound. -/
namespace Go.DD
set_option linter.unusedVariables false
set_option linter.unusedSimpArgs false
open Go.RowKit
section
variable {P : Program} {tb : List (Option TI)} {E : Env}

theorem poff_append : ∀ (p q : List Step), poff (p ++ q) = poff p + poff q
  | [], q => by simp [poff]
  | s :: p, q => by simp [poff, poff_append p q, Nat.add_assoc]

theorem cells_size {v : V} {x : Value} {i : TI} (hf : fitB i v = true) (hT : T E v x) : x.cells.size = vsize v ∧ (∀ u ∈ x.cells, u.oneCell' = true) ∧ R E v (fun q => x.cells[q]?) 0 ∧ (i.d.isAgg = true → i.sz = vsize v) ∧ (i.d.isAgg = false → vsize v = 1) := by
  by_cases hagg : v.isAgg = true
  · obtain ⟨cs, rfl, h1, h2⟩ := T_agg hagg hT
    refine ⟨h1, fun u hu => ?_, h2, fun _ => by cases v <;> simp_all [fitB, V.isAgg], fun h => by cases v <;> simp_all [fitB, V.isAgg]⟩
    obtain ⟨q, hq, rfl⟩ := Array.mem_iff_getElem.1 hu
    have hq' : q < cs.size := hq
    obtain ⟨x, h3, h4⟩ := R_one v _ 0 q h2 (by rw [← h1]; exact hq')
    rw [Nat.zero_add] at h3
    have : cs[q]? = some cs[q] := Array.getElem?_eq_getElem hq'
    rw [this] at h3
    cases h3
    exact h4
  · have hone : v.one = true := by cases v <;> simp_all [fitB, V.isAgg, V.one]
    have hz : vsize v = 1 := by cases v <;> simp_all [V.one, vsize]
    obtain ⟨h1, h2⟩ := T_one hone hT
    have hc := cells_one h1
    refine ⟨by rw [hc, hz]; rfl, fun u hu => by rw [hc] at hu; simp at hu; subst hu; exact h1, R_shift v _ _ 0 0 (fun q hq => ?_) h2, fun h => by cases v <;> simp_all [fitB, V.isAgg], fun _ => hz⟩
    obtain rfl : q = 0 := by omega
    simp [hc]

/-- The row behind a store of 'new' at 'o'. -/
def putRow (cs : Array Value) (o : Nat) (new : List Value) : Array Value := (cs.toList.take o ++ new ++ cs.toList.drop (o + new.length)).toArray
theorem putRow_size {cs : Array Value} {o : Nat} {new : List Value} (h : o + new.length ≤ cs.size) : (putRow cs o new).size = cs.size := by
  simp only [putRow, List.size_toArray, List.length_append, List.length_take, List.length_drop, Array.length_toList]
  omega
theorem putRow_in {cs : Array Value} {o : Nat} {new : List Value} (h : o + new.length ≤ cs.size) {q : Nat} (hq : q < new.length) : (putRow cs o new)[o + q]? = new[q]? := by
  simp only [putRow, List.getElem?_toArray]
  rw [List.append_assoc, List.getElem?_append_right (by simp; omega), List.getElem?_append_left (by simp [Nat.min_eq_left (by omega : o ≤ cs.size)]; omega)]
  simp only [List.length_take, Array.length_toList, Nat.min_eq_left (by omega : o ≤ cs.size), Nat.add_sub_cancel_left]
theorem putRow_out {cs : Array Value} {o : Nat} {new : List Value} (h : o + new.length ≤ cs.size) {q : Nat} (hq : q < o ∨ o + new.length ≤ q) : (putRow cs o new)[q]? = cs[q]? := by
  simp only [putRow, List.getElem?_toArray]
  rcases hq with hq | hq
  · rw [List.append_assoc, List.getElem?_append_left (by simp; omega), List.getElem?_take, if_pos hq]
    simp
  · rw [List.getElem?_append_right (by simp; omega), List.getElem?_drop]
    simp only [List.length_append, List.length_take, Array.length_toList, Nat.min_eq_left (by omega : o ≤ cs.size)]
    rw [show o + new.length + (q - (o + new.length)) = q by omega]
    simp

/-- A heap operation's outcome. -/
def ResH (E : Env) (κ : V → List (Option V) → Prop) (r : Result Value) : Prop := ∃ x E' v h', r = .ok x E'.w ∧ Ext E E' ∧ Wf E' ∧ SimH E' h' ∧ T E' v x ∧ κ v h'
theorem ResP.heap {κ : V → Prop} {r : Result Value} {h : List (Option V)} (hw : Wf E) (hs : SimH E h) {κ' : V → List (Option V) → Prop} (hr : ResP E κ r) (hk : ∀ v, κ v → κ' v h) : ResH E κ' r := by
  obtain ⟨x, v, h1, h2, h3⟩ := hr
  exact ⟨x, E, v, h, h1, Ext.refl E, hw, hs, h2, hk v h3⟩

theorem storeD_ok (ht : TabOk P tb) (hw : Wf E) {h : List (Option V)} (hs : SimH E h) {t : Nat} {x u : V} {X U : Value} {κ : List (Option V) → Prop} (hl : storeD tb t x u h κ) (hx : T E x X) (hu : T E u U) :
    ∃ E' h', (Instr.storeAt t X U).run P E.w = .ok () E'.w ∧ Ext E E' ∧ Wf E' ∧ SimH E' h' ∧ κ h' := by
  unfold storeD at hl
  split at hl
  · exact hl.elim
  · rename_i i hg
    split at hl
    · rename_i j p
      split at hl
      · rename_i c hc
        obtain ⟨hp, hk⟩ := okq_okp p c _ hl
        split at hk
        · rename_i hfit
          simp only [Bool.and_eq_true] at hfit
          obtain ⟨_, rfl⟩ := T_ref.1 hx
          obtain ⟨k1, k2, k3, k4, k5⟩ := cells_size hfit.1.2 hu
          have hsz : vsize u = vsize (sub c p) := by
            cases hd : i.d.isAgg
            · have h1 : vsize (sub c p) = 1 := by
                have hf := hfit.1.1
                generalize sub c p = y at hf
                cases y <;> simp_all [fitB, vsize]
              rw [h1, k5 hd]
            · have h1 : i.sz = vsize (sub c p) := by
                have hf := hfit.1.1
                generalize sub c p = y at hf
                cases y <;> simp_all [fitB]
              rw [← h1, k4 hd]
          have hty := ht.get hg
          obtain ⟨f, z, hi, hisz, _, _, _, hzs⟩ := hty.info
          have hsize : U.cells.size = f.size := by
            rw [k1, hisz]
            cases hd : i.d.isAgg
            · rw [k5 hd]
              have h1 : i.z.one = true := by rw [hty.one, hd]; rfl
              have h2 := hty.size
              have h3 : vsize i.z = 1 := by
                generalize i.z = y at h1
                cases y <;> simp_all [V.one, vsize]
              omega
            · rw [k4 hd]
          have hci := (hget_eq h j c).1 hc
          rcases hs.live j c hci with ⟨_, sz, g, rfl⟩ | ⟨hvt, hnk, cs, t', hb, hle, hr⟩
          · cases p with
            | nil =>
              have h0 : i.sz = 0 := by
                have := hfit.1.1
                simp only [sub, fitB, Bool.and_eq_true, Nat.beq_eq, vsize, Nat.mul_zero] at this
                exact this.2
              have := hfit.2
              rw [h0] at this
              cases this
            | cons s p =>
              rcases okp_cases hp with ⟨l, k, off, he, _⟩ | ⟨sz', n, f', k, he, _, hkn, _⟩
              · cases he
              · cases he; omega
          · have hfits := sub_fits p c hp E _ 0 hr
            have hoff : poff p + U.cells.toList.length ≤ cs.size := by simp [k1, hsz]; omega
            have hst := run_storeCells_at (P := P) (E.ρ j) (poff p) t' U.cells.toList 0 cs E.w hb (by simpa using hoff) (fun v hv => k2 v (by simpa using hv))
            simp only [Nat.add_zero] at hst
            have hwr : Wrote E.w (E.w.setRow (E.ρ j) (putRow cs (poff p) U.cells.toList)) (E.ρ j) (putRow cs (poff p) U.cells.toList) t' := Wrote.setRow hb
            have hps := putRow_size hoff
            have hupd := upd_ok p c u (fun q => cs[q]?) (fun q => (putRow cs (poff p) U.cells.toList)[q]?) 0 hp hsz hr
              (fun q _ _ h3 => putRow_out hoff (by simp [k1]; omega))
              (R_shift u _ _ 0 _ (fun q hq => by
                show (putRow cs (poff p) U.cells.toList)[0 + poff p + q]? = U.cells[0 + q]?
                rw [Nat.zero_add, Nat.zero_add, putRow_in hoff (by simp [k1]; exact hq)]
                simp) k3)
            refine ⟨{ E with w := E.w.setRow (E.ρ j) (putRow cs (poff p) U.cells.toList) }, h.set j (some (upd c p u)), ?_, Wrote.ext hb hnk hps hwr, Wrote.wf hw hwr, wrote_ok hw hs hci hvt hb hnk hps hwr hupd.1 (by rw [hupd.2, hps]; exact hle), hk⟩
            simp only [Instr.storeAt, Instr.sureAddr, Sem.run_bind, Sem.run_pure, Result.andThen_ok, storeVar, sizeOf, typeInfo, run_program, hi, hsize, ne_eq, not_true, if_false, Sem.run_ite]
            exact hst
        · exact hk.elim
      · exact hl.elim
    · exact hl.elim

theorem fieldAddrD_ok (ht : TabOk P tb) {s : Nat} {x : V} {X : Value} {k : Nat} {κ : V → Prop} (hl : fieldAddrD tb s x k κ) (hx : T E x X) : ResP E κ ((Instr.fieldAt s X k).run P E.w) := by
  unfold fieldAddrD at hl
  split at hl
  · rename_i fs sz by_ z hg
    split at hl
    · rename_i off ft hk
      split at hl
      · rename_i fi hgf
        split at hl
        · exact hl.elim
        · rename_i hnz
          have hT := (ht.get hg).td
          simp only [tdOk] at hT
          split at hT
          · rename_i gs hu
            simp only [Bool.and_eq_true, beq_iff_eq] at hT
            replace hT := hT.1
            obtain ⟨f, hf, ho, hft⟩ : ∃ f, gs[k]? = some f ∧ f.offset = off ∧ f.type = ft := by
              rw [← hT, List.getElem?_map, Option.map_eq_some_iff] at hk
              obtain ⟨f, h1, h2⟩ := hk
              cases h2
              exact ⟨f, by simpa using h1, rfl, rfl⟩
            obtain ⟨g, z', hi, hsz, _⟩ := (ht.get hgf).info
            have hne : ¬ g.size = 0 := by rw [hsz]; intro h0; rw [h0] at hnz; cases hnz
            have hrun : ∀ b o, (Instr.fieldAt s (.pointer (some ⟨b, o, none⟩)) k).run P E.w = .ok (.pointer (some ⟨b, o + off, none⟩)) E.w := fun b o => by
              simp only [Instr.fieldAt, Sem.run_bind, run_underlying hu, Result.andThen_ok, hf, Instr.sureAddr, Sem.run_pure, fieldPlace, sizeOf, typeInfo, run_program, hft, hi, Sem.run_ite, if_neg hne, Addr.add_mid, ho]
            split at hl
            · rename_i j p
              obtain ⟨h1, rfl⟩ := T_ref.1 hx
              refine .mk _ _ (hrun _ _) (T_ref.2 ⟨h1, ?_⟩) hl
              simp [poff_append, poff, Step.off]
            · rename_i l vs
              split at hl
              · rename_i hb
                simp only [Bool.and_eq_true, Nat.beq_eq, Nat.blt_eq] at hb
                obtain ⟨b, o, rfl, h2, h3⟩ := T_pim.1 hx
                simp only [R] at h3
                have h4 := RL_get vs k _ _ hb.1 h3
                rw [hb.2] at h4
                exact .mk _ _ (hrun _ _) (T_pim.2 ⟨b, o + off, rfl, h2, h4⟩) hl
              · exact hl.elim
            · exact hl.elim
          · cases hT
      · exact hl.elim
    · exact hl.elim
  · exact hl.elim

theorem indexAddrD_ok (ht : TabOk P tb) {t : Nat} {x ix : V} {X I : Value} {κ : V → Prop} (hl : indexAddrD tb t x ix κ) (hx : T E x X) (hi : T E ix I) : ResP E κ ((Instr.indexAt t X I).run P E.w) := by
  unfold indexAddrD at hl
  split at hl
  · rename_i kd n
    obtain rfl := T_int.1 hi
    split at hl
    · rename_i e sz by_ z hg
      have hT := (ht.get hg).td
      simp only [tdOk] at hT
      split at hT
      · rename_i e' hu
        simp only [beq_iff_eq] at hT
        subst hT
        split at hl
        · rename_i ei hge
          obtain ⟨g, z', hie, hsz, _⟩ := (ht.get hge).info
          have hrun : ∀ (b o len cap : Nat), (0 ≤ n ∧ n < len) → (Instr.indexAt t (.slice (some ⟨b, o, none⟩) len cap) (.int kd n)).run P E.w = .ok (.pointer (some ⟨b, o + n.toNat * ei.sz, none⟩)) E.w := fun b o len cap hn => by
            have h1 : (match TypeDesc.slice e with | .array .. => true | _ => false) = false := rfl
            simp only [Instr.indexAt, asIntOf, Sem.run_bind, Sem.run_pure, Result.andThen_ok, run_underlying hu, if_pos hn, Sem.run_ite, sizeOf, typeInfo, run_program, hie, hsz, Addr.add_mid]
          split at hl
          · rename_i j p sz' lo len cap
            split at hl
            · rename_i hb
              simp only [Nat.beq_eq] at hb
              obtain ⟨hn, hk⟩ := hl
              obtain ⟨h1, a, cp, rfl, h3, h4, h5⟩ := T_sl.1 hx
              have hn := hn.out
              rcases h5 with h5 | ⟨_, rfl, _⟩
              · omega
              · refine .mk _ _ (hrun _ _ _ _ hn) (T_ref.2 ⟨h1, ?_⟩) hk
                simp only [poff_append, poff, Step.off, hb, Nat.add_mul, Nat.add_zero, Nat.add_assoc]
            · exact hl.elim
          · rename_i l sz' m f
            split at hl
            · rename_i hb
              simp only [Nat.beq_eq] at hb
              obtain ⟨hn, hk⟩ := hl
              have hn := hn.out
              obtain ⟨a, cp, rfl, h3, h4⟩ := T_imm.1 hx
              rcases h4 with h4 | ⟨b, off, rfl, h5, h6⟩
              · omega
              · refine .mk _ _ (hrun _ _ _ _ hn) (T_pim.2 ⟨b, off + n.toNat * ei.sz, rfl, h5, ?_⟩) hk
                rw [hb]
                exact (h6 n.toNat (by omega)).2
            · exact hl.elim
          · exact hl.elim
        · exact hl.elim
      · cases hT
    · rename_i m e sz by_ z hg
      have hT := (ht.get hg).td
      simp only [tdOk] at hT
      split at hT
      · rename_i m' e' hu
        simp only [Bool.and_eq_true, beq_iff_eq] at hT
        obtain ⟨rfl, rfl⟩ := hT
        split at hl
        · rename_i ei hge
          obtain ⟨g, z', hie, hsz, _⟩ := (ht.get hge).info
          have hrun : ∀ (b o : Nat), (0 ≤ n ∧ n < m) → (Instr.indexAt t (.pointer (some ⟨b, o, none⟩)) (.int kd n)).run P E.w = .ok (.pointer (some ⟨b, o + n.toNat * ei.sz, none⟩)) E.w := fun b o hn => by
            simp only [Instr.indexAt, asIntOf, Sem.run_bind, Sem.run_pure, Result.andThen_ok, run_underlying hu, Instr.sureAddr, if_pos hn, Sem.run_ite, sizeOf, typeInfo, run_program, hie, hsz, Addr.add_mid]
          split at hl
          · rename_i j p
            obtain ⟨hn, hk⟩ := hl
            obtain ⟨h1, rfl⟩ := T_ref.1 hx
            refine .mk _ _ (hrun _ _ hn.out) (T_ref.2 ⟨h1, ?_⟩) hk
            simp [poff_append, poff, Step.off]
          · rename_i l sz' m' f
            split at hl
            · rename_i hb
              simp only [Bool.and_eq_true, Nat.beq_eq] at hb
              obtain ⟨rfl, rfl⟩ := hb
              obtain ⟨hn, hk⟩ := hl
              have hn' := hn.out
              obtain ⟨b, o, rfl, h2, h3⟩ := T_pim.1 hx
              simp only [R] at h3
              exact .mk _ _ (hrun _ _ hn') (T_pim.2 ⟨b, o + n.toNat * ei.sz, rfl, h2, (h3 n.toNat (by omega)).2⟩) hk
            · exact hl.elim
          · exact hl.elim
        · exact hl.elim
      · cases hT
    · exact hl.elim
  · exact hl.elim

theorem cutAt_bound {v : Option V} {o : Option Value} {d : Int} {κ : Int → Prop} (h : cutAt v d κ) (ho : ∀ u, v = some u → ∃ U, o = some U ∧ T E u U) (hn : v = none → o = none) :
    ∃ n, κ n ∧ ((v = none ∧ o = none ∧ n = d) ∨ ∃ k, o = some (.int k n) ∧ v.isSome = true) := by
  unfold cutAt at h
  split at h
  · exact ⟨d, h, .inl ⟨rfl, hn rfl, rfl⟩⟩
  · rename_i k n
    obtain ⟨U, h1, h2⟩ := ho _ rfl
    exact ⟨n, h, .inr ⟨k, by rw [h1, T_int.1 h2], rfl⟩⟩
  · exact h.elim

/-- The bounds of a cut, worked out. -/
theorem sliceBounds_run {isS : Bool} {len cap : Nat} {lo hi mx : Option Value} {l r m : Int} (w : World)
    (hl : (lo = none ∧ l = 0) ∨ ∃ k, lo = some (.int k l)) (hr : (hi = none ∧ r = len ∧ mx = none) ∨ ∃ k, hi = some (.int k r)) (hm : (mx = none ∧ m = cap) ∨ ∃ k, mx = some (.int k m))
    (h0 : 0 ≤ l) (h1 : l ≤ r) (h2 : r ≤ m) (h3 : m ≤ cap) : (Instr.sliceBounds isS len cap lo hi mx).run P w = .ok (l.toNat, r.toNat, m.toNat) w := by
  have sb : ∀ (k : IntKind) (n : Int) (y : Nat) (code : BoundsCode), 0 ≤ n → n ≤ y → (Instr.sliceBound (.int k n) y code).run P w = .ok n.toNat w := fun k n y code ha hb => by
    simp only [Instr.sliceBound, asIntOf, Sem.run_bind, Sem.run_pure, Result.andThen_ok, if_pos (And.intro ha hb), Sem.run_ite]
  rcases hm with ⟨rfl, rfl⟩ | ⟨k2, rfl⟩
  · rcases hr with ⟨rfl, rfl, _⟩ | ⟨k, rfl⟩
    · rcases hl with ⟨rfl, rfl⟩ | ⟨k', rfl⟩
      · simp [Instr.sliceBounds]
      · simp [Instr.sliceBounds, sb k' l len _ h0 h1]
    · rcases hl with ⟨rfl, rfl⟩ | ⟨k', rfl⟩
      · simp [Instr.sliceBounds, sb k r cap _ (by omega) h2]
      · simp [Instr.sliceBounds, sb k r cap _ (by omega) h2, sb k' l r.toNat _ h0 (by omega)]
  · rcases hr with ⟨rfl, rfl, h⟩ | ⟨k, rfl⟩
    · cases h
    · rcases hl with ⟨rfl, rfl⟩ | ⟨k', rfl⟩
      · simp [Instr.sliceBounds, sb k2 m cap _ (by omega) h3, sb k r m.toNat _ (by omega) (by omega)]
      · simp [Instr.sliceBounds, sb k2 m cap _ (by omega) h3, sb k r m.toNat _ (by omega) (by omega), sb k' l r.toNat _ h0 (by omega)]


def OptT (E : Env) (v : Option V) (o : Option Value) : Prop := (v = none ∧ o = none) ∨ ∃ u U, v = some u ∧ o = some U ∧ T E u U
theorem cutAt_get {v : Option V} {o : Option Value} {d : Int} {κ : Int → Prop} (h : cutAt v d κ) (ho : OptT E v o) :
    ∃ n, κ n ∧ ((v = none ∧ o = none ∧ n = d) ∨ (v.isNone = false ∧ ∃ k, o = some (.int k n))) := by
  rcases ho with ⟨rfl, rfl⟩ | ⟨u, U, rfl, rfl, hu⟩
  · exact ⟨d, h, .inl ⟨rfl, rfl, rfl⟩⟩
  · unfold cutAt at h
    split at h
    · rename_i hh; cases hh
    · rename_i k n hh
      cases hh
      obtain rfl := T_int.1 hu
      exact ⟨n, h, .inr ⟨rfl, k, rfl⟩⟩
    · exact h.elim

theorem imm_cut {l : Bool} {sz n : Nat} {f : Nat → V} {b off p q : Nat} (hfoot : E.foot l b) (h : ∀ k, k < n → vsize (f k) = sz ∧ R E.bare (f k) (cellsAt E.w b) (off + k * sz)) (hq : p + q ≤ n) {a : Option Addr} {cp : Nat} (hcp : q ≤ cp) (ha : q ≠ 0 → a = some ⟨b, off + p * sz, none⟩) :
    T E (.imm l sz q fun k => f (p + k)) (.slice a q cp) := by
  refine T_imm.2 ⟨a, cp, rfl, hcp, ?_⟩
  rcases Nat.eq_zero_or_pos q with h0 | h0
  · exact .inl h0
  · refine .inr ⟨b, off + p * sz, ha (by omega), hfoot, fun k hk => ?_⟩
    have := h (p + k) (by omega)
    refine ⟨this.1, ?_⟩
    have h3 := this.2
    rw [Nat.add_mul, ← Nat.add_assoc] at h3
    exact h3

theorem sliceD_ok (ht : TabOk P tb) {h : List (Option V)} (hS : SimH E h) {t : Nat} {x : V} {X : Value} {lo hi mx : Option V} {lo' hi' mx' : Option Value} {κ : V → Prop} (hs : sliceD tb t x lo hi mx h κ) (hx : T E x X) (hl : OptT E lo lo') (hh : OptT E hi hi') (hm : OptT E mx mx') :
    ResP E κ ((Instr.sliceAt t X lo' hi' mx').run P E.w) := by
  unfold sliceD at hs
  split at hs
  · exact hs.elim
  rename_i hmh
  obtain ⟨l, hs, hlo⟩ := cutAt_get hs hl
  have hlo : (lo' = none ∧ l = 0) ∨ ∃ k, lo' = some (.int k l) := hlo.imp (fun h => ⟨h.2.1, h.2.2⟩) (fun h => h.2)
  have hmx : mx = none → mx' = none := fun h => by
    rcases hm with ⟨_, h2⟩ | ⟨u, U, h1, _⟩
    · exact h2
    · rw [h] at h1; cases h1
  have hhi : ∀ {d r : Int}, ((hi = none ∧ hi' = none ∧ r = d) ∨ (hi.isNone = false ∧ ∃ k, hi' = some (.int k r))) → ((hi' = none ∧ r = d ∧ mx' = none) ∨ ∃ k, hi' = some (.int k r)) := fun h => by
    rcases h with ⟨h1, h2, h3⟩ | ⟨_, h2⟩
    · refine .inl ⟨h2, h3, hmx ?_⟩
      subst h1
      cases mx with
      | none => rfl
      | some u => simp at hmh
    · exact .inr h2
  split at hs
  · rename_i e sz by_ z hg
    have hT := (ht.get hg).td
    simp only [tdOk] at hT
    split at hT
    · rename_i e' hu
      simp only [beq_iff_eq] at hT
      subst hT
      split at hs
      · rename_i ei hge
        obtain ⟨g, z', hie, hsz, _⟩ := (ht.get hge).info
        have hrun : ∀ (a : Option Addr) (len cap : Nat) (r m : Int), ((hi' = none ∧ r = len ∧ mx' = none) ∨ ∃ k, hi' = some (.int k r)) → ((mx' = none ∧ m = cap) ∨ ∃ k, mx' = some (.int k m)) → 0 ≤ l → l ≤ r → r ≤ m → m ≤ cap →
            (Instr.sliceAt t (.slice a len cap) lo' hi' mx').run P E.w = .ok (.slice (if m.toNat = l.toNat then a else a.map (·.add (l.toNat * ei.sz))) (r.toNat - l.toNat) (m.toNat - l.toNat)) E.w := fun a len cap r m h1 h2 h3 h4 h5 h6 => by
          simp only [Instr.sliceAt, Instr.slice, Sem.run_bind, run_underlying hu, Result.andThen_ok, sliceBounds_run (isS := true) E.w hlo h1 h2 h3 h4 h5 h6, sizeOf, typeInfo, run_program, hie, Sem.run_pure, hsz]
        split at hs
        · rename_i j p sz' l0 len cap _
          split at hs
          · rename_i hb
            simp only [Nat.beq_eq] at hb
            obtain ⟨r, hs, hr⟩ := cutAt_get hs hh
            obtain ⟨m, hs, hm'⟩ := cutAt_get hs hm
            obtain ⟨hob, hk⟩ := hs
            obtain ⟨g1, g2, g3, g4⟩ := hob.out
            obtain ⟨h1, a, cp, rfl, h3, h4, h5⟩ := T_sl.1 hx
            have hcase : ∃ M : Int, ((mx' = none ∧ M = cp) ∨ ∃ k, mx' = some (.int k M)) ∧ m ≤ M ∧ M ≤ cp := by
              rcases hm' with ⟨_, h6, rfl⟩ | ⟨_, h6⟩
              · exact ⟨cp, .inl ⟨h6, rfl⟩, by omega, by omega⟩
              · exact ⟨m, .inr h6, by omega, by omega⟩
            obtain ⟨M, hM, hM1, hM2⟩ := hcase
            refine .mk _ _ (hrun a len cp r M (hhi hr) hM g1 g2 (by omega) hM2) (T_sl.2 ⟨h1, _, _, rfl, by omega, by omega, ?_⟩) hk
            rcases h5 with h5 | ⟨k1, rfl, cs, t', fr, k2, k3⟩
            · exact .inl (by omega)
            · by_cases hz : M.toNat = l.toNat
              · exact .inl (by omega)
              · refine .inr ⟨k1, ?_, cs, t', fr, k2, ?_⟩
                · rw [if_neg hz]
                  simp only [Option.map_some, Addr.add_mid, hb, Nat.add_mul, Nat.add_assoc]
                · refine Nat.le_trans ?_ k3
                  have : (l0 + l.toNat + (M.toNat - l.toNat)) * sz' ≤ (l0 + cp) * sz' := Nat.mul_le_mul_right _ (by omega)
                  omega
          · exact hs.elim
        · rename_i j sz' l0 len cap _
          split at hs
          · rename_i hb
            simp only [Nat.beq_eq] at hb
            obtain ⟨r, hs, hr⟩ := cutAt_get hs hh
            split at hs
            · obtain ⟨hob, hk⟩ := hs
              obtain ⟨g1, g2, g3⟩ := hob.out
              obtain ⟨h1, a, rfl, h4, h5⟩ := T_slx.1 hx
              have hcl : (cap : Int).toNat = cap := by omega
              refine .mk _ _ (hrun a len cap r cap (hhi hr) (.inl ⟨hmx rfl, rfl⟩) g1 g2 g3 (by omega)) (T_slx.2 ⟨h1, _, by rw [hcl], by omega, ?_⟩) hk
              rcases h5 with h5 | ⟨k1, rfl, cs, t', fr, k2, k3⟩
              · exact .inl (by omega)
              · by_cases hz : cap = l.toNat
                · exact .inl (by omega)
                · refine .inr ⟨k1, ?_, cs, t', fr, k2, ?_⟩
                  · rw [if_neg hz]
                    simp only [Option.map_some, Addr.add_mid, hb, Nat.add_mul, Nat.add_assoc]
                  · refine Nat.le_trans ?_ k3
                    exact Nat.mul_le_mul_right _ (by omega)
            · exact hs.elim
          · exact hs.elim
        · rename_i b sz' n f _
          split at hs
          · rename_i hb
            simp only [Nat.beq_eq] at hb
            obtain ⟨r, hs, hr⟩ := cutAt_get hs hh
            obtain ⟨a, cp, rfl, h3, h4⟩ := T_imm.1 hx
            split at hs
            · obtain ⟨hob, hk⟩ := hs
              obtain ⟨g1, g2, g3⟩ := hob.out
              have := hrun a n cp r cp (hhi hr) (.inl ⟨hmx rfl, rfl⟩) g1 g2 (by omega) (by omega)
              refine .mk _ _ this ?_ hk
              rcases h4 with rfl | ⟨b', off, rfl, h5, h6⟩
              · refine T_imm.2 ⟨_, _, rfl, by omega, .inl (by omega)⟩
              · refine imm_cut h5 h6 (by omega) (by omega) (fun hne => ?_)
                rw [if_neg (by omega)]
                simp only [Option.map_some, Addr.add_mid, hb]
            · rename_i mv
              obtain ⟨m, hs, hm'⟩ := cutAt_get hs hm
              have hm2 : ∃ k, mx' = some (.int k m) := by
                rcases hm' with ⟨h, _⟩ | ⟨_, h⟩
                · cases h
                · exact h
              rcases hs with ⟨hob, hk⟩ | ⟨hob, hk⟩
              · obtain ⟨g1, g2, g3, g4⟩ := hob.out
                have := hrun a n cp r m (hhi hr) (.inr hm2) g1 (by omega) (by omega) (by omega)
                rw [show r.toNat - l.toNat = 0 by omega, show m.toNat - l.toNat = 0 by omega] at this
                exact .mk _ _ this (T_emp.2 ⟨_, rfl⟩) hk
              · obtain ⟨g1, g2, g3, g4⟩ := hob.out
                have := hrun a n cp r m (hhi hr) (.inr hm2) g1 (by omega) (by omega) (by omega)
                refine .mk _ _ this ?_ hk
                rcases h4 with rfl | ⟨b', off, rfl, h5, h6⟩
                · refine T_imm.2 ⟨_, _, rfl, by omega, .inl (by omega)⟩
                · refine imm_cut h5 h6 (by omega) (by omega) (fun hne => ?_)
                  rw [if_neg (by omega)]
                  simp only [Option.map_some, Addr.add_mid, hb]
          · exact hs.elim
        · obtain ⟨r, hs, hr⟩ := cutAt_get hs hh
          obtain ⟨m, hs, hm'⟩ := cutAt_get hs hm
          obtain ⟨hob, hk⟩ := hs
          obtain ⟨g1, g2, g3⟩ := hob.out
          obtain ⟨a, rfl⟩ := T_emp.1 hx
          have hm2 : (mx' = none ∧ m = ((0 : Nat) : Int)) ∨ ∃ k, mx' = some (.int k m) := hm'.imp (fun h => ⟨h.2.1, h.2.2⟩) (fun h => h.2)
          have := hrun a 0 0 r m (hhi hr) hm2 (by omega) (by omega) (by omega) (by omega)
          rw [show r.toNat - l.toNat = 0 by omega, show m.toNat - l.toNat = 0 by omega] at this
          exact .mk _ _ this (T_emp.2 ⟨_, rfl⟩) hk
        · exact hs.elim
      · exact hs.elim
    · cases hT
  · rename_i sz by_ z hg
    have hT := (ht.get hg).td
    simp only [tdOk] at hT
    split at hT
    · rename_i hu
      split at hs
      · rename_i s _
        obtain ⟨r, hs, hr⟩ := cutAt_get hs hh
        obtain ⟨hob, hk⟩ := hs
        obtain ⟨g1, g2, g3⟩ := hob.out
        obtain rfl := T_str.1 hx
        have hmn := hmx rfl
        subst hmn
        have hlen : (ByteArray.mk s.toArray).size = s.length := by simp [ByteArray.size]
        have hsb := sliceBounds_run (P := P) (isS := false) (len := s.length) (cap := s.length) (mx := none) (m := s.length) E.w hlo (hhi hr) (.inl ⟨rfl, rfl⟩) g1 g2 g3 (Int.le_refl _)
        refine .mk (.string ((ByteArray.mk s.toArray).extract l.toNat r.toNat)) _ ?_ (T_str.2 ?_) hk
        · simp only [Instr.sliceAt, Instr.slice, Sem.run_bind, run_underlying hu, Result.andThen_ok, hlen, Option.isSome_none, Bool.false_eq_true, if_false, Sem.run_pure, hsb]
        · congr 1
          apply ByteArray.ext
          simp [ByteArray.data_extract]
      · exact hs.elim
    · cases hT
  · rename_i n e sz by_ z hg
    have hT := (ht.get hg).td
    simp only [tdOk] at hT
    split at hT
    · rename_i n' e' hu
      simp only [Bool.and_eq_true, beq_iff_eq] at hT
      obtain ⟨rfl, rfl⟩ := hT
      split at hs
      · rename_i ei hge
        obtain ⟨g, z', hie, hsz, _⟩ := (ht.get hge).info
        have hrun : ∀ (a : Addr) (r m : Int), ((hi' = none ∧ r = n ∧ mx' = none) ∨ ∃ k, hi' = some (.int k r)) → ((mx' = none ∧ m = n) ∨ ∃ k, mx' = some (.int k m)) → 0 ≤ l → l ≤ r → r ≤ m → m ≤ n →
            (Instr.sliceAt t (.pointer (some a)) lo' hi' mx').run P E.w = .ok (.slice (some (if m.toNat = l.toNat then a else a.add (l.toNat * ei.sz))) (r.toNat - l.toNat) (m.toNat - l.toNat)) E.w := fun a r m h1 h2 h3 h4 h5 h6 => by
          simp only [Instr.sliceAt, Sem.run_bind, run_underlying hu, Result.andThen_ok, Instr.sureAddr, Sem.run_pure, sliceBounds_run (isS := false) E.w hlo h1 h2 h3 h4 h5 h6, sizeOf, typeInfo, run_program, hie, hsz]
        split at hs
        · rename_i j p _
          split at hs
          · exact hs.elim
          · rename_i c hc
            obtain ⟨hp, hs⟩ := okq_okp p c _ hs
            split at hs
            · rename_i sz' n' f hsub
              split at hs
              · rename_i hb
                simp only [Bool.and_eq_true, Nat.beq_eq] at hb
                obtain ⟨rfl, rfl⟩ := hb
                obtain ⟨r, hs, hr⟩ := cutAt_get hs hh
                obtain ⟨m, hs, hm'⟩ := cutAt_get hs hm
                obtain ⟨hob, hk⟩ := hs
                obtain ⟨g1, g2, g3, g4⟩ := hob.out
                obtain ⟨h1, rfl⟩ := T_ref.1 hx
                have hm2 : (mx' = none ∧ m = n') ∨ ∃ k, mx' = some (.int k m) := hm'.imp (fun h => ⟨h.2.1, h.2.2⟩) (fun h => h.2)
                refine .mk _ _ (hrun _ r m (hhi hr) hm2 g1 g2 g3 g4) (T_sl.2 ⟨h1, _, _, rfl, by omega, Nat.le_refl _, ?_⟩) hk
                rcases hS.live j c ((hget_eq h j c).1 hc) with ⟨_, sz0, g, rfl⟩ | ⟨hvt, _, cs, t', hb, hle, hr'⟩
                · cases p with
                  | nil =>
                    simp only [sub, V.row.injEq] at hsub
                    obtain ⟨_, rfl, _⟩ := hsub
                    exact .inl (by omega)
                  | cons s p =>
                    rcases okp_cases hp with ⟨l, k, off, he, _⟩ | ⟨sz', n, f', k, he, _, hkn, _⟩
                    · cases he
                    · cases he; omega
                · by_cases hz : m.toNat = l.toNat
                  · exact .inl (by omega)
                  · refine .inr ⟨hvt, by rw [if_neg hz, Addr.add_mid], cs, t', _, hb, ?_⟩
                    have hfit := sub_fits p c hp E _ 0 hr'
                    rw [hsub] at hfit
                    simp only [vsize] at hfit
                    have : (l.toNat + (m.toNat - l.toNat)) * ei.sz ≤ ei.sz * n' := by
                      rw [Nat.mul_comm ei.sz]; exact Nat.mul_le_mul_right _ (by omega)
                    omega
              · exact hs.elim
            · exact hs.elim
        · rename_i b sz' n' f _
          split at hs
          · rename_i hb
            simp only [Bool.and_eq_true, Nat.beq_eq] at hb
            obtain ⟨hb, rfl⟩ := hb
            obtain ⟨r, hs, hr⟩ := cutAt_get hs hh
            split at hs
            · obtain ⟨hob, hk⟩ := hs
              obtain ⟨g1, g2, g3⟩ := hob.out
              obtain ⟨b', off, rfl, h5, h6⟩ := T_pim.1 hx
              simp only [R] at h6
              refine .mk _ _ (hrun _ r n' (hhi hr) (.inl ⟨hmx rfl, rfl⟩) g1 g2 (by omega) (by omega)) ?_ hk
              refine imm_cut h5 h6 (by omega) (by omega) (fun hne => ?_)
              rw [if_neg (by omega), Addr.add_mid, hb]
            · exact hs.elim
          · exact hs.elim
        · exact hs.elim
      · exact hs.elim
    · cases hT
  · exact hs.elim
end
end Go.DD

/- New variables, structs, rows. -/
namespace Go.DD
set_option linter.unusedVariables false
set_option linter.unusedSimpArgs false
open Go.RowKit

def hlen : List (Option V) → Nat | [] => 0 | _ :: l => hlen l + 1
theorem hlen_eq : ∀ (h : List (Option V)), hlen h = h.length | [] => rfl | _ :: l => by simp [hlen, hlen_eq l]
def hsnoc : List (Option V) → V → List (Option V) | [], v => [some v] | x :: l, v => x :: hsnoc l v
theorem hsnoc_eq : ∀ (h : List (Option V)) (v : V), hsnoc h v = h ++ [some v] | [], _ => rfl | _ :: l, v => by simp [hsnoc, hsnoc_eq l]

theorem hget_snoc {h : List (Option V)} {i : Nat} {c z : V} (hi : hget h i = some c) : hget (hsnoc h z) i = some c := by
  rw [hget_eq] at hi ⊢
  rw [hsnoc_eq, List.getElem?_append_left (List.getElem?_eq_some_iff.1 hi).1]
  exact hi
def allocD (tb : List (Option TI)) (t : Nat) (h : List (Option V)) (κ : V → List (Option V) → Prop) : Prop :=
  match getT tb t with
  | some i => κ (.ref (hlen h) []) (hsnoc h i.z)
  | none => False
def boxD (v : V) (h : List (Option V)) (κ : V → List (Option V) → Prop) : Prop :=
  match v.isAgg || v.one with
  | true => κ (.ref (hlen h) []) (hsnoc h v)
  | false => False
def fillS (tb : List (Option TI)) (fs : List (Nat × Nat)) (z0 : Vs) : List (Nat × V) → Vs → (Vs → Prop) → Prop
  | [], vs, κ => κ vs
  | (k, u) :: rest, vs, κ =>
    match fs[k]? with
    | none => False
    | some (off, ft) =>
      match getT tb ft with
      | none => False
      | some fi =>
        match Nat.blt k z0.len && Nat.beq (presz z0 k) off && Nat.beq (vsize (z0.get k)) fi.sz && fitB fi u with
        | true => fillS tb fs z0 rest (vs.set k u) κ
        | false => False
def partAtK : List (Nat × V) → Nat → V → V
  | [], _, d => d
  | (i, u) :: rest, k, d => if k = i then u else partAtK rest k d
def fillR (n : Nat) (ei : TI) : List (Nat × V) → Bool
  | [] => true
  | (i, u) :: rest => Nat.blt i n && fitB ei u && fillR n ei rest
def buildD (tb : List (Option TI)) (t : Nat) (parts : List (Nat × V)) (κ : V → Prop) : Prop :=
  match getT tb t with
  | some ⟨.st fs, _, _, .st z0⟩ => fillS tb fs z0 parts z0 fun vs => κ (.st vs)
  | some ⟨.arr n e, _, _, .row sz n' z⟩ =>
    match getT tb e with
    | some ei =>
      match Nat.beq sz ei.sz && Nat.beq n n' && fillR n ei parts with
      | true => κ (.row sz n fun k => partAtK parts.reverse k (z k))
      | false => False
    | none => False
  | _ => False
def buildSliceD (tb : List (Option TI)) (t n : Nat) (parts : List (Nat × V)) (h : List (Option V)) (κ : V → List (Option V) → Prop) : Prop :=
  match getT tb t with
  | some ⟨.slice e, _, _, _⟩ =>
    match getT tb e with
    | some ei =>
      match fillR n ei parts && Nat.ble (n * ei.sz) 16777216 with
      | true => κ (.sl (hlen h) [] ei.sz 0 n n) (hsnoc h (.row ei.sz n fun k => partAtK parts.reverse k ei.z))
      | false => False
    | none => False
  | _ => False

section
variable {P : Program} {tb : List (Option TI)} {E : Env}

theorem T_cells {v : V} {x : Value} (h : (v.isAgg || v.one) = true) (ht : T E v x) : x.cells.size = vsize v ∧ R E v (fun q => x.cells[q]?) 0 := by
  cases hagg : v.isAgg
  · have hone : v.one = true := by simpa [hagg] using h
    have hz : vsize v = 1 := by cases v <;> simp_all [V.one, vsize]
    obtain ⟨h1, h2⟩ := T_one hone ht
    have hc := cells_one h1
    refine ⟨by rw [hc, hz]; rfl, R_shift v _ _ 0 0 (fun q hq => ?_) h2⟩
    obtain rfl : q = 0 := by omega
    simp [hc]
  · obtain ⟨cs, rfl, h1, h2⟩ := T_agg hagg ht
    exact ⟨h1, h2⟩

theorem newVar_ok (hw : Wf E) {h : List (Option V)} (hs : SimH E h) {t : TypeId} {v : V} {x : Value} (hz : vsize v ≤ x.cells.size) (hr : R E v (fun q => x.cells[q]?) 0) {κ : V → List (Option V) → Prop} (hk : κ (.ref (hlen h) []) (hsnoc h v)) :
    ResH E κ ((do pure (.pointer (some (← newVar t x))) : Sem Value).run P E.w) := by
  refine ⟨.pointer (some ⟨E.w.heap.size, 0, none⟩), E.alloc (.cells x.cells t), .ref (hlen h) [], hsnoc h v, ?_, Env.ext_alloc hw _, Env.wf_alloc hw _, ?_, ?_, hk⟩
  · simp only [newVar, newRow, Sem.run_bind, run_newObj, Result.andThen_ok, Sem.run_pure]
    rfl
  · rw [hsnoc_eq]; exact alloc_ok hw hs hr hz
  · refine T_ref.2 ⟨?_, ?_⟩
    · rw [hlen_eq, hs.len]; simp [Env.alloc]
    · rw [hlen_eq, hs.len]; simp [Env.alloc, poff]

theorem allocD_ok (ht : TabOk P tb) (hw : Wf E) {h : List (Option V)} (hs : SimH E h) {t : Nat} {κ : V → List (Option V) → Prop} (hl : allocD tb t h κ) : ResH E κ ((Instr.alloc t true (.tuple #[])).run P E.w) := by
  unfold allocD at hl
  split at hl
  · rename_i i hg
    obtain ⟨f, z, hi, _, _, hz, hT, hzs⟩ := (ht.get hg).info
    have hrun : (Instr.alloc t true (.tuple #[])).run P E.w = (do pure (.pointer (some (← newVar t z))) : Sem Value).run P E.w := by
      simp only [Instr.alloc, zeroValue, typeInfo, Sem.run_bind, run_program, Result.andThen_ok, hi, hz, Sem.run_pure]
    rw [hrun]
    have hc := T_cells (E := E) (v := i.z) (x := z) (by
      have h1 := (ht.get hg).agg
      have h2 := (ht.get hg).one
      rw [h1, h2]; cases i.d.isAgg <;> rfl) (hT E)
    exact newVar_ok hw hs (by omega) hc.2 hl
  · exact hl.elim
theorem boxD_ok (hw : Wf E) {h : List (Option V)} (hs : SimH E h) {t : TypeId} {v : V} {x : Value} {κ : V → List (Option V) → Prop} (hl : boxD v h κ) (hx : T E v x) : ResH E κ ((Instr.box t x).run P E.w) := by
  unfold boxD at hl
  split at hl
  · rename_i hb
    have hc := T_cells hb hx
    exact newVar_ok hw hs (by omega) hc.2 hl
  · exact hl.elim

/-! ### Filling -/
theorem fold_set (off : Nat) : ∀ (l : List Value) (j : Nat) (cs : Array Value), off + j + l.length ≤ cs.size →
    ((l.zipIdx j).foldl (fun (cs : Array Value) (x : Value × Nat) => cs.setIfInBounds (off + x.2) x.1) cs).size = cs.size ∧
    ∀ q, ((l.zipIdx j).foldl (fun (cs : Array Value) (x : Value × Nat) => cs.setIfInBounds (off + x.2) x.1) cs)[q]? = if off + j ≤ q ∧ q < off + j + l.length then l[q - (off + j)]? else cs[q]?
  | [], j, cs, _ => ⟨rfl, fun q => by rw [if_neg (by simp)]; rfl⟩
  | v :: l, j, cs, h => by
    simp only [List.length_cons] at h
    have ih := fold_set off l (j + 1) (cs.setIfInBounds (off + j) v) (by simp; omega)
    simp only [List.zipIdx_cons, List.foldl_cons]
    refine ⟨by rw [ih.1]; simp, fun q => ?_⟩
    rw [ih.2 q]
    by_cases h1 : off + (j + 1) ≤ q ∧ q < off + (j + 1) + l.length
    · rw [if_pos h1, if_pos (by simp; omega)]
      rw [show q - (off + j) = (q - (off + (j + 1))) + 1 by omega]
      simp
    · rw [if_neg h1]
      by_cases h2 : q = off + j
      · subst h2
        rw [if_pos (by simp)]
        simp [Array.getElem?_setIfInBounds]
        omega
      · rw [if_neg (by simp; omega), Array.getElem?_setIfInBounds_ne (by omega)]

/-- One part put in. -/
def putPart (cells : Array Value) (off : Nat) (v : Value) : Array Value := v.cells.zipIdx.foldl (fun cs (c, j) => cs.setIfInBounds (off + j) c) cells
theorem putPart_spec {cells : Array Value} {off : Nat} {v : Value} (h : off + v.cells.size ≤ cells.size) : (putPart cells off v).size = cells.size ∧
    ∀ q, (putPart cells off v)[q]? = if off ≤ q ∧ q < off + v.cells.size then v.cells[q - off]? else cells[q]? := by
  have := fold_set off v.cells.toList 0 cells (by simpa using h)
  have e : putPart cells off v = (v.cells.toList.zipIdx 0).foldl (fun (cs : Array Value) (x : Value × Nat) => cs.setIfInBounds (off + x.2) x.1) cells := by
    unfold putPart
    rw [← Array.foldl_toList, Array.toList_zipIdx]
  rw [e]
  refine ⟨this.1, fun q => ?_⟩
  rw [this.2 q]
  simp
theorem fill_cons {place : Nat → Option (Nat × Nat)} {cells : Array Value} {i : Nat} {v : Value} {rest : List (Nat × Value)} {off size : Nat} (hp : place i = some (off, size)) (hs : v.cells.size = size) (hle : off + size ≤ cells.size) :
    Instr.fill place cells ((i, v) :: rest) = Instr.fill place (putPart cells off v) rest := by
  simp only [Instr.fill, hp, hs, ne_eq, not_true, decide_false, Bool.false_or, decide_eq_true_eq]
  rw [if_neg (by omega)]
  rfl

theorem Vs.len_set : ∀ (l : Vs) (k : Nat) (u : V), (l.set k u).len = l.len
  | .nil, k, u => by simp [Vs.set, Vs.len]
  | .cons v l, 0, u => by simp [Vs.set, Vs.len]
  | .cons v l, k + 1, u => by simp [Vs.set, Vs.len, Vs.len_set l k u]
theorem Vs.get_set : ∀ (l : Vs) (k j : Nat) (u : V), k < l.len → (l.set k u).get j = if j = k then u else l.get j
  | .nil, k, j, u, h => by simp [Vs.len] at h
  | .cons v l, 0, 0, u, _ => by simp [Vs.set, Vs.get]
  | .cons v l, 0, j + 1, u, _ => by simp [Vs.set, Vs.get]
  | .cons v l, k + 1, 0, u, _ => by simp [Vs.set, Vs.get]
  | .cons v l, k + 1, j + 1, u, h => by simpa [Vs.set, Vs.get] using Vs.get_set l k j u (by simpa [Vs.len] using h)
theorem presz_congr : ∀ (l l' : Vs) (k : Nat), l.len = l'.len → (∀ j, j < l.len → vsize (l.get j) = vsize (l'.get j)) → presz l k = presz l' k ∧ vsizes l = vsizes l'
  | .nil, .nil, k, _, _ => ⟨rfl, rfl⟩
  | .nil, .cons _ _, k, h, _ => by simp [Vs.len] at h
  | .cons _ _, .nil, k, h, _ => by simp [Vs.len] at h
  | .cons v l, .cons v' l', k, h, hj => by
    have h0 := hj 0 (by simp [Vs.len])
    simp only [Vs.get] at h0
    have ih := fun k => presz_congr l l' k (by simpa [Vs.len] using h) (fun j hlt => by simpa [Vs.get] using hj (j + 1) (by simp [Vs.len]; omega))
    refine ⟨?_, by simp only [vsizes, h0, (ih 0).2]⟩
    cases k with
    | zero => simp [presz]
    | succ k => simp only [presz, h0, (ih k).1]

/-- A part and its value. -/
def PartsT (E : Env) : List (Nat × V) → List (Nat × Value) → Prop
  | [], [] => True
  | (i, u) :: l, (j, x) :: m => i = j ∧ T E u x ∧ PartsT E l m
  | _, _ => False

theorem fillS_ok (ht : TabOk P tb) {fs : List (Nat × Nat)} {z0 : Vs} {place : Nat → Option (Nat × Nat)} (hplace : ∀ k off ft fi, fs[k]? = some (off, ft) → getT tb ft = some fi → place k = some (off, fi.sz)) :
    ∀ (parts : List (Nat × V)) (ps : List (Nat × Value)) (vs : Vs) (cells : Array Value) (κ : Vs → Prop), PartsT E parts ps → fillS tb fs z0 parts vs κ → vs.len = z0.len → (∀ j, j < z0.len → vsize (vs.get j) = vsize (z0.get j)) →
      vsizes z0 = cells.size → RL E vs (fun q => cells[q]?) 0 → ∃ cells' vs', Instr.fill place cells ps = some cells' ∧ κ vs' ∧ vs'.len = z0.len ∧ vsizes vs' = cells'.size ∧ cells'.size = cells.size ∧ RL E vs' (fun q => cells'[q]?) 0
  | [], ps, vs, cells, κ, hp, h, hl, hj, hz, hr => by
    cases ps with
    | cons x m => simp [PartsT] at hp
    | nil =>
      simp only [fillS] at h
      have := presz_congr vs z0 0 hl (fun j hjj => hj j (by omega))
      exact ⟨cells, vs, rfl, h, hl, by rw [this.2, hz], rfl, hr⟩
  | (k, u) :: rest, ps, vs, cells, κ, hp, h, hl, hj, hz, hr => by
    cases ps with
    | nil => simp [PartsT] at hp
    | cons y m =>
      obtain ⟨j, x⟩ := y
      simp only [PartsT] at hp
      obtain ⟨rfl, hu, hp⟩ := hp
      simp only [fillS] at h
      split at h
      · exact h.elim
      · rename_i off ft hfs
        split at h
        · exact h.elim
        · rename_i fi hg
          split at h
          · rename_i hb
            simp only [Bool.and_eq_true, Nat.beq_eq, Nat.blt_eq] at hb
            obtain ⟨⟨⟨b1, b2⟩, b3⟩, b4⟩ := hb
            obtain ⟨c1, c2, c3, c4, c5⟩ := cells_size b4 hu
            have hus : vsize u = fi.sz := by
              cases hd : fi.d.isAgg
              · have h1 := (ht.get hg).one
                have h2 := (ht.get hg).size
                rw [hd] at h1
                have h3 : vsize fi.z = 1 := by
                  generalize fi.z = y at h1
                  cases y <;> simp_all [V.one, vsize]
                rw [c5 hd]; omega
              · exact (c4 hd).symm
            have hcong := fun k => presz_congr vs z0 k hl (fun j hjj => hj j (by omega))
            have hle := presz_le vs k (by omega)
            have hvk : vsize (vs.get k) = vsize u := by rw [hj k b1, b3, hus]
            rw [(hcong k).1, (hcong 0).2, hz, hvk, b2] at hle
            have hsp := putPart_spec (cells := cells) (off := off) (v := x) (by omega)
            rw [fill_cons (hplace k off ft fi hfs hg) (by omega) (by omega)]
            have hset := RL_set vs k u (fun q => cells[q]?) (fun q => (putPart cells off x)[q]?) 0 (by omega) hvk.symm hr
              (fun q _ h2 h3 => by
                rw [hsp.2 q, if_neg]
                rw [(hcong k).1, b2] at h3
                omega)
              (by
                rw [(hcong k).1, b2, Nat.zero_add]
                exact R_shift u _ _ 0 off (fun q hq => by rw [hsp.2 (off + q), if_pos (by omega)]; simp) c3)
            have ih := fillS_ok ht hplace rest m (vs.set k u) (putPart cells off x) κ hp h (by rw [Vs.len_set, hl]) (fun j hjj => by
              rw [Vs.get_set _ _ _ _ (by omega)]
              split
              · rename_i e; subst e; rw [hus, b3]
              · exact hj j hjj) (by rw [hsp.1, hz]) hset
            obtain ⟨cells', vs', e1, e2, e3, e4, e5, e6⟩ := ih
            exact ⟨cells', vs', e1, e2, e3, e4, by rw [e5, hsp.1], e6⟩
          · exact h.elim

/-- What stands at a place of a row that is being filled. -/
theorem partAtK_snoc (l : List (Nat × V)) (i : Nat) (u : V) (k : Nat) (d : V) : partAtK ((i, u) :: l).reverse k d = partAtK l.reverse k (if k = i then u else d) := by
  have key : ∀ (a : List (Nat × V)) (d : V), partAtK (a ++ [(i, u)]) k d = partAtK a k (if k = i then u else d) := fun a => by
    induction a with
    | nil => intro d; simp [partAtK]
    | cons x a ih =>
      intro d
      obtain ⟨j, y⟩ := x
      simp only [List.cons_append, partAtK]
      split
      · rfl
      · exact ih d
  rw [List.reverse_cons]
  exact key _ _

theorem fillR_ok (ht : TabOk P tb) {e : Nat} {ei : TI} (hg : getT tb e = some ei) {n : Nat} :
    ∀ (parts : List (Nat × V)) (ps : List (Nat × Value)) (f : Nat → V) (cells : Array Value), PartsT E parts ps → fillR n ei parts = true → ei.sz * n = cells.size → R E (.row ei.sz n f) (fun q => cells[q]?) 0 →
      ∃ cells', Instr.fill (fun i => some (i * ei.sz, ei.sz)) cells ps = some cells' ∧ cells'.size = cells.size ∧ R E (.row ei.sz n fun k => partAtK parts.reverse k (f k)) (fun q => cells'[q]?) 0
  | [], ps, f, cells, hp, _, hz, hr => by
    cases ps with
    | cons x m => simp [PartsT] at hp
    | nil => exact ⟨cells, rfl, rfl, by simpa [partAtK] using hr⟩
  | (i, u) :: rest, ps, f, cells, hp, h, hz, hr => by
    cases ps with
    | nil => simp [PartsT] at hp
    | cons y m =>
      obtain ⟨j, x⟩ := y
      simp only [PartsT] at hp
      obtain ⟨rfl, hu, hp⟩ := hp
      simp only [fillR, Bool.and_eq_true, Nat.blt_eq] at h
      obtain ⟨⟨b1, b2⟩, b3⟩ := h
      obtain ⟨c1, c2, c3, c4, c5⟩ := cells_size b2 hu
      have hus : vsize u = ei.sz := by
        cases hd : ei.d.isAgg
        · have h1 := (ht.get hg).one
          have h2 := (ht.get hg).size
          rw [hd] at h1
          have h3 : vsize ei.z = 1 := by
            generalize ei.z = y at h1
            cases y <;> simp_all [V.one, vsize]
          rw [c5 hd]; omega
        · exact (c4 hd).symm
      have hle := row_le (sz := ei.sz) b1
      have hsp := putPart_spec (cells := cells) (off := i * ei.sz) (v := x) (by omega)
      rw [fill_cons (place := fun i => some (i * ei.sz, ei.sz)) rfl (by omega) (by omega)]
      simp only [R] at hr
      have hr' : R E (.row ei.sz n fun k => if k = i then u else f k) (fun q => (putPart cells (i * ei.sz) x)[q]?) 0 := by
        simp only [R]
        intro k hk
        by_cases hki : k = i
        · subst hki
          rw [if_pos rfl]
          exact ⟨hus, R_shift u _ _ 0 _ (fun q hq => by
            show (putPart cells (k * ei.sz) x)[0 + k * ei.sz + q]? = _
            rw [Nat.zero_add, hsp.2, if_pos (by omega)]; simp) c3⟩
        · rw [if_neg hki]
          refine ⟨(hr k hk).1, R_local (fun q h1 h2 => ?_) (hr k hk).2⟩
          rw [(hr k hk).1] at h2
          show (putPart cells (i * ei.sz) x)[q]? = cells[q]?
          rw [hsp.2 q, if_neg]
          rcases Nat.lt_or_gt_of_ne hki with hlt | hgt
          · have : k * ei.sz + ei.sz ≤ i * ei.sz := by rw [← Nat.succ_mul]; exact Nat.mul_le_mul_right _ hlt
            omega
          · have : i * ei.sz + ei.sz ≤ k * ei.sz := by rw [← Nat.succ_mul]; exact Nat.mul_le_mul_right _ hgt
            omega
      obtain ⟨cells', e1, e2, e3⟩ := fillR_ok ht hg rest m _ _ hp b3 (by rw [hsp.1, hz]) hr'
      refine ⟨cells', e1, by rw [e2, hsp.1], ?_⟩
      simp only [partAtK_snoc]
      exact e3

theorem sizes_run (w : World) : ∀ (l : List Field), (∀ f ∈ l, ∃ i, P.info? f.type = some i) →
    (l.mapM (m := Sem) fun f => do pure (f.offset, ← sizeOf f.type)).run P w = .ok (l.map fun f => (f.offset, P.cellsOf f.type)) w
  | [], _ => by simp
  | f :: l, h => by
    obtain ⟨i, hi⟩ := h f (by simp)
    have ih := sizes_run w l (fun g hg => h g (by simp [hg]))
    simp only [List.mapM_cons, Sem.run_bind, sizeOf, typeInfo, run_program, Result.andThen_ok, hi, Sem.run_pure, List.map_cons]
    have hc : P.cellsOf f.type = i.size := by simp [Program.cellsOf, hi]
    simp only [sizeOf, typeInfo] at ih
    rw [ih]
    simp [hc]

theorem buildD_ok (ht : TabOk P tb) {t : Nat} {parts : List (Nat × V)} {ps : Array (Nat × Value)} {κ : V → Prop} (hp : PartsT E parts ps.toList) (hl : buildD tb t parts κ) : ResP E κ ((Instr.build t ps).run P E.w) := by
  unfold buildD at hl
  split at hl
  · rename_i fs sz by_ z0 hg
    have hty := ht.get hg
    have hT := hty.td
    simp only [tdOk] at hT
    obtain ⟨g, z, hi, hsz, _, hz, hTz, hzs⟩ := hty.info
    split at hT
    · rename_i gs hu
      simp only [Bool.and_eq_true, beq_iff_eq] at hT
      obtain ⟨hT, hall⟩ := hT
      obtain ⟨zc, rfl, hz1, hz2⟩ := T_agg rfl (hTz E)
      simp only [R] at hz2
      simp only [vsize] at hz1
      have hplaces : (gs.mapM (m := Sem) fun f => do pure (f.offset, ← sizeOf f.type)).run P E.w = .ok (gs.map fun f => (f.offset, P.cellsOf f.type)) E.w := by
        rw [Array.mapM_eq_mapM_toList]
        have hf : ∀ f ∈ gs.toList, ∃ i, P.info? f.type = some i := fun f hf => by
          have := List.all_eq_true.1 hall f hf
          exact Option.isSome_iff_exists.1 this
        simp only [Sem.run_map, sizes_run E.w gs.toList hf, Result.andThen_ok]
        congr 1
        apply Array.ext'
        simp
      have hplace : ∀ k off ft fi, fs[k]? = some (off, ft) → getT tb ft = some fi → (gs.map fun f => (f.offset, P.cellsOf f.type))[k]? = some (off, fi.sz) := fun k off ft fi h1 h2 => by
        rw [← hT, List.getElem?_map, Option.map_eq_some_iff] at h1
        obtain ⟨f, h3, h4⟩ := h1
        cases h4
        obtain ⟨g', _, hi', hsz', _⟩ := (ht.get h2).info
        rw [Array.getElem?_map]
        have : gs[k]? = some f := by simpa using h3
        rw [this]
        simp [Program.cellsOf, hi', hsz']
      obtain ⟨cells', vs', e1, e2, e3, e4, e5, e6⟩ := fillS_ok ht (place := fun i => (gs.map fun f => (f.offset, P.cellsOf f.type))[i]?) hplace parts ps.toList z0 zc _ hp hl rfl (fun _ _ => rfl) hz1.symm hz2
      refine .mk (.agg cells') _ ?_ (T_mkAgg rfl (by simp only [vsize]; exact e4.symm) (by simp only [R]; exact e6)) e2
      simp only [Instr.build, Sem.run_bind, zeroValue, typeInfo, run_program, Result.andThen_ok, hi, hz, Sem.run_pure, run_underlying hu, hplaces, Value.cells, e1]
    · cases hT
  · rename_i n e sz' by_ sz n' z hg
    have hty := ht.get hg
    have hT := hty.td
    simp only [tdOk] at hT
    obtain ⟨g, zv, hi, hsz, _, hz, hTz, hzs⟩ := hty.info
    split at hT
    · rename_i m' e' hu
      simp only [Bool.and_eq_true, beq_iff_eq] at hT
      obtain ⟨rfl, rfl⟩ := hT
      split at hl
      · rename_i ei hge
        split at hl
        · rename_i hb
          simp only [Bool.and_eq_true, Nat.beq_eq] at hb
          obtain ⟨⟨rfl, rfl⟩, hb⟩ := hb
          obtain ⟨g', _, hi', hsz', _⟩ := (ht.get hge).info
          obtain ⟨zc, rfl, hz1, hz2⟩ := T_agg rfl (hTz E)
          simp only [vsize] at hz1
          obtain ⟨cells', e1, e2, e3⟩ := fillR_ok ht hge parts ps.toList z zc hp hb hz1.symm hz2
          refine .mk (.agg cells') _ ?_ (T_mkAgg rfl (by simp only [vsize]; rw [e2, hz1]) e3) hl
          simp only [Instr.build, Sem.run_bind, zeroValue, typeInfo, run_program, Result.andThen_ok, hi, hz, Sem.run_pure, run_underlying hu, sizeOf, hi', hsz', Value.cells, e1]
        · exact hl.elim
      · exact hl.elim
    · cases hT
  · exact hl.elim
end
end Go.DD

/- Rows that grow. -/
namespace Go.DD
set_option linter.unusedVariables false
set_option linter.unusedSimpArgs false
open Go.RowKit

/-- What a source of elements gives: how many, each of them. -/
def srcD (sz : Nat) (y : V) (h : List (Option V)) (κ : Nat → (Nat → V) → Prop) : Prop :=
  match y with
  | .imm _ sz' m g => match Nat.beq sz' sz with | true => κ m g | false => False
  | .emp => κ 0 (fun _ => .any)
  | .str s => match Nat.beq sz 1 with | true => κ s.length (fun k => .int .u8 (s.getD k 0).toNat) | false => False
  | .sl j p sz' lo m _ =>
    match hget h j with
    | some c => okq c p (match sub c p with
      | .row sz'' n f => match Nat.beq sz' sz && Nat.beq sz'' sz with
        | true => Ob (lo + m ≤ n) ∧ κ m (fun k => f (lo + k))
        | false => False
      | _ => False)
    | none => False
  | _ => False
def TD.srcOk : TD → Bool | .slice _ | .str => true | _ => false
/-- Behind the last element: the row grows, here or elsewhere. -/
def growD (ei : TI) (base : V) (m : Nat) (g : Nat → V) (h : List (Option V)) (κ : V → List (Option V) → Prop) : Prop :=
  match base with
  | .emp => Ob (m * ei.by_ ≤ 140737488355328 ∧ m ≤ 140737488355328) ∧ κ (.sl (hlen h) [] ei.sz 0 m m) (hsnoc h (.row ei.sz m g))
  | .sl i [] sz lo len _ =>
    match hget h i with
    | some (.row sz' n f) => match Nat.beq sz ei.sz && Nat.beq sz' ei.sz && Nat.beq lo 0 with
      | true => Ob (len = n) ∧ Ob ((n + m) * ei.by_ ≤ 140737488355328 ∧ n + m ≤ 140737488355328) ∧
          κ (.sl (hlen h) [] sz 0 (n + m) (n + m)) (hsnoc (h.set i none) (.row sz (n + m) fun k => if k < n then f k else g (k - n)))
      | false => False
    | _ => False
  | _ => False
/-- Where there is room. -/
def roomD (ei : TI) (base : V) (m : Nat) (g : Nat → V) (h : List (Option V)) (κ : V → List (Option V) → Prop) : Prop :=
  match base with
  | .sl i [] sz lo len cap =>
    match hget h i with
    | some (.row sz' n f) => match Nat.beq sz ei.sz && Nat.beq sz' ei.sz with
      | true => Ob (len + m ≤ cap ∧ lo + len + m ≤ n) ∧ κ (.sl i [] sz lo (len + m) cap) (h.set i (some (.row sz n fun k => if lo + len ≤ k ∧ k < lo + len + m then g (k - (lo + len)) else f k)))
      | false => False
    | _ => False
  | _ => False
def appendD (tb : List (Option TI)) (t tx : Nat) (base y : V) (h : List (Option V)) (κ : V → List (Option V) → Prop) : Prop :=
  match getT tb t, getT tb tx with
  | some ⟨.slice e, _, _, _⟩, some ti =>
    match ti.d.srcOk, getT tb e with
    | true, some ei => srcD ei.sz y h fun m g => growD ei base m g h κ ∨ roomD ei base m g h κ
    | _, _ => False
  | _, _ => False

section
variable {P : Program} {tb : List (Option TI)} {E : Env}

def cellList (c : Nat → Option Value) (o n : Nat) : List Value := (List.range n).map fun q => (c (o + q)).getD undef
theorem cellList_length (c : Nat → Option Value) (o n : Nat) : (cellList c o n).length = n := by simp [cellList]
theorem cellList_get {c : Nat → Option Value} {o n q : Nat} (hq : q < n) {x : Value} (hx : c (o + q) = some x) : (cellList c o n)[q]? = some x := by
  simp [cellList, hq, hx]
theorem rowcells {sz n : Nat} {f : Nat → V} {c : Nat → Option Value} {o : Nat} (h : ∀ k, k < n → vsize (f k) = sz ∧ R E (f k) c (o + k * sz)) : ∀ q, q < n * sz → ∃ x, c (o + q) = some x ∧ x.oneCell' = true := fun q hq => by
  refine R_one (.row sz n f) c o q (by simp only [R]; exact h) (by simp only [vsize]; rw [Nat.mul_comm]; exact hq)
theorem rowlist {sz n : Nat} {f : Nat → V} {c : Nat → Option Value} {o : Nat} (h : ∀ k, k < n → vsize (f k) = sz ∧ R E (f k) c (o + k * sz)) : ∀ k, k < n → vsize (f k) = sz ∧ R E (f k) (fun q => (cellList c o (n * sz))[q]?) (k * sz) := fun k hk => by
  refine ⟨(h k hk).1, R_shift (f k) c _ (o + k * sz) (k * sz) (fun q hq => ?_) (h k hk).2⟩
  rw [(h k hk).1] at hq
  have h1 : k * sz + sz ≤ n * sz := by rw [← Nat.succ_mul]; exact Nat.mul_le_mul_right _ hk
  obtain ⟨x, h2, _⟩ := rowcells h (k * sz + q) (by omega)
  show (cellList c o (n * sz))[k * sz + q]? = _
  rw [cellList_get (by omega) h2, Nat.add_assoc, h2]

theorem src_slice {tx : Nat} {sz : Nat} (hkind : (∃ e', P.underlying tx = some (.slice e')) ∨ P.underlying tx = some .string) (w : World) (a : Addr) (n c : Nat) (news : List Value) (hl : news.length = n * sz) (hnews : ∀ j u, news[j]? = some u → w.cell? (a.add j) = some u)
    (h1 : ∀ u ∈ news, u.oneCell' = true) : Src P sz tx (.slice (some a) n c) n news w :=
  ⟨hkind, fun _ => rfl, run_firstCells_some w sz n a n c news hl hnews, run_firstCells_some w.drew sz n a n c news hl (by simpa using hnews), hl, h1⟩
theorem src_nil {tx : Nat} {sz : Nat} (hkind : (∃ e', P.underlying tx = some (.slice e')) ∨ P.underlying tx = some .string) (w : World) (c : Nat) : Src P sz tx (.slice none 0 c) 0 [] w :=
  ⟨hkind, fun _ => rfl, run_firstCells_none w sz 0 0 c, run_firstCells_none w.drew sz 0 0 c, by simp, fun _ h => by cases h⟩

theorem srcD_ok (ht : TabOk P tb) (hw : Wf E) {h : List (Option V)} (hs : SimH E h) {sz : Nat} {tx : Nat} {ti : TI} (hg : getT tb tx = some ti) (hk : ti.d.srcOk = true) {y : V} {Y : Value} {κ : Nat → (Nat → V) → Prop} (hd : srcD sz y h κ) (hy : T E y Y) :
    ∃ m g news, κ m g ∧ Src P sz tx Y m news E.w ∧ ∀ k, k < m → vsize (g k) = sz ∧ R E (g k) (fun q => news[q]?) (k * sz) := by
  have hT := (ht.get hg).td
  have hkind : (∃ e', P.underlying tx = some (.slice e')) ∨ P.underlying tx = some .string := by
    cases hd' : ti.d <;> rw [hd'] at hk hT <;> simp [TD.srcOk] at hk <;> simp only [tdOk] at hT
    · split at hT
      · exact .inr ‹_›
      · cases hT
    · split at hT
      · exact .inl ⟨_, ‹_›⟩
      · cases hT
  have hslice : ∀ (A : Option Addr) (m cp : Nat) (g : Nat → V), Y = .slice A m cp → κ m g → (m = 0 ∨ ∃ b off, A = some ⟨b, off, none⟩ ∧ ∀ k, k < m → vsize (g k) = sz ∧ R E (g k) (cellsAt E.w b) (off + k * sz)) →
      ∃ m g news, κ m g ∧ Src P sz tx Y m news E.w ∧ ∀ k, k < m → vsize (g k) = sz ∧ R E (g k) (fun q => news[q]?) (k * sz) := fun A m cp g hY hk hr => by
    subst hY
    rcases hr with rfl | ⟨b, off, rfl, hr⟩
    · refine ⟨0, g, [], hk, ?_, fun k hk => absurd hk (by omega)⟩
      cases A with
      | none => exact src_nil hkind E.w cp
      | some a => exact src_slice hkind E.w a 0 cp [] (by simp) (by simp) (by simp)
    · refine ⟨m, g, cellList (cellsAt E.w b) off (m * sz), hk, src_slice hkind E.w _ m cp _ (cellList_length _ _ _) (fun j u hj => ?_) (fun u hu' => ?_), rowlist hr⟩
      · have hlt : j < m * sz := by
          have := (List.getElem?_eq_some_iff.1 hj).1
          rwa [cellList_length] at this
        obtain ⟨x, h1, _⟩ := rowcells hr j hlt
        rw [cellList_get hlt h1] at hj
        cases hj
        rw [Addr.add_mid]; exact h1
      · obtain ⟨q, hq, rfl⟩ := List.mem_map.1 hu'
        obtain ⟨x, h1, h2⟩ := rowcells hr q (List.mem_range.1 hq)
        rw [h1]; exact h2
  unfold srcD at hd
  split at hd
  · rename_i l sz' m g
    split at hd
    · rename_i hb
      simp only [Nat.beq_eq] at hb
      subst hb
      obtain ⟨A, cp, rfl, h1, h2⟩ := T_imm.1 hy
      exact hslice A m cp g rfl hd (h2.imp id fun ⟨b, off, h3, _, h4⟩ => ⟨b, off, h3, fun k hk => ⟨(h4 k hk).1, R_bare hw (h4 k hk).2⟩⟩)
    · exact hd.elim
  · obtain ⟨A, rfl⟩ := T_emp.1 hy
    exact hslice A 0 0 _ rfl hd (.inl rfl)
  · rename_i s
    split at hd
    · rename_i hb
      simp only [Nat.beq_eq] at hb
      subst hb
      obtain rfl := T_str.1 hy
      have hlen : (ByteArray.mk s.toArray).size = s.length := by simp [ByteArray.size]
      refine ⟨s.length, _, byteCells ⟨s.toArray⟩, hd, ⟨hkind, fun w => by simp [Builtin.lenOf, hlen], ?_, ?_, by rw [byteCells_length, hlen, Nat.mul_one], fun u hu => ?_⟩, fun k hk => ⟨rfl, ?_⟩⟩
      · have := firstCells_string (P := P) ⟨s.toArray⟩ E.w
        rwa [hlen] at this
      · have := firstCells_string (P := P) ⟨s.toArray⟩ E.w.drew
        rwa [hlen] at this
      · obtain ⟨_, _, rfl⟩ := List.mem_map.1 hu
        rfl
      · simp only [R, Nat.mul_one, byteCells, List.getElem?_map]
        rw [List.getElem?_eq_getElem hk]
        simp [hk]
    · exact hd.elim
  · rename_i j p sz' lo m _
    split at hd
    · rename_i c hc
      obtain ⟨hp, hd2⟩ := okq_okp p c _ hd
      clear hd
      split at hd2
      · rename_i sz'' n f hsub
        split at hd2
        · rename_i hb
          simp only [Bool.and_eq_true, Nat.beq_eq] at hb
          obtain ⟨rfl, rfl⟩ := hb
          obtain ⟨hle, hd2⟩ := hd2
          have hle := hle.out
          obtain ⟨h1, A, cp, rfl, h2, h3, h4⟩ := T_sl.1 hy
          refine hslice A m cp _ rfl hd2 ?_
          rcases h4 with h4 | ⟨hvt, rfl, cs, t, fr, hb, _⟩
          · exact .inl (by omega)
          · rcases hs.live j c ((hget_eq h j c).1 hc) with ⟨h5, _⟩ | ⟨_, _, cs', t', hb', _, hr⟩
            · rw [h5] at hvt; cases hvt
            · refine .inr ⟨_, _, rfl, fun k hk => ?_⟩
              have hr' : R E c (cellsAt E.w (E.ρ j)) 0 := by
                have : cellsAt E.w (E.ρ j) = fun q => cs'[q]? := by funext q; simp [cellsAt, World.cell?, hb']
                rw [this]; exact hr
              have h6 := R_sub p c _ 0 hp hr'
              rw [Nat.zero_add, hsub] at h6
              simp only [R] at h6
              have := h6 (lo + k) (by omega)
              refine ⟨this.1, ?_⟩
              have h7 := this.2
              rw [Nat.add_mul, ← Nat.add_assoc] at h7
              exact h7
        · exact hd2.elim
      · exact hd2.elim
    · exact hd.elim
  · exact hd.elim

/-- A new block behind an index of its own, in the place of a forgotten one. -/
theorem grown_new (hw : Wf E) {h : List (Option V)} (hs : SimH E h) {cs : Array Value} {t : TypeId} {v : V} (hv : R E v (fun q => cs[q]?) 0) (hz : vsize v ≤ cs.size) :
    Ext E (E.alloc (.cells cs t)) ∧ Wf (E.alloc (.cells cs t)) ∧ SimH (E.alloc (.cells cs t)) (hsnoc h v) :=
  ⟨Env.ext_alloc hw _, Env.wf_alloc hw _, by rw [hsnoc_eq]; exact alloc_ok hw hs hv hz⟩

/-- A row that grew where it was has an index of its own, too. -/
def Env.again (E : Env) (w' : World) (i : Nat) : Env := { E with w := w', ρ := fun k => if k = E.N then E.ρ i else E.ρ k, vt := fun k => if k = E.N then false else E.vt k, N := E.N + 1 }

theorem again_ok {h : List (Option V)} {w' : World} {i : Nat} {v v' : V} {cs cs' : Array Value} {t : TypeId} (hw : Wf E) (hs : SimH E h) (hi : h[i]? = some (some v)) (hvt : E.vt i = false)
    (hb : E.w.heap[E.ρ i]? = some (.cells cs t (0, 0))) (hk : ¬ E.K (E.ρ i)) (hsz : cs'.size = cs.size) (hwr : Wrote E.w w' (E.ρ i) cs' t) (hv : R E v' (fun q => cs'[q]?) 0) (hz : vsize v' ≤ cs'.size) :
    Ext E (E.again w' i) ∧ Wf (E.again w' i) ∧ SimH (E.again w' i) (hsnoc (h.set i none) v') := by
  have hiN : i < E.N := hs.lt hi
  have hx1 := Wrote.ext hb hk hsz hwr
  have hx : Ext E (E.again w' i) :=
    { hx1 with N := Nat.le_succ _, ρ := fun j hj => by simp only [Env.again]; rw [if_neg (by omega)], vt := fun j hj => by simp only [Env.again]; rw [if_neg (by omega)] }
  have hwf : Wf (E.again w' i) := ⟨hw.S, hw.L, fun c hc => by have := hw.K c hc; simp only [Env.again, hwr.size]; exact this⟩
  refine ⟨hx, hwf, ?_⟩
  rw [hsnoc_eq]
  have hlen : (h.set i none).length = E.N := by simpa using hs.len
  have old : ∀ j u, (h.set i none)[j]? = some (some u) → j ≠ i ∧ h[j]? = some (some u) ∧ j < E.N := fun j u hj => by
    rw [List.getElem?_set] at hj
    split at hj
    · split at hj <;> simp at hj
    · rename_i e
      exact ⟨fun e' => e e'.symm, hj, hs.lt hj⟩
  have get : ∀ j u, ((h.set i none) ++ [some v'])[j]? = some (some u) → (j = E.N ∧ u = v') ∨ (j < E.N ∧ j ≠ i ∧ h[j]? = some (some u)) := fun j u hj => by
    rw [List.getElem?_append] at hj
    split at hj
    · obtain ⟨h1, h2, h3⟩ := old j u hj
      exact .inr ⟨h3, h1, h2⟩
    · rename_i hlt
      have h1 := (List.getElem?_eq_some_iff.1 hj).1
      simp only [List.length_singleton] at h1
      rw [hlen] at h1 hlt hj
      have : j = E.N := by omega
      subst this
      simp at hj
      exact .inl ⟨rfl, hj.symm⟩
  refine ⟨by simp [Env.again, hs.len], fun j u hj => ?_, fun j k u u' hj hk' hne h1 h2 => ?_⟩
  · rcases get j u hj with ⟨rfl, rfl⟩ | ⟨h1, h2, h3⟩
    · refine .inr ⟨by simp [Env.again], ?_, cs', t, ?_, hz, R_ext hw hx _ _ _ hv⟩
      · simp only [Env.again, if_true]; exact hk
      · simp only [Env.again, if_true]; exact hwr.here
    · refine (hs.live j u h3).ext hw hx h1 (fun h _ => h) (fun hvj => hwr.other _ (hs.inj j i u v h3 hi h2 hvj hvt))
  · rcases get j u hj with ⟨rfl, rfl⟩ | ⟨a1, a2, a3⟩ <;> rcases get k u' hk' with ⟨rfl, rfl⟩ | ⟨b1, b2, b3⟩
    · exact absurd rfl hne
    · simp only [Env.again, if_true] at h2 ⊢
      rw [if_neg (by omega)] at h2 ⊢
      exact fun e => hs.inj k i u' v b3 hi b2 h2 hvt e.symm
    · simp only [Env.again, if_true] at h1 ⊢
      rw [if_neg (by omega)] at h1 ⊢
      exact hs.inj j i u v a3 hi a2 h1 hvt
    · simp only [Env.again] at h1 h2 ⊢
      rw [if_neg (by omega)] at h1 h2 ⊢
      rw [if_neg (by omega)]
      exact hs.inj j k u u' a3 b3 hne h1 h2

theorem setCells_eq {w : World} {b o : Nat} {cs : Array Value} {t : TypeId} {vs : List Value} (hb : w.heap[b]? = some (.cells cs t (0, 0))) (hl : o + vs.length ≤ cs.size) (h1 : ∀ v ∈ vs, v.oneCell' = true) : w.setCells b o vs = w.setRow b (putRow cs o vs) := by
  have e1 := run_storeCells_at (P := default) b o t vs 0 cs w hb (by simpa using hl) h1
  have e2 := run_storeCells_cells (P := default) b o vs 0 w (fun j hj => by
    have : w.cell? ⟨b, o + j, none⟩ = cs[o + j]? := by simp [World.cell?, hb]
    simp only [Nat.add_zero, this, Array.getElem?_eq_getElem (show o + j < cs.size by omega), Option.isSome_some]) (fun j hj => by simp [World.frozen?, hb]) h1
  rw [e1] at e2
  simp only [Nat.add_zero] at e2
  injection e2 with _ e2
  exact e2.symm

/-- A row of elements at the begin of a row of cells. -/
theorem R_row_cells {sz n m : Nat} {f g : Nat → V} {olds news rest : List Value} (ho : olds.length = n * sz) (hn : news.length = m * sz) (hf : ∀ k, k < n → vsize (f k) = sz ∧ R E (f k) (fun q => olds[q]?) (k * sz))
    (hg : ∀ k, k < m → vsize (g k) = sz ∧ R E (g k) (fun q => news[q]?) (k * sz)) : R E (.row sz (n + m) fun k => if k < n then f k else g (k - n)) (fun q => (olds ++ news ++ rest).toArray[q]?) 0 := by
  simp only [R]
  intro k hk
  by_cases hkn : k < n
  · rw [if_pos hkn]
    have h1 : k * sz + sz ≤ n * sz := by rw [← Nat.succ_mul]; exact Nat.mul_le_mul_right _ hkn
    refine ⟨(hf k hkn).1, R_shift (f k) _ _ (k * sz) _ (fun q hq => ?_) (hf k hkn).2⟩
    rw [(hf k hkn).1] at hq
    simp only [List.getElem?_toArray, Nat.zero_add]
    rw [List.append_assoc, List.getElem?_append_left (by omega)]
  · rw [if_neg hkn]
    have hkm : k - n < m := by omega
    have h1 : (k - n) * sz + sz ≤ m * sz := by rw [← Nat.succ_mul]; exact Nat.mul_le_mul_right _ hkm
    have h2 : k * sz = n * sz + (k - n) * sz := by rw [← Nat.add_mul]; congr 1; omega
    refine ⟨(hg _ hkm).1, R_shift (g (k - n)) _ _ ((k - n) * sz) _ (fun q hq => ?_) (hg _ hkm).2⟩
    rw [(hg _ hkm).1] at hq
    simp only [List.getElem?_toArray, Nat.zero_add]
    rw [List.append_assoc, List.getElem?_append_right (by omega), List.getElem?_append_left (by omega)]
    congr 1
    omega

theorem grownCap_ge (w : World) (need old : Nat) (e : TypeId) : need ≤ grownCap w need old e := by
  unfold grownCap
  simp only [Question.cut]
  omega

/-- What a new row behind an append is. -/
theorem newrow_ok (hw : Wf E) {h : List (Option V)} (hs : SimH E h) {e : Nat} {ei : TI} {z : Value} (hz : z.cells.size = ei.sz) {n m sCap : Nat} {f g : Nat → V} {olds news : List Value} (ho : olds.length = n * ei.sz) (hn : news.length = m * ei.sz)
    (hf : ∀ k, k < n → vsize (f k) = ei.sz ∧ R E (f k) (fun q => olds[q]?) (k * ei.sz)) (hg : ∀ k, k < m → vsize (g k) = ei.sz ∧ R E (g k) (fun q => news[q]?) (k * ei.sz)) {r : Result Value}
    (hr : r = .ok (.slice (some ⟨E.w.heap.size, 0, none⟩) (n + m) (grownCap E.w (n + m) sCap e)) (E.w.drew.alloc (.cells ((olds ++ news).toArray ++ Builtin.zeroCells z.cells (grownCap E.w (n + m) sCap e - (n + m))) e)))
    {κ : V → List (Option V) → Prop} (hk : κ (.sl (hlen h) [] ei.sz 0 (n + m) (n + m)) (hsnoc h (.row ei.sz (n + m) fun k => if k < n then f k else g (k - n)))) : ResH E κ r := by
  have hx := E.ext_drew
  have hwd := Env.wf_drew hw
  have hsd := drew_ok hw hs
  let cells := (olds ++ news).toArray ++ Builtin.zeroCells z.cells (grownCap E.w (n + m) sCap e - (n + m))
  have hcells : cells = (olds ++ news ++ (Builtin.zeroCells z.cells (grownCap E.w (n + m) sCap e - (n + m))).toList).toArray := by
    simp [cells]
  have hzc : (Builtin.zeroCells z.cells (grownCap E.w (n + m) sCap e - (n + m))).size = (grownCap E.w (n + m) sCap e - (n + m)) * ei.sz := by
    simp [Builtin.zeroCells, hz]
  have hge' := grownCap_ge E.w (n + m) sCap e
  have hsize : cells.size = grownCap E.w (n + m) sCap e * ei.sz := by
    simp only [cells, Array.size_append, List.size_toArray, List.length_append, ho, hn, hzc]
    rw [← Nat.add_mul, ← Nat.add_mul]
    congr 1
    omega
  have hR : R E.drew (.row ei.sz (n + m) fun k => if k < n then f k else g (k - n)) (fun q => cells[q]?) 0 := by
    rw [hcells]
    exact R_row_cells ho hn (fun k hk => ⟨(hf k hk).1, R_ext hw hx _ _ _ (hf k hk).2⟩) (fun k hk => ⟨(hg k hk).1, R_ext hw hx _ _ _ (hg k hk).2⟩)
  have hvs : vsize (.row ei.sz (n + m) fun k => if k < n then f k else g (k - n)) ≤ cells.size := by
    simp only [vsize]
    rw [hsize, Nat.mul_comm]
    exact Nat.mul_le_mul_right _ hge'
  obtain ⟨g1, g2, g3⟩ := grown_new (t := e) hwd hsd hR hvs
  refine ⟨_, E.drew.alloc (.cells cells e), _, _, hr, hx.trans g1, g2, g3, T_sl.2 ⟨?_, some ⟨E.w.heap.size, 0, none⟩, grownCap E.w (n + m) sCap e, rfl, Nat.le_refl _, hge', .inr ⟨?_, ?_, cells, e, (0, 0), ?_, ?_⟩⟩, hk⟩
  · rw [hlen_eq, hs.len]; simp [Env.alloc, Env.drew]
  · rw [hlen_eq, hs.len]; simp [Env.alloc, Env.drew]
  · rw [hlen_eq, hs.len]; simp [Env.alloc, Env.drew, poff]
  · rw [hlen_eq, hs.len]
    simp only [Env.alloc, Env.drew, if_true]
    exact World.heap_alloc_new _ _
  · simp only [poff, Nat.zero_add]; rw [hsize]; exact Nat.le_refl _

theorem firstCells_zero (size : Nat) (A : Option Addr) (c : Nat) (w : World) : (Builtin.firstCells size 0 (.slice A 0 c)).run P w = .ok (#[] : Array Value) w := by
  cases A with
  | none => exact run_firstCells_none w size 0 0 c
  | some a => exact run_firstCells_some w size 0 a 0 c [] (by simp) (by simp)

theorem growD_ok (ht : TabOk P tb) (hw : Wf E) {h : List (Option V)} (hs : SimH E h) {t e tx ty : Nat} {ei : TI} (hu : P.underlying t = some (.slice e)) (hge : getT tb e = some ei) {m : Nat} {g : Nat → V} {news : List Value} {Y B : Value} {base : V} {κ : V → List (Option V) → Prop}
    (hsrc : Src P ei.sz tx Y m news E.w) (hg : ∀ k, k < m → vsize (g k) = ei.sz ∧ R E (g k) (fun q => news[q]?) (k * ei.sz)) (hB : T E base B) (hd : growD ei base m g h κ) :
    ResH E κ ((Builtin.append_ #[t, tx] ty #[B, Y]).run P E.w) := by
  obtain ⟨i, z, hi, hsz, hby, hz, _, hzs⟩ := (ht.get hge).info
  have hsrc' : Src P i.size tx Y m news E.w := by rw [hsz]; exact hsrc
  have hnl : news.length = m * ei.sz := hsrc.newsLen
  -- nothing stands there, and there is no room
  have nothing : ∀ (A : Option Addr) (h0 : List (Option V)), SimH E h0 → hlen h0 = hlen h → B = .slice A 0 0 → m * ei.by_ ≤ 140737488355328 → m ≤ 140737488355328 → ∀ f : Nat → V, (∀ k, k < m → f k = g k) → κ (.sl (hlen h0) [] ei.sz 0 m m) (hsnoc h0 (.row ei.sz m f)) → ResH E κ ((Builtin.append_ #[t, tx] ty #[B, Y]).run P E.w) := fun A h0 hs0 _ hB hb1 hb2 f hfg hk => by
    subst hB
    rcases Nat.eq_zero_or_pos m with rfl | hm
    · have hnil : news = [] := List.eq_nil_of_length_eq_zero (by rw [hnl, Nat.zero_mul])
      subst hnil
      refine ⟨.slice A 0 0, E.valloc, _, _, run_append_nothing E.w t tx ty e i hu hi A 0 0 (Nat.le_refl _) Y hsrc', Env.ext_valloc, Env.wf_valloc hw, by rw [hsnoc_eq]; exact valloc_ok hw hs0 ei.sz f, T_sl.2 ⟨?_, A, 0, rfl, Nat.le_refl _, Nat.le_refl _, .inl rfl⟩, hk⟩
      rw [hlen_eq, hs0.len]; simp [Env.valloc]
    · have hrun := run_append_grow_src E.w t tx ty e i z hu hi hz A 0 0 [] (firstCells_zero i.size A 0 E.w.drew) Y m news hsrc' (by omega) (by omega) (growslice_fits (by omega) (by rw [hby, Nat.zero_add]; exact hb1))
      refine newrow_ok hw hs0 hzs (n := 0) (f := f) (g := f) (olds := []) (by simp) hnl (fun k hk => absurd hk (by omega)) (fun k hk => by rw [hfg k hk]; exact hg k hk) hrun ?_
      simpa using hk
  unfold growD at hd
  split at hd
  · obtain ⟨hob, hk⟩ := hd
    obtain ⟨A, hBA⟩ := T_emp.1 hB
    exact nothing A h hs rfl hBA hob.out.1 hob.out.2 g (fun _ _ => rfl) hk
  · rename_i j sz lo len cap
    split at hd
    · rename_i sz' n f hc
      split at hd
      · rename_i hb
        simp only [Bool.and_eq_true, Nat.beq_eq] at hb
        obtain ⟨⟨rfl, rfl⟩, rfl⟩ := hb
        obtain ⟨hlen', hob, hk⟩ := hd
        obtain rfl : n = len := hlen'.out.symm
        obtain ⟨hb1, hb2⟩ := hob.out
        obtain ⟨hjN, A, cp, rfl, h2, h3, h4⟩ := T_sl.1 hB
        have hcj := (hget_eq h j _).1 hc
        have hlenset : hlen (h.set j none) = hlen h := by rw [hlen_eq, hlen_eq]; simp
        rcases Nat.eq_zero_or_pos cp with rfl | hcp
        · have hn0 : n = 0 := by omega
          subst hn0
          refine nothing A (h.set j none) (hs.forget j) hlenset rfl (by simpa using hb1) (by simpa using hb2) (fun k => if k < 0 then f k else g (k - 0)) (fun k hk => by simp) ?_
          rw [hlenset]
          simpa using hk
        · rcases h4 with h4 | ⟨hvt, rfl, cs0, t0, fr, hcs0, hbound⟩
          · omega
          · rcases hs.live j _ hcj with ⟨h5, _⟩ | ⟨_, hnk, cs, t', hbk, hle, hr⟩
            · rw [h5] at hvt; cases hvt
            · have e1 := hbk.symm.trans hcs0
              injection e1 with e1
              injection e1 with e1 e2 e3
              subst e1
              simp only [poff, Nat.zero_add, Nat.zero_mul, Nat.add_zero] at hbound ⊢
              simp only [R] at hr
              have hca : cellsAt E.w (E.ρ j) = fun q => cs[q]? := by funext q; simp [cellsAt, World.cell?, hbk]
              by_cases hroom : n + m ≤ cp
              · -- here
                have hfit : n * ei.sz + news.length ≤ cs.size := by
                  rw [hnl, ← Nat.add_mul]
                  exact Nat.le_trans (Nat.mul_le_mul_right _ hroom) hbound
                have hrun := run_append_room_src E.w t tx ty e i hu hi (E.ρ j) 0 n cp Y m news hsrc' hroom (fun q hq => by
                  have : E.w.cell? ⟨E.ρ j, 0 + n * i.size + q, none⟩ = cs[0 + n * i.size + q]? := by simp [World.cell?, hbk]
                  rw [hsz] at this ⊢
                  simp only [this, Array.getElem?_eq_getElem (show 0 + n * ei.sz + q < cs.size by omega), Option.isSome_some]) (fun q hq => by simp [World.frozen?, hbk])
                rw [hsz, Nat.zero_add, setCells_eq hbk hfit hsrc.one] at hrun
                have hwr : Wrote E.w (E.w.setRow (E.ρ j) (putRow cs (n * ei.sz) news)) (E.ρ j) (putRow cs (n * ei.sz) news) t' := Wrote.setRow hbk
                have hps := putRow_size hfit
                have hR : R E (.row ei.sz (n + m) fun k => if k < n then f k else g (k - n)) (fun q => (putRow cs (n * ei.sz) news)[q]?) 0 := by
                  have hn' : (cs.toList.take (n * ei.sz)).length = n * ei.sz := by simp; omega
                  refine R_row_cells (rest := cs.toList.drop (n * ei.sz + news.length)) hn' hnl (fun k hk => ⟨(hr k hk).1, ?_⟩) hg
                  have h6 : k * ei.sz + ei.sz ≤ n * ei.sz := by rw [← Nat.succ_mul]; exact Nat.mul_le_mul_right _ hk
                  refine R_shift (f k) _ _ (0 + k * ei.sz) _ (fun q hq => ?_) (hr k hk).2
                  rw [(hr k hk).1] at hq
                  simp only [Nat.zero_add, List.getElem?_take]
                  rw [if_pos (by omega)]
                  simp
                obtain ⟨g1, g2, g3⟩ := again_ok hw hs hcj hvt hbk hnk hps hwr hR (by simp only [vsize]; rw [hps, Nat.mul_comm]; exact Nat.le_trans (Nat.mul_le_mul_right _ hroom) hbound)
                refine ⟨_, _, _, _, hrun, g1, g2, g3, T_sl.2 ⟨?_, some ⟨E.ρ j, 0, none⟩, cp, rfl, Nat.le_refl _, hroom, .inr ⟨?_, ?_, putRow cs (n * ei.sz) news, t', (0, 0), ?_, ?_⟩⟩, hk⟩
                · rw [hlen_eq, hs.len]; simp [Env.again]
                · rw [hlen_eq, hs.len]; simp [Env.again]
                · rw [hlen_eq, hs.len]; simp [Env.again, poff]
                · rw [hlen_eq, hs.len]; simp only [Env.again, if_true]; exact hwr.here
                · simp only [poff, Nat.zero_add]; rw [hps]; exact hbound
              · -- elsewhere
                have hold : n * ei.sz ≤ cs.size := Nat.le_trans (Nat.mul_le_mul_right _ (by omega)) hbound
                have hf' : ∀ k, k < n → vsize (f k) = ei.sz ∧ R E (f k) (cellsAt E.w (E.ρ j)) (0 + k * ei.sz) := fun k hk => by rw [hca]; exact hr k hk
                have hrun := run_append_grow_src E.w t tx ty e i z hu hi hz (some ⟨E.ρ j, 0, none⟩) n cp (cellList (cellsAt E.w (E.ρ j)) 0 (n * ei.sz)) (by
                  refine run_firstCells_some E.w.drew i.size n _ n cp _ (by rw [cellList_length, hsz]) (fun q v hq => ?_)
                  have hlt : q < n * ei.sz := by
                    have := (List.getElem?_eq_some_iff.1 hq).1
                    rwa [cellList_length] at this
                  obtain ⟨x, h1, _⟩ := rowcells hf' q hlt
                  rw [cellList_get hlt h1] at hq
                  cases hq
                  rw [Addr.add_mid]; exact h1) Y m news hsrc' (by omega) (by omega) (growslice_fits (by omega) (by rw [hby]; exact hb1))
                refine newrow_ok hw (hs.forget j) hzs (n := n) (f := f) (g := g) (cellList_length _ _ _) hnl (rowlist hf') hg hrun ?_
                rw [hlenset]
                exact hk
      · exact hd.elim
    · exact hd.elim
  · exact hd.elim
end
end Go.DD

/- Append, copy, conversions, lengths, and the rest that an operation may be. -/
namespace Go.DD
set_option linter.unusedVariables false
set_option linter.unusedSimpArgs false
open Go.RowKit
section
variable {P : Program} {tb : List (Option TI)} {E : Env}

theorem SimH.replace {h : List (Option V)} (hs : SimH E h) {i : Nat} {v v' : V} (hi : h[i]? = some (some v)) (hl : Live E v' i) : SimH E (h.set i (some v')) where
  len := by simpa using hs.len
  live := fun j u hj => by
    rw [List.getElem?_set] at hj
    split at hj
    · rename_i e
      split at hj
      · simp at hj; subst hj; subst e; exact hl
      · cases hj
    · exact hs.live j u hj
  inj := fun j k u u' hj hk => by
    have keep : ∀ j u, (h.set i (some v'))[j]? = some (some u) → ∃ u', h[j]? = some (some u') := fun j u hj => by
      rw [List.getElem?_set] at hj
      split at hj
      · rename_i e; subst e; exact ⟨v, hi⟩
      · exact ⟨u, hj⟩
    obtain ⟨a, ha⟩ := keep j u hj
    obtain ⟨b, hb⟩ := keep k u' hk
    exact hs.inj j k a b ha hb

theorem roomD_ok (ht : TabOk P tb) (hw : Wf E) {h : List (Option V)} (hs : SimH E h) {t e tx ty : Nat} {ei : TI} (hu : P.underlying t = some (.slice e)) (hge : getT tb e = some ei) {m : Nat} {g : Nat → V} {news : List Value} {Y B : Value} {base : V} {κ : V → List (Option V) → Prop}
    (hsrc : Src P ei.sz tx Y m news E.w) (hg : ∀ k, k < m → vsize (g k) = ei.sz ∧ R E (g k) (fun q => news[q]?) (k * ei.sz)) (hB : T E base B) (hd : roomD ei base m g h κ) :
    ResH E κ ((Builtin.append_ #[t, tx] ty #[B, Y]).run P E.w) := by
  obtain ⟨i, z, hi, hsz, hby, hz, _, hzs⟩ := (ht.get hge).info
  have hsrc' : Src P i.size tx Y m news E.w := by rw [hsz]; exact hsrc
  have hnl : news.length = m * ei.sz := hsrc.newsLen
  unfold roomD at hd
  split at hd
  · rename_i j sz lo len cap
    split at hd
    · rename_i sz' n f hc
      split at hd
      · rename_i hb
        simp only [Bool.and_eq_true, Nat.beq_eq] at hb
        obtain ⟨rfl, rfl⟩ := hb
        obtain ⟨hob, hk⟩ := hd
        obtain ⟨hb1, hb2⟩ := hob.out
        obtain ⟨hjN, A, cp, rfl, h2, h3, h4⟩ := T_sl.1 hB
        have hcj := (hget_eq h j _).1 hc
        rcases Nat.eq_zero_or_pos cp with rfl | hcp
        · have hm0 : m = 0 := by omega
          have hl0 : len = 0 := by omega
          subst hm0
          subst hl0
          have hnil : news = [] := List.eq_nil_of_length_eq_zero (by rw [hnl, Nat.zero_mul])
          subst hnil
          refine ⟨.slice A 0 0, E, _, _, run_append_nothing E.w t tx ty e i hu hi A 0 0 (Nat.le_refl _) Y hsrc', Ext.refl E, hw, hs.replace hcj ?_, T_sl.2 ⟨hjN, A, 0, rfl, by omega, by omega, .inl rfl⟩, hk⟩
          rcases hs.live j _ hcj with ⟨h5, sz0, f0, h6⟩ | ⟨h5, h6, cs, t', h7, h8, h9⟩
          · cases h6
            exact .inl ⟨h5, _, _, rfl⟩
          · refine .inr ⟨h5, h6, cs, t', h7, h8, ?_⟩
            simp only [R] at h9 ⊢
            intro k hk'
            rw [if_neg (by omega)]
            exact h9 k hk'
        · rcases h4 with h4 | ⟨hvt, rfl, cs0, t0, fr, hcs0, hbound⟩
          · omega
          · rcases hs.live j _ hcj with ⟨h5, _⟩ | ⟨_, hnk, cs, t', hbk, hle, hr⟩
            · rw [h5] at hvt; cases hvt
            · simp only [vsize] at hle
              simp only [R] at hr
              have hle' : (lo + len + m) * ei.sz ≤ cs.size := Nat.le_trans (by rw [Nat.mul_comm ei.sz n]; exact Nat.mul_le_mul_right _ hb2) hle
              have hfit : (lo + len) * ei.sz + news.length ≤ cs.size := by rw [hnl, ← Nat.add_mul]; exact hle'
              have hoff : poff [] + lo * ei.sz + len * i.size = (lo + len) * ei.sz := by simp only [poff, hsz, Nat.add_mul, Nat.zero_add]
              have hrun := run_append_room_src E.w t tx ty e i hu hi (E.ρ j) (poff [] + lo * ei.sz) len cp Y m news hsrc' (by omega) (fun q hq => by
                have : E.w.cell? ⟨E.ρ j, poff [] + lo * ei.sz + len * i.size + q, none⟩ = cs[(lo + len) * ei.sz + q]? := by rw [hoff]; simp [World.cell?, hbk]
                simp only [this, Array.getElem?_eq_getElem (show (lo + len) * ei.sz + q < cs.size by omega), Option.isSome_some]) (fun q hq => by simp [World.frozen?, hbk])
              rw [hoff, setCells_eq hbk hfit hsrc.one] at hrun
              have hwr : Wrote E.w (E.w.setRow (E.ρ j) (putRow cs ((lo + len) * ei.sz) news)) (E.ρ j) (putRow cs ((lo + len) * ei.sz) news) t' := Wrote.setRow hbk
              have hps := putRow_size hfit
              have hR : R E (.row ei.sz n fun k => if lo + len ≤ k ∧ k < lo + len + m then g (k - (lo + len)) else f k) (fun q => (putRow cs ((lo + len) * ei.sz) news)[q]?) 0 := by
                simp only [R]
                intro k hk'
                by_cases hin : lo + len ≤ k ∧ k < lo + len + m
                · rw [if_pos hin]
                  have hkm : k - (lo + len) < m := by omega
                  have h1 : (k - (lo + len)) * ei.sz + ei.sz ≤ m * ei.sz := by rw [← Nat.succ_mul]; exact Nat.mul_le_mul_right _ hkm
                  have h2 : k * ei.sz = (lo + len) * ei.sz + (k - (lo + len)) * ei.sz := by rw [← Nat.add_mul]; congr 1; omega
                  refine ⟨(hg _ hkm).1, R_shift (g (k - (lo + len))) _ _ ((k - (lo + len)) * ei.sz) _ (fun q hq => ?_) (hg _ hkm).2⟩
                  rw [(hg _ hkm).1] at hq
                  show (putRow cs ((lo + len) * ei.sz) news)[0 + k * ei.sz + q]? = _
                  rw [Nat.zero_add, h2, Nat.add_assoc, putRow_in hfit (by omega)]
                · rw [if_neg hin]
                  refine ⟨(hr k hk').1, R_local (fun q h1 h2 => ?_) (hr k hk').2⟩
                  rw [(hr k hk').1] at h2
                  refine putRow_out hfit ?_
                  rw [hnl, ← Nat.add_mul]
                  rcases Nat.lt_or_ge k (lo + len) with hlt | hge'
                  · have : k * ei.sz + ei.sz ≤ (lo + len) * ei.sz := by rw [← Nat.succ_mul]; exact Nat.mul_le_mul_right _ hlt
                    omega
                  · have : (lo + len + m) * ei.sz ≤ k * ei.sz := Nat.mul_le_mul_right _ (by omega)
                    omega
              have hz' : vsize (.row ei.sz n fun k => if lo + len ≤ k ∧ k < lo + len + m then g (k - (lo + len)) else f k) ≤ (putRow cs ((lo + len) * ei.sz) news).size := by
                simp only [vsize]; rw [hps]; exact hle
              have hx := Wrote.ext hbk hnk hps hwr
              have e1 := hbk.symm.trans hcs0
              injection e1 with e1
              injection e1 with e1 e2 e3
              subst e1
              refine ⟨_, { E with w := E.w.setRow (E.ρ j) (putRow cs ((lo + len) * ei.sz) news) }, _, _, hrun, hx, Wrote.wf hw hwr, wrote_ok hw hs hcj hvt hbk hnk hps hwr hR hz', T_sl.2 ⟨hjN, _, cp, rfl, hb1, h3, .inr ⟨hvt, rfl, _, t', (0, 0), hwr.here, ?_⟩⟩, hk⟩
              rw [hps]; exact hbound
      · exact hd.elim
    · exact hd.elim
  · exact hd.elim

theorem appendD_ok (ht : TabOk P tb) (hw : Wf E) {h : List (Option V)} (hs : SimH E h) {t tx ty : Nat} {Y B : Value} {base y : V} {κ : V → List (Option V) → Prop} (hB : T E base B) (hY : T E y Y) (hd : appendD tb t tx base y h κ) :
    ResH E κ ((Builtin.append_ #[t, tx] ty #[B, Y]).run P E.w) := by
  unfold appendD at hd
  split at hd
  · rename_i e sz by_ z ti hg hgx
    split at hd
    · rename_i ei hk hge
      have hT := (ht.get hg).td
      simp only [tdOk] at hT
      split at hT
      · rename_i e' hu
        simp only [beq_iff_eq] at hT
        subst hT
        obtain ⟨m, g, news, hd, hsrc, hR⟩ := srcD_ok ht hw hs hgx hk hd hY
        rcases hd with hd | hd
        · exact growD_ok ht hw hs hu hge hsrc hR hB hd
        · exact roomD_ok ht hw hs hu hge hsrc hR hB hd
      · cases hT
    · exact hd.elim
  · exact hd.elim
end
end Go.DD

/- Lengths, parts of values, conversions of numbers; picking. -/
namespace Go.DD
set_option linter.unusedVariables false
set_option linter.unusedSimpArgs false
open Go.RowKit

def lenD (tb : List (Option TI)) (t : Nat) (x : V) (κ : V → Prop) : Prop :=
  match getT tb t with
  | some ⟨.slice _, _, _, _⟩ =>
    match x with
    | .sl _ _ _ _ n _ => κ (.int .i64 n)
    | .imm _ _ n _ => κ (.int .i64 n)
    | .emp => κ (.int .i64 0)
    | _ => False
  | some ⟨.str, _, _, _⟩ => match x with | .str s => κ (.int .i64 s.length) | _ => False
  | some ⟨.arr n _, _, _, _⟩ => κ (.int .i64 n)
  | some ⟨.ptr a, _, _, _⟩ => match getT tb a with | some ⟨.arr n _, _, _, _⟩ => κ (.int .i64 n) | _ => False
  | _ => False
def capD (tb : List (Option TI)) (t : Nat) (x : V) (κ : V → Prop) : Prop :=
  match getT tb t with
  | some ⟨.slice _, _, _, _⟩ =>
    match x with
    | .sl _ _ _ _ _ cap => ∀ c : Nat, cap ≤ c → κ (.int .i64 c)
    | .slx _ _ _ _ cap => κ (.int .i64 cap)
    | .imm _ _ n _ => ∀ c : Nat, n ≤ c → κ (.int .i64 c)
    | .emp => κ (.int .i64 0)
    | _ => False
  | _ => False
def minmaxD (mx : Bool) (l : List V) (κ : V → Prop) : Prop :=
  match l with
  | [.int k a, .int _ b] => (match mx with | true => κ (.int k (max a b)) | false => κ (.int k (min a b)))
  | _ => False
def extractD (x : V) (k : Nat) (κ : V → Prop) : Prop :=
  match x with
  | .tup l => match Nat.blt k l.len with | true => κ (l.get k) | false => False
  | _ => False
def nilCheckD (x : V) (κ : V → Prop) : Prop :=
  match x with
  | .ref .. | .rref .. | .pim .. | .fn .. | .iface .. => κ x
  | _ => False
def pickD (c a b : V) (κ : V → Prop) : Prop :=
  match c with
  | .tt => κ a
  | .ff => κ b
  | .bool c => (c = true → κ a) ∧ (c = false → κ b)
  | _ => False
def convNum (tb : List (Option TI)) (s d : Nat) (x : V) (κ : V → Prop) : Prop :=
  match getT tb s, getT tb d with
  | some _, some ⟨.int k, _, _, _⟩ => match x with | .int _ n => κ (.int k (k.wrap n)) | _ => False
  | some _, some ⟨.str, _, _, _⟩ => match x with | .str s => κ (.str s) | _ => False
  | _, _ => False
def fieldD (tb : List (Option TI)) (s : Nat) (x : V) (k : Nat) (κ : V → Prop) : Prop :=
  match getT tb s with
  | some ⟨.st fs, _, _, _⟩ =>
    match fs[k]? with
    | some (off, ft) =>
      match getT tb ft with
      | some fi =>
        match x with
        | .st vs => match Nat.blt k vs.len && Nat.beq (presz vs k) off && fitB fi (vs.get k) with | true => κ (vs.get k) | false => False
        | _ => False
      | none => False
    | none => False
  | _ => False
def indexD (tb : List (Option TI)) (t : Nat) (x ix : V) (κ : V → Prop) : Prop :=
  match ix with
  | .int _ n =>
    match getT tb t with
    | some ⟨.arr m e, _, _, _⟩ =>
      match getT tb e with
      | some ei =>
        match x with
        | .row sz m' f => match Nat.beq ei.sz sz && Nat.beq m' m with | true => Ob (0 ≤ n ∧ n < m) ∧ (match fitB ei (f n.toNat) with | true => κ (f n.toNat) | false => False) | false => False
        | _ => False
      | none => False
    | some ⟨.str, _, _, _⟩ => match x with | .str s => Ob (0 ≤ n ∧ n < s.length) ∧ κ (.int .u8 ((s.getD n.toNat 0).toNat)) | _ => False
    | _ => False
  | _ => False
def arrayAtD (tb : List (Option TI)) (t : Nat) (x : V) (κ : V → Prop) : Prop :=
  match getT tb t with
  | some ⟨.arr m e, _, _, _⟩ =>
    match getT tb e with
    | some ei =>
      match x with
      | .sl j p sz lo len _ => match Nat.beq ei.sz sz && !Nat.beq m 0 with | true => Ob (m ≤ len) ∧ κ (.rref j p sz lo m) | false => False
      | .imm b sz n f => match Nat.beq ei.sz sz && !Nat.beq m 0 with | true => Ob (m ≤ n) ∧ κ (.pim b (.row sz m f)) | false => False
      | _ => False
    | none => False
  | _ => False
def makeInterfaceD (tb : List (Option TI)) (t : Nat) (x : V) (κ : V → Prop) : Prop :=
  match getT tb t with
  | some ⟨.iface, _, _, _⟩ => False
  | some ⟨.other, _, _, _⟩ => False
  | some i => match fitB i x with | true => κ (.iface t x) | false => False
  | none => False

def allOne : List V → Bool | [] => true | v :: l => v.one && allOne l
def makeFuncD (f : Fn) (first caps : List V) (κ : V → Prop) : Prop :=
  match f, first with
  | .func n, [] => (match allOne caps with | true => κ (.fn n (Vs.of caps)) | false => False)
  | _, _ => False

section
variable {P : Program} {t : Nat}
theorem TypeOk.int {k : IntKind} {a b : Nat} {z : V} (h : TypeOk P t ⟨.int k, a, b, z⟩) : P.underlying t = some (.int k) := by
  have := h.td
  simp only [tdOk] at this
  split at this
  · rename_i k' hu; rw [hu, eq_of_beq this]
  · cases this
theorem TypeOk.str {a b : Nat} {z : V} (h : TypeOk P t ⟨.str, a, b, z⟩) : P.underlying t = some .string := by
  have := h.td
  simp only [tdOk] at this
  split at this
  · assumption
  · cases this
theorem TypeOk.ptr {e a b : Nat} {z : V} (h : TypeOk P t ⟨.ptr e, a, b, z⟩) : P.underlying t = some (.pointer e) := by
  have := h.td
  simp only [tdOk] at this
  split at this
  · rename_i k' hu; rw [hu, eq_of_beq this]
  · cases this
theorem TypeOk.slice {e a b : Nat} {z : V} (h : TypeOk P t ⟨.slice e, a, b, z⟩) : P.underlying t = some (.slice e) := by
  have := h.td
  simp only [tdOk] at this
  split at this
  · rename_i k' hu; rw [hu, eq_of_beq this]
  · cases this
theorem TypeOk.arr {n e a b : Nat} {z : V} (h : TypeOk P t ⟨.arr n e, a, b, z⟩) : P.underlying t = some (.array n e) := by
  have := h.td
  simp only [tdOk] at this
  split at this
  · rename_i n' e' hu
    simp only [Bool.and_eq_true, beq_iff_eq] at this
    rw [hu, this.1, this.2]
  · cases this
theorem TypeOk.st {fs : List (Nat × Nat)} {a b : Nat} {z : V} (h : TypeOk P t ⟨.st fs, a, b, z⟩) : ∃ gs, P.underlying t = some (.struct gs) ∧ gs.toList.map (fun f => (f.offset, f.type)) = fs ∧ ∀ f ∈ gs.toList, (P.info? f.type).isSome = true := by
  have := h.td
  simp only [tdOk] at this
  split at this
  · rename_i gs hu
    simp only [Bool.and_eq_true, beq_iff_eq, List.all_eq_true] at this
    exact ⟨gs, hu, this.1, this.2⟩
  · cases this
end

section
variable {P : Program} {tb : List (Option TI)} {E : Env}

theorem lenD_ok (ht : TabOk P tb) {t ty : Nat} {x : V} {X : Value} {κ : V → Prop} (hl : lenD tb t x κ) (hx : T E x X) : ResP E κ ((Builtin.len_ #[t] ty #[X]).run P E.w) := by
  unfold lenD at hl
  split at hl
  · rename_i e _ _ _ hg
    have hu := (ht.get hg).slice
    have key : ∀ A n c, (Builtin.len_ #[t] ty #[.slice A n c]).run P E.w = .ok (.int .i64 n) E.w := fun A n c => by simp [Builtin.len_, run_underlying hu, goInt]
    split at hl
    · obtain ⟨_, a, cp, rfl, _⟩ := T_sl.1 hx
      exact .mk _ _ (key _ _ _) (T_int.2 rfl) hl
    · obtain ⟨a, cp, rfl, _⟩ := T_imm.1 hx
      exact .mk _ _ (key _ _ _) (T_int.2 rfl) hl
    · obtain ⟨a, rfl⟩ := T_emp.1 hx
      exact .mk _ _ (key _ _ _) (T_int.2 rfl) hl
    · exact hl.elim
  · rename_i _ _ _ hg
    have hu := (ht.get hg).str
    split at hl
    · rename_i s
      rw [T_str] at hx
      subst hx
      refine .mk _ _ ?_ (T_int.2 rfl) hl
      have hsz : (⟨s.toArray⟩ : ByteArray).size = s.length := rfl
      generalize (⟨s.toArray⟩ : ByteArray) = b at hsz
      simp [Builtin.len_, run_underlying hu, goInt, hsz]
    · exact hl.elim
  · rename_i n e _ _ _ hg
    have hu := (ht.get hg).arr
    refine .mk _ _ ?_ (T_int.2 rfl) hl
    simp [Builtin.len_, run_underlying hu, goInt]
  · rename_i a _ _ _ hg
    have hu := (ht.get hg).ptr
    split at hl
    · rename_i n e _ _ _ hg'
      have hu' := (ht.get hg').arr
      refine .mk _ _ ?_ (T_int.2 rfl) hl
      simp [Builtin.len_, run_underlying hu, run_underlying hu', goInt]
    · exact hl.elim
  · exact hl.elim

theorem capD_ok (ht : TabOk P tb) {t ty : Nat} {x : V} {X : Value} {κ : V → Prop} (hl : capD tb t x κ) (hx : T E x X) : ResP E κ ((Builtin.cap_ #[t] ty #[X]).run P E.w) := by
  unfold capD at hl
  split at hl
  · rename_i e _ _ _ hg
    have hu := (ht.get hg).slice
    have key : ∀ A n c, (Builtin.cap_ #[t] ty #[.slice A n c]).run P E.w = .ok (.int .i64 c) E.w := fun A n c => by simp [Builtin.cap_, run_underlying hu, goInt]
    split at hl
    · obtain ⟨_, a, cp, rfl, _, h, _⟩ := T_sl.1 hx
      exact .mk _ _ (key _ _ _) (T_int.2 rfl) (hl _ h)
    · obtain ⟨_, a, rfl, _⟩ := T_slx.1 hx
      exact .mk _ _ (key _ _ _) (T_int.2 rfl) hl
    · obtain ⟨a, cp, rfl, h, _⟩ := T_imm.1 hx
      exact .mk _ _ (key _ _ _) (T_int.2 rfl) (hl _ h)
    · obtain ⟨a, rfl⟩ := T_emp.1 hx
      exact .mk _ _ (key _ _ _) (T_int.2 rfl) hl
    · exact hl.elim
  · exact hl.elim

theorem minmaxD_ok {mx : Bool} {ts : Array TypeId} {ty : Nat} {x y : V} {X Y : Value} {κ : V → Prop} (hl : minmaxD mx [x, y] κ) (hx : T E x X) (hy : T E y Y) :
    ResP E κ (match mx with | true => (Builtin.max_ ts ty #[X, Y]).run P E.w | false => (Builtin.min_ ts ty #[X, Y]).run P E.w) := by
  unfold minmaxD at hl
  split at hl
  · rename_i k a k' b he
    simp only [List.cons.injEq, and_true] at he
    obtain ⟨rfl, rfl⟩ := he
    rw [T_int] at hx hy
    subst hx; subst hy
    cases mx
    · exact .mk _ _ (Lib.run_min_ints _ _ _ _ _ _ _) (T_int.2 rfl) hl
    · exact .mk _ _ (Lib.run_max_ints _ _ _ _ _ _ _) (T_int.2 rfl) hl
  · exact hl.elim

theorem extractD_ok {x : V} {X : Value} {k : Nat} {κ : V → Prop} (hl : extractD x k κ) (hx : T E x X) : ResP E κ ((Instr.extract X k).run P E.w) := by
  unfold extractD at hl
  split at hl
  · rename_i l
    split at hl
    · rename_i hlt
      obtain ⟨xs, rfl, hs, h⟩ := hx
      simp only [Nat.blt_eq] at hlt
      obtain ⟨y, hy⟩ : ∃ y, xs[k]? = some y := ⟨_, Array.getElem?_eq_getElem (by omega)⟩
      refine .mk y (l.get k) (by simp [Instr.extract, hy]) ?_ hl
      have := h k y hy
      generalize l.get k = u at this ⊢
      cases u <;> first | trivial | exact this.2 | simp [V.isTup] at this
    · exact hl.elim
  · exact hl.elim

theorem nilCheckD_ok {o : Oper} {a : Act} {xo : Operand} (ho : o.op = .nilCheck xo) {x : V} {κ : V → Prop} (hl : nilCheckD x κ) (hx : T E x (a.eval xo)) :
    (execOp a.eval o).run P E.w = .ok (.value (a.eval xo)) E.w ∧ κ x := by
  have key : ∀ X, X = a.eval xo → (match X with | .pointer none | .nilIface | .nilFunc => False | .func (.method _) _ _ => False | _ => True) → (execOp a.eval o).run P E.w = .ok (.value (a.eval xo)) E.w := by
    intro X hX hm
    unfold execOp
    rw [ho]
    simp only [← hX]
    cases X with
    | pointer A => cases A <;> first | exact hm.elim | rfl
    | func f x y => cases f <;> first | exact hm.elim | rfl
    | _ => first | exact hm.elim | rfl
  unfold nilCheckD at hl
  split at hl
  · exact ⟨key _ (T_ref.1 hx).2.symm trivial, hl⟩
  · exact ⟨key _ (T_rref.1 hx).2.symm trivial, hl⟩
  · obtain ⟨b, off, h, _⟩ := T_pim.1 hx
    exact ⟨key _ h.symm trivial, hl⟩
  · obtain ⟨xs, h, _⟩ := T_fn.1 hx
    exact ⟨key _ h.symm trivial, hl⟩
  · obtain ⟨y, h, _⟩ := T_iface.1 hx
    exact ⟨key _ h.symm trivial, hl⟩
  · exact hl.elim

theorem convNum_ok (ht : TabOk P tb) {s d : Nat} {x : V} {X : Value} {κ : V → Prop} (hl : convNum tb s d x κ) (hx : T E x X) : ResP E κ ((convert s d X).run P E.w) := by
  unfold convNum at hl
  split at hl
  · rename_i i k _ _ _ hg hg'
    obtain ⟨e, hu, _⟩ := (ht.get hg).isAgg
    have hu' := (ht.get hg').int
    split at hl
    · rw [T_int] at hx
      subst hx
      refine .mk _ _ ?_ (T_int.2 rfl) hl
      simp [convert, run_underlying hu, run_underlying hu', Conv.intToInt]
    · exact hl.elim
  · rename_i i _ _ _ hg hg'
    obtain ⟨e, hu, _⟩ := (ht.get hg).isAgg
    have hu' := (ht.get hg').str
    split at hl
    · rw [T_str] at hx
      subst hx
      refine .mk _ _ ?_ (T_str.2 rfl) hl
      cases e <;> simp [convert, run_underlying hu, run_underlying hu']
    · exact hl.elim
  · exact hl.elim

theorem part_ok (ht : TabOk P tb) {t : Nat} {i : TI} (hg : getT tb t = some i) {v : V} (hf : fitB i v = true) {cs : Array Value} {o : Nat} (hr : R E v (fun q => cs[q]?) o) :
    ∃ x, (part t cs o).run P E.w = .ok x E.w ∧ T E v x := by
  have hty := ht.get hg
  obtain ⟨d, hu, hd⟩ := hty.isAgg
  obtain ⟨f, z, hi, hsz, _⟩ := hty.info
  by_cases hagg : v.isAgg = true
  · have hs : i.d.isAgg = true ∧ i.sz = vsize v := by
      cases v <;> simp_all [fitB, V.isAgg]
    refine ⟨.agg (cs.extract o (o + vsize v)), ?_, ?_⟩
    · simp [part, run_isAgg' hu, hd, hs.1, sizeOf, typeInfo, hi, hsz, hs.2]
    · have hle : ∀ q, q < vsize v → (cs.extract o (o + vsize v))[q]? = cs[o + q]? := fun q hq => by
        rw [Array.getElem?_extract]
        obtain ⟨x, h1, _⟩ := R_one v _ o q hr hq
        have h2 := (Array.getElem?_eq_some_iff.1 h1).1
        rw [if_pos (by omega)]
      refine T_mkAgg hagg ?_ (R_shift v _ _ o 0 (fun q hq => ?_) hr)
      · rw [Array.size_extract]
        by_cases h0 : vsize v = 0
        · omega
        · obtain ⟨x, h1, _⟩ := R_one v _ o (vsize v - 1) hr (by omega)
          have h2 := (Array.getElem?_eq_some_iff.1 h1).1
          omega
      · simpa using hle q hq
  · have hone : v.one = true ∧ i.d.isAgg = false := by
      cases v <;> simp_all [fitB, V.isAgg, V.one]
    have hz : vsize v = 1 := by cases v <;> simp_all [V.one, vsize]
    obtain ⟨x, h1, h2⟩ := R_one v _ o 0 hr (by omega)
    refine ⟨x, ?_, T_mk hone.1 h2 (R_shift v _ _ o 0 (fun q hq => by obtain rfl : q = 0 := by omega
                                                                     exact h1.symm) hr)⟩
    have hc : cs[o]? = some x := h1
    simp [part, run_isAgg' hu, hd, hone.2, hc]

theorem fieldD_ok (ht : TabOk P tb) {s : Nat} {x : V} {X : Value} {k : Nat} {κ : V → Prop} (hl : fieldD tb s x k κ) (hx : T E x X) : ResP E κ ((Instr.field s X k).run P E.w) := by
  unfold fieldD at hl
  split at hl
  · rename_i fs _ _ _ hg
    split at hl
    · rename_i off ft hk
      split at hl
      · rename_i fi hgf
        split at hl
        · rename_i vs
          split at hl
          · rename_i hc
            simp only [Bool.and_eq_true, Nat.blt_eq, Nat.beq_eq] at hc
            obtain ⟨⟨h1, h2⟩, h3⟩ := hc
            obtain ⟨cs, rfl, _, hr⟩ := T_agg rfl hx
            simp only [R] at hr
            have hr' := RL_get vs k _ 0 h1 hr
            rw [h2, Nat.zero_add] at hr'
            obtain ⟨gs, hu, hgs, _⟩ := (ht.get hg).st
            obtain ⟨y, h4, h5⟩ := part_ok ht hgf h3 hr'
            refine .mk y _ ?_ h5 hl
            have hf : ∃ f, gs[k]? = some f ∧ f.offset = off ∧ f.type = ft := by
              have := hk
              rw [← hgs] at this
              simp only [List.getElem?_map, Option.map_eq_some_iff, Prod.mk.injEq] at this
              obtain ⟨f, h6, h7, h8⟩ := this
              exact ⟨f, by simpa using h6, h7, h8⟩
            obtain ⟨f, h6, h7, h8⟩ := hf
            simp only [Instr.field, Sem.run_bind, run_underlying hu, Result.andThen_ok, h6, h7, h8, asAgg, Sem.run_pure]
            exact h4
          · exact hl.elim
        · exact hl.elim
      · exact hl.elim
    · exact hl.elim
  · exact hl.elim

theorem indexD_ok (ht : TabOk P tb) {t : Nat} {x ix : V} {X I : Value} {κ : V → Prop} (hl : indexD tb t x ix κ) (hx : T E x X) (hi : T E ix I) : ResP E κ ((Instr.index t X I).run P E.w) := by
  unfold indexD at hl
  split at hl
  · rename_i k n
    rw [T_int] at hi
    subst hi
    split at hl
    · rename_i m e _ _ _ hg
      have hu := (ht.get hg).arr
      split at hl
      · rename_i ei hge
        split at hl
        · rename_i sz m' f
          split at hl
          · rename_i hc
            simp only [Bool.and_eq_true, Nat.beq_eq] at hc
            obtain ⟨hsz, rfl⟩ := hc
            obtain ⟨⟨⟨h0, h1⟩⟩, hl⟩ := hl
            split at hl
            · rename_i hfit
              obtain ⟨cs, rfl, _, hr⟩ := T_agg rfl hx
              simp only [R] at hr
              have hr' := (hr n.toNat (by omega)).2
              rw [Nat.zero_add] at hr'
              obtain ⟨y, h4, h5⟩ := part_ok ht hge hfit hr'
              refine .mk y _ ?_ h5 hl
              obtain ⟨fi, z, hi, hfsz, _⟩ := (ht.get hge).info
              have hso : (sizeOf e).run P E.w = .ok sz E.w := by simp [sizeOf, typeInfo, hi, hfsz, hsz]
              simp only [Instr.index, asIntOf, Sem.run_bind, Sem.run_pure, run_underlying hu, Result.andThen_ok, h0, h1, and_self, if_true, hso]
              exact h4
            · exact hl.elim
          · exact hl.elim
        · exact hl.elim
      · exact hl.elim
    · rename_i _ _ _ hg
      have hu := (ht.get hg).str
      split at hl
      · rename_i s
        obtain ⟨⟨⟨h0, h1⟩⟩, hl⟩ := hl
        rw [T_str] at hx
        subst hx
        refine .mk _ _ ?_ (T_int.2 rfl) hl
        have hlt : n.toNat < s.length := by omega
        have hget : (⟨s.toArray⟩ : ByteArray)[n.toNat]? = some (s.getD n.toNat 0) := by
          have hlt' : n.toNat < (⟨s.toArray⟩ : ByteArray).size := hlt
          rw [getElem?_pos (⟨s.toArray⟩ : ByteArray) n.toNat hlt', List.getD_eq_getElem?_getD, List.getElem?_eq_getElem hlt]
          rfl
        simp only [Instr.index, asIntOf, Sem.run_bind, Sem.run_pure, run_underlying hu, Result.andThen_ok, h0, if_true, hget]
      · exact hl.elim
    · exact hl.elim
  · exact hl.elim

theorem fitB_agg {i : TI} {v : V} (h : fitB i v = true) : v.isAgg = i.d.isAgg ∧ v.isTup = false ∧ (∀ E x, T E v x → aggOk v x ∧ R E v (fun q => x.cells[q]?) 0) := by
  cases v <;> simp_all [fitB, V.isAgg, V.isTup] <;> exact fun E x h => h
theorem makeInterfaceD_ok (ht : TabOk P tb) {t : Nat} {x : V} {X : Value} {κ : V → Prop} (hl : makeInterfaceD tb t x κ) (hx : T E x X) : ResP E κ ((Instr.makeInterface t X).run P E.w) := by
  unfold makeInterfaceD at hl
  split at hl
  · exact hl.elim
  · exact hl.elim
  · rename_i i hn hn' hg
    split at hl
    · rename_i hfit
      have hT := (ht.get hg).td
      have hu : ∃ d, P.underlying t = some d ∧ ∀ ms, d ≠ .interface ms := by
        cases i with
        | mk d a b z =>
          cases d <;> simp only [tdOk] at hT <;> first
            | (exact absurd rfl (hn _ _ _)) | (exact absurd rfl (hn' _ _ _))
            | (split at hT <;> first | exact ⟨_, ‹_›, by simp⟩ | cases hT)
            | cases hT
      obtain ⟨d, hu, hd⟩ := hu
      refine .mk _ _ ?_ (T_iface.2 ⟨X, rfl, (fitB_agg hfit).2.2 E X hx⟩) hl
      cases d <;> first | (exact absurd rfl (hd _)) | simp [Instr.makeInterface, run_underlying hu]
    · exact hl.elim
  · exact hl.elim
theorem arrayAtD_ok (ht : TabOk P tb) {t : Nat} {x : V} {X : Value} {κ : V → Prop} (hl : arrayAtD tb t x κ) (hx : T E x X) : ResP E κ ((Instr.arrayAt t X).run P E.w) := by
  unfold arrayAtD at hl
  split at hl
  · rename_i m e _ _ _ hg
    have hu := (ht.get hg).arr
    split at hl
    · rename_i ei hge
      split at hl
      · rename_i j p sz lo len cap
        split at hl
        · rename_i hc
          simp only [Bool.and_eq_true, Nat.beq_eq, Bool.not_eq_true'] at hc
          obtain ⟨⟨hle⟩, hl⟩ := hl
          obtain ⟨hj, A, cp, rfl, h1, h2, h3⟩ := T_sl.1 hx
          have hm : m ≠ 0 := fun e => by simp [e] at hc
          rcases h3 with h3 | ⟨_, rfl, _⟩
          · omega
          · exact .mk _ _ (run_arrayAt E.w t e m _ len cp hu hle) (T_rref.2 ⟨hj, rfl⟩) hl
        · exact hl.elim
      · rename_i b sz n f
        split at hl
        · rename_i hc
          simp only [Bool.and_eq_true, Nat.beq_eq, Bool.not_eq_true'] at hc
          obtain ⟨⟨hle⟩, hl⟩ := hl
          have hm : m ≠ 0 := fun e => by simp [e] at hc
          obtain ⟨A, cp, rfl, h1, h2⟩ := T_imm.1 hx
          rcases h2 with h2 | ⟨bb, off, rfl, h4, h5⟩
          · omega
          · exact .mk _ _ (run_arrayAt E.w t e m _ n cp hu hle) (T_pim.2 ⟨bb, off, rfl, h4, by simp only [R]; exact fun k hk => h5 k (by omega)⟩) hl
        · exact hl.elim
      · exact hl.elim
    · exact hl.elim
  · exact hl.elim
end
end Go.DD

/- New slices: literals, make. -/
namespace Go.DD
set_option linter.unusedVariables false
set_option linter.unusedSimpArgs false
open Go.RowKit

def makeSliceD (tb : List (Option TI)) (t : Nat) (l c : V) (h : List (Option V)) (κ : V → List (Option V) → Prop) : Prop :=
  match getT tb t with
  | some ⟨.slice e, _, _, _⟩ =>
    match getT tb e with
    | some ei =>
      match l, c with
      | .int _ a, .int _ b => Ob (0 ≤ a ∧ a ≤ b ∧ ei.by_ * b ≤ 281474976710656 ∧ b ≤ 9223372036854775807) ∧ κ (.sl (hlen h) [] ei.sz 0 a.toNat b.toNat) (hsnoc h (.row ei.sz b.toNat fun _ => ei.z))
      | _, _ => False
    | none => False
  | _ => False

section
variable {P : Program} {tb : List (Option TI)} {E : Env}

theorem zrow_ok {z : V} {zc : Array Value} {sz n : Nat} (h1 : zc.size = sz) (h2 : vsize z = sz) (hr : R E z (fun q => zc[q]?) 0) : R E (.row sz n fun _ => z) (fun q => ((Array.range (n * sz)).map (zc[· % zc.size]!))[q]?) 0 := by
  simp only [R]
  intro k hk
  refine ⟨h2, R_shift z _ _ 0 (0 + k * sz) (fun q hq => ?_) hr⟩
  have hq' : q < sz := by omega
  have hle : k * sz + sz ≤ n * sz := by rw [← Nat.succ_mul]; exact Nat.mul_le_mul_right _ hk
  have hlt : k * sz + q < n * sz := by omega
  have hmod : (k * sz + q) % zc.size = q := by rw [h1, Nat.mul_comm, Nat.mul_add_mod, Nat.mod_eq_of_lt hq']
  have hzq : zc[q]? = some zc[q] := Array.getElem?_eq_getElem (by omega)
  simp only [Nat.zero_add]
  rw [hzq, Array.getElem?_map, Array.getElem?_range]
  simp only [hlt, if_true, Option.map_some, hmod]
  rw [getElem!_pos zc q (by omega)]

theorem newSlice_ok (hw : Wf E) {h : List (Option V)} (hs : SimH E h) {e sz len cap : Nat} {f : Nat → V} {cells : Array Value} {r : Result Value} (hr : r = .ok (.slice (some ⟨E.w.heap.size, 0, none⟩) len cap) (E.w.alloc (.cells cells e))) (hle : len ≤ cap)
    (hc : cells.size = cap * sz) (hR : R E (.row sz cap f) (fun q => cells[q]?) 0) {κ : V → List (Option V) → Prop} (hk : κ (.sl (hlen h) [] sz 0 len cap) (hsnoc h (.row sz cap f))) : ResH E κ r := by
  obtain ⟨g1, g2, g3⟩ := grown_new (t := e) hw hs hR (by simp only [vsize]; rw [hc, Nat.mul_comm]; exact Nat.le_refl _)
  refine ⟨_, E.alloc (.cells cells e), _, _, hr, g1, g2, g3, T_sl.2 ⟨?_, some ⟨E.w.heap.size, 0, none⟩, cap, rfl, hle, Nat.le_refl _, .inr ⟨?_, ?_, cells, e, (0, 0), ?_, ?_⟩⟩, hk⟩
  · rw [hlen_eq, hs.len]; simp [Env.alloc]
  · rw [hlen_eq, hs.len]; simp [Env.alloc]
  · rw [hlen_eq, hs.len]; simp [Env.alloc, poff]
  · rw [hlen_eq, hs.len]
    simp only [Env.alloc, if_true]
    exact World.heap_alloc_new _ _
  · simp [poff, hc]

theorem TypeOk.zcells {t : Nat} {i : TI} (hty : TypeOk P t i) : ∃ f z, P.info? t = some f ∧ f.size = i.sz ∧ f.bytes = i.by_ ∧ f.zero = some z ∧ z.cells.size = i.sz ∧ R E i.z (fun q => z.cells[q]?) 0 := by
  obtain ⟨f, z, hi, h1, h2, hz, hT, hzs⟩ := hty.info
  have hc := T_cells (E := E) (v := i.z) (x := z) (by rw [hty.agg, hty.one]; cases i.d.isAgg <;> rfl) (hT E)
  exact ⟨f, z, hi, h1, h2, hz, hzs, hc.2⟩

theorem makeSliceD_ok (ht : TabOk P tb) (hw : Wf E) {h : List (Option V)} (hs : SimH E h) {t : Nat} {l c : V} {L C : Value} {κ : V → List (Option V) → Prop} (hl : makeSliceD tb t l c h κ) (hL : T E l L) (hC : T E c C) : ResH E κ ((Instr.makeSlice t L C).run P E.w) := by
  unfold makeSliceD at hl
  split at hl
  · rename_i e _ _ _ hg
    split at hl
    · rename_i ei hge
      split at hl
      · rename_i ka a kb b
        rw [T_int] at hL hC
        subst hL; subst hC
        obtain ⟨⟨h0, h1, h2, h3⟩, hk⟩ := hl
        obtain ⟨f, z, hi, hsz, hby, hz, hzs, hr⟩ := (ht.get hge).zcells (E := E)
        refine newSlice_ok hw hs (run_make (P := P) E.w t e f z (ht.get hg).slice hi hz ka kb a b h0 h1 (by rw [hby]; exact h2) h3) (by omega) ?_ ?_ hk
        · rw [size_madeCells, hsz]
        · rw [hsz]
          exact zrow_ok hzs (ht.get hge).size hr
      · exact hl.elim
    · exact hl.elim
  · exact hl.elim

theorem buildSliceD_ok (ht : TabOk P tb) (hw : Wf E) {h : List (Option V)} (hs : SimH E h) {t n : Nat} {parts : List (Nat × V)} {ps : Array (Nat × Value)} {κ : V → List (Option V) → Prop} (hp : PartsT E parts ps.toList) (hl : buildSliceD tb t n parts h κ) :
    ResH E κ ((Instr.buildSlice t n ps).run P E.w) := by
  unfold buildSliceD at hl
  split at hl
  · rename_i e _ _ _ hg
    split at hl
    · rename_i ei hge
      split at hl
      · rename_i hc
        simp only [Bool.and_eq_true, Nat.ble_eq] at hc
        obtain ⟨hfr, hsmall⟩ := hc
        obtain ⟨f, z, hi, hsz, hby, hz, hzs, hr⟩ := (ht.get hge).zcells (E := E)
        have hu := (ht.get hg).slice
        by_cases h0 : n * ei.sz = 0
        · have hfill : ∃ cells, Instr.fill (fun i => some (i * ei.sz, ei.sz)) ((Array.range (n * ei.sz)).map ((#[] : Array Value)[· % (#[] : Array Value).size]!)) ps.toList = some cells ∧ cells.size = n * ei.sz ∧ R E (.row ei.sz n fun k => partAtK parts.reverse k ei.z) (fun q => cells[q]?) 0 := by
            have hR0 : R E (.row ei.sz n fun _ => ei.z) (fun q => ((Array.range (n * ei.sz)).map ((#[] : Array Value)[· % (#[] : Array Value).size]!))[q]?) 0 := by
              simp only [R]
              intro k hk
              refine ⟨(ht.get hge).size, R_shift ei.z _ _ 0 _ (fun q hq => ?_) hr⟩
              rw [(ht.get hge).size] at hq
              rcases Nat.mul_eq_zero.1 h0 with h | h
              · omega
              · omega
            obtain ⟨cells, e1, e2, e3⟩ := fillR_ok ht hge parts ps.toList (fun _ => ei.z) _ hp hfr (by simp [Nat.mul_comm]) hR0
            exact ⟨cells, e1, by rw [e2]; simp, e3⟩
          obtain ⟨cells, e1, e2, e3⟩ := hfill
          refine newSlice_ok hw hs (e := e) (cells := cells) ?_ (Nat.le_refl _) e2 e3 hl
          have hbig : ¬ 16777216 < n * ei.sz := by omega
          have e1' : Instr.fill (fun i => some (i * ei.sz, ei.sz)) #[] ps.toList = some cells := by rw [← e1, h0, Array.range_zero']; simp
          simp [Instr.buildSlice, run_underlying hu, sizeOf, typeInfo, hi, hsz, h0, newRow, Array.range_zero', e1']
        · have hR0 := zrow_ok (E := E) (n := n) hzs (ht.get hge).size hr
          obtain ⟨cells, e1, e2, e3⟩ := fillR_ok ht hge parts ps.toList (fun _ => ei.z) _ hp hfr (by simp [Nat.mul_comm]) hR0
          refine newSlice_ok hw hs (e := e) (cells := cells) (run_buildSlice (P := P) E.w t e n ps cells f z hu hi hz (by rw [hsz]; omega) (by rw [hsz]; exact h0) ?_) (Nat.le_refl _) (by rw [e2]; simp) e3 hl
          rw [hsz]
          exact e1
      · exact hl.elim
    · exact hl.elim
  · exact hl.elim
end
end Go.DD

/- Copies. -/
namespace Go.DD
set_option linter.unusedVariables false
set_option linter.unusedSimpArgs false
open Go.RowKit

def truncV (y : V) (n : Nat) : V :=
  match y with
  | .imm l sz m g => .imm l sz (min m n) g
  | .sl j p sz lo m cap => .sl j p sz lo (min m n) cap
  | .str s => .str (s.take n)
  | .emp => .emp
  | _ => .any
def copyD (tb : List (Option TI)) (t tx : Nat) (x y : V) (h : List (Option V)) (κ : V → List (Option V) → Prop) : Prop :=
  match getT tb t, getT tb tx with
  | some ⟨.slice e, _, _, _⟩, some ti =>
    match ti.d.srcOk, getT tb e with
    | true, some ei =>
      match x with
      | .sl i p sz lo len _ => srcD ei.sz (truncV y len) h fun m g =>
        match hget h i with
        | some c => okq c p (match sub c p with
          | .row sz' n f => match Nat.beq sz ei.sz && Nat.beq sz' ei.sz with
            | true => Ob (lo + len ≤ n) ∧ κ (.int .i64 (m : Nat)) (h.set i (some (upd c p (.row sz n fun k => if lo ≤ k ∧ k < lo + m then g (k - lo) else f k))))
            | false => False
          | _ => False)
        | none => False
      | .emp => srcD ei.sz (truncV y 0) h fun m g => κ (.int .i64 0) h
      | _ => False
    | _, _ => False
  | _, _ => False

section
variable {P : Program} {tb : List (Option TI)} {E : Env}

theorem okp_virtual' {sz : Nat} {f : Nat → V} {p : List Step} (h : okp (.row sz 0 f) p) : p = [] := by
  cases p with
  | nil => rfl
  | cons s p =>
    rcases okp_cases h with ⟨l, k, off, he, _⟩ | ⟨sz', n, f', k, he, _, hkn, _⟩
    · cases he
    · cases he; omega
theorem trunc_ok {y : V} {Y : Value} {n sz : Nat} (hy : T E y Y) (hn : truncV y n ≠ .any) : ∃ Y' m0, T E (truncV y n) Y' ∧ (∀ w, (Builtin.lenOf Y).run P w = .ok m0 w) ∧ (∀ w, (Builtin.lenOf Y').run P w = .ok (min m0 n) w) ∧
    (sz = 1 ∨ (∀ s, y ≠ .str s) → ∀ w, (Builtin.firstCells sz (min m0 n) Y).run P w = (Builtin.firstCells sz (min m0 n) Y').run P w) := by
  unfold truncV at hn ⊢
  split at hn <;> first | exact absurd rfl hn | skip
  · rename_i l sz' m g
    obtain ⟨A, cp, rfl, h1, h2⟩ := T_imm.1 hy
    refine ⟨_, _, T_imm.2 ⟨A, cp, rfl, by omega, ?_⟩, fun w => rfl, fun w => rfl, fun _ w => by cases A <;> rfl⟩
    by_cases h0 : min m n = 0
    · exact .inl h0
    · rcases h2 with h2 | ⟨b, off, h3, h4, h5⟩
      · omega
      · exact .inr ⟨b, off, h3, h4, fun k hk => h5 k (by omega)⟩
  · obtain ⟨h0, A, cp, rfl, h1, h2, h3⟩ := T_sl.1 hy
    exact ⟨_, _, T_sl.2 ⟨h0, A, cp, rfl, by omega, h2, h3⟩, fun w => rfl, fun w => rfl, fun _ w => by cases A <;> rfl⟩
  · rename_i s
    obtain rfl := T_str.1 hy
    refine ⟨_, s.length, T_str.2 rfl, fun w => by simp [Builtin.lenOf, ByteArray.size], fun w => by simp [Builtin.lenOf, ByteArray.size, Nat.min_comm], fun _ w => ?_⟩
    simp only [Builtin.firstCells, Sem.run_pure]
    congr 2
    simp only [ByteArray.data_extract]
    apply Array.ext'
    simp [List.take_take, Nat.min_comm]
  · obtain ⟨A, rfl⟩ := T_emp.1 hy
    exact ⟨_, 0, T_emp.2 ⟨A, rfl⟩, fun w => rfl, fun w => by simp [Builtin.lenOf], fun _ w => rfl⟩

theorem copyD_ok (ht : TabOk P tb) (hw : Wf E) {h : List (Option V)} (hs : SimH E h) {t tx ty : Nat} {x y : V} {X Y : Value} {κ : V → List (Option V) → Prop} (hd : copyD tb t tx x y h κ) (hx : T E x X) (hy : T E y Y) :
    ResH E κ ((Builtin.copy_ #[t, tx] ty #[X, Y]).run P E.w) := by
  unfold copyD at hd
  split at hd
  · rename_i e sz by_ z ti hg hgx
    split at hd
    · rename_i ei hk hge
      have hu := (ht.get hg).slice
      obtain ⟨fi, zv, hi, hsz, _⟩ := (ht.get hge).info
      have hso : ∀ w, (sizeOf e).run P w = .ok ei.sz w := fun w => by simp [sizeOf, typeInfo, hi, hsz]
      split at hd
      · rename_i i p sz' lo len cap
        have hnany : truncV y len ≠ .any := fun e => by rw [e] at hd; simp [srcD] at hd
        obtain ⟨Y', m0, hT', hl0, hl1, hf⟩ := trunc_ok (P := P) (sz := ei.sz) (n := len) hy hnany
        have hs1 : ei.sz = 1 ∨ (∀ s, y ≠ .str s) := by
          by_cases hstr : ∃ s, y = .str s
          · obtain ⟨s, rfl⟩ := hstr
            simp only [truncV, srcD] at hd
            split at hd
            · rename_i hb; simp only [Nat.beq_eq] at hb; exact .inl hb
            · exact hd.elim
          · exact .inr fun s hs => hstr ⟨s, hs⟩
        obtain ⟨m, g, news, hd, hsrc, hR⟩ := srcD_ok ht hw hs hgx hk hd hT'
        have hm : m = min m0 len := by
          have h1 := hsrc.len E.w
          rw [hl1] at h1
          injection h1 with h1
          exact h1.symm
        subst hm
        split at hd
        · rename_i c hc
          obtain ⟨hp, hk⟩ := okq_okp p c _ hd
          split at hk
          · rename_i sz'' n f hsub
            split at hk
            · rename_i hb
              simp only [Bool.and_eq_true, Nat.beq_eq] at hb
              obtain ⟨rfl, rfl⟩ := hb
              obtain ⟨⟨hob⟩, hk⟩ := hk
              obtain ⟨hiN, A, cp, rfl, h2, h3, h4⟩ := T_sl.1 hx
              have hci := (hget_eq h i c).1 hc
              have hcells : (Builtin.firstCells ei.sz (min m0 len) Y).run P E.w = .ok news.toArray E.w := (hf hs1 E.w).trans hsrc.cells
              have hrun : ∀ (st : Nat) (w' : World), (match A with | some a => (storeCells a news).run P E.w = .ok () w' | none => w' = E.w) → (Builtin.copy_ #[t, tx] ty #[.slice A len cp, Y]).run P E.w = .ok (.int .i64 (min m0 len : Nat)) w' := fun _ w' hst => by
                cases A with
                | none =>
                  simp only at hst
                  subst hst
                  simp [Builtin.copy_, run_underlying hu, hl0, hso, hcells, goInt]
                | some a =>
                  simp only at hst
                  simp [Builtin.copy_, run_underlying hu, hl0, hso, hcells, hst, goInt]
              rcases hs.live i c hci with ⟨hvt, sz0, f0, rfl⟩ | ⟨hvt, hnk, cs, t', hbk, hle, hr⟩
              · have hpn := okp_virtual' hp
                subst hpn
                simp only [sub, V.row.injEq] at hsub
                obtain ⟨rfl, rfl, rfl⟩ := hsub
                have hcp : cp = 0 := by
                  rcases h4 with h4 | ⟨h4, _⟩
                  · exact h4
                  · rw [hvt] at h4; cases h4
                have hl : len = 0 := by omega
                subst hl
                have hnil : news = [] := List.eq_nil_of_length_eq_zero (by rw [hsrc.newsLen]; simp)
                subst hnil
                refine ⟨_, E, _, _, hrun 0 E.w (by cases A <;> simp [storeCells]), Ext.refl E, hw, hs.replace hci (.inl ⟨hvt, _, _, rfl⟩), T_int.2 rfl, hk⟩
              · have hfits := sub_fits p c hp E _ 0 hr
                rw [hsub] at hfits
                simp only [vsize] at hfits
                have hrow := R_sub p c _ 0 hp hr
                rw [hsub, Nat.zero_add] at hrow
                have hnl : news.length = min m0 len * ei.sz := hsrc.newsLen
                have hmn : (lo + min m0 len) * ei.sz ≤ ei.sz * n := by rw [Nat.mul_comm ei.sz n]; exact Nat.mul_le_mul_right _ (by omega)
                have hfit : poff p + lo * ei.sz + news.length ≤ cs.size := by
                  rw [hnl, Nat.add_assoc, ← Nat.add_mul]; omega
                let cs' := putRow cs (poff p + lo * ei.sz) news
                have hps : cs'.size = cs.size := putRow_size hfit
                have hnewrow : R E (.row ei.sz n fun k => if lo ≤ k ∧ k < lo + min m0 len then g (k - lo) else f k) (fun q => cs'[q]?) (0 + poff p) := by
                  simp only [R] at hrow ⊢
                  intro k hk'
                  rw [Nat.zero_add]
                  by_cases hin : lo ≤ k ∧ k < lo + min m0 len
                  · rw [if_pos hin]
                    have hkm : k - lo < min m0 len := by omega
                    have h1 : (k - lo) * ei.sz + ei.sz ≤ min m0 len * ei.sz := by rw [← Nat.succ_mul]; exact Nat.mul_le_mul_right _ hkm
                    have h2 : k * ei.sz = lo * ei.sz + (k - lo) * ei.sz := by rw [← Nat.add_mul]; congr 1; omega
                    refine ⟨(hR _ hkm).1, R_shift (g (k - lo)) _ _ ((k - lo) * ei.sz) _ (fun q hq => ?_) (hR _ hkm).2⟩
                    rw [(hR _ hkm).1] at hq
                    show (putRow cs (poff p + lo * ei.sz) news)[poff p + k * ei.sz + q]? = _
                    rw [h2, show poff p + (lo * ei.sz + (k - lo) * ei.sz) + q = poff p + lo * ei.sz + ((k - lo) * ei.sz + q) by omega, putRow_in hfit (by omega)]
                  · rw [if_neg hin]
                    refine ⟨(hrow k hk').1, R_local (fun q h1 h2 => ?_) (hrow k hk').2⟩
                    rw [(hrow k hk').1] at h2
                    refine putRow_out hfit ?_
                    rw [hnl]
                    rcases Nat.lt_or_ge k lo with hlt | hge'
                    · have : k * ei.sz + ei.sz ≤ lo * ei.sz := by rw [← Nat.succ_mul]; exact Nat.mul_le_mul_right _ hlt
                      omega
                    · have h5 : (lo + min m0 len) * ei.sz ≤ k * ei.sz := Nat.mul_le_mul_right _ (by omega)
                      rw [Nat.add_mul] at h5
                      omega
                have hupd := upd_ok p c (.row ei.sz n fun k => if lo ≤ k ∧ k < lo + min m0 len then g (k - lo) else f k) (fun q => cs[q]?) (fun q => cs'[q]?) 0 hp (by rw [hsub]; rfl) hr
                  (fun q _ _ h5 => putRow_out hfit (by
                    simp only [vsize, Nat.zero_add] at h5
                    rw [hnl]
                    rcases h5 with h5 | h5
                    · exact .inl (by omega)
                    · right
                      rw [Nat.add_assoc, ← Nat.add_mul]; omega)) hnewrow
                rcases h4 with h4 | ⟨_, rfl, _⟩
                · have hl : len = 0 := by omega
                  subst hl
                  have hnil : news = [] := List.eq_nil_of_length_eq_zero (by rw [hnl]; simp)
                  have hcs : cs' = cs := by
                    apply Array.ext'
                    simp [cs', putRow, hnil]
                  refine ⟨_, E, _, _, hrun 0 E.w (by subst hnil; cases A <;> simp [storeCells]), Ext.refl E, hw, hs.replace hci (.inr ⟨hvt, hnk, cs, t', hbk, by rw [hupd.2]; exact hle, by have h6 := hupd.1; rw [hcs] at h6; exact h6⟩), T_int.2 rfl, hk⟩
                · have hst := run_storeCells_at (P := P) (E.ρ i) (poff p + lo * ei.sz) t' news 0 cs E.w hbk (by simpa using hfit) hsrc.one
                  simp only [Nat.add_zero] at hst
                  have hwr : Wrote E.w (E.w.setRow (E.ρ i) cs') (E.ρ i) cs' t' := Wrote.setRow hbk
                  exact ⟨_, { E with w := E.w.setRow (E.ρ i) cs' }, _, _, hrun 0 _ hst, Wrote.ext hbk hnk hps hwr, Wrote.wf hw hwr, wrote_ok hw hs hci hvt hbk hnk hps hwr hupd.1 (by rw [hupd.2, hps]; exact hle), T_int.2 rfl, hk⟩
            · exact hk.elim
          · exact hk.elim
        · exact hd.elim
      · obtain ⟨A, rfl⟩ := T_emp.1 hx
        have hnany : truncV y 0 ≠ .any := fun e => by rw [e] at hd; simp [srcD] at hd
        obtain ⟨Y', m0, hT', hl0, hl1, hf⟩ := trunc_ok (P := P) (sz := ei.sz) (n := 0) hy hnany
        have hs1 : ei.sz = 1 ∨ (∀ s, y ≠ .str s) := by
          by_cases hstr : ∃ s, y = .str s
          · obtain ⟨s, rfl⟩ := hstr
            simp only [truncV, srcD] at hd
            split at hd
            · rename_i hb; simp only [Nat.beq_eq] at hb; exact .inl hb
            · exact hd.elim
          · exact .inr fun s hs => hstr ⟨s, hs⟩
        obtain ⟨m, g, news, hd, hsrc, hR⟩ := srcD_ok ht hw hs hgx hk hd hT'
        have hm : m = min m0 0 := by
          have h1 := hsrc.len E.w
          rw [hl1] at h1
          injection h1 with h1
          exact h1.symm
        subst hm
        have hnil : news = [] := List.eq_nil_of_length_eq_zero (by rw [hsrc.newsLen]; simp)
        subst hnil
        have hcells : (Builtin.firstCells ei.sz (min m0 0) Y).run P E.w = .ok #[] E.w := (hf hs1 E.w).trans hsrc.cells
        have hcells0 : (Builtin.firstCells ei.sz 0 Y).run P E.w = .ok #[] E.w := by simpa using hcells
        refine ⟨.int .i64 0, E, _, _, ?_, Ext.refl E, hw, hs, T_int.2 rfl, hd⟩
        cases A <;> simp [Builtin.copy_, run_underlying hu, hl0, hso, hcells0, goInt, storeCells]
      · exact hd.elim
    · exact hd.elim
  · exact hd.elim
end
end Go.DD

/- Conversions between strings and bytes. -/
namespace Go.DD
set_option linter.unusedVariables false
set_option linter.unusedSimpArgs false
open Go.RowKit

def u8Of (v : V) : UInt8 := UInt8.ofNat (intOfV v).toNat
def bytesOf (n : Nat) (f : Nat → V) : List UInt8 := (List.range n).map fun k => u8Of (f k)
def isU8 : V → Prop | .int .u8 n => 0 ≤ n ∧ n < 256 | _ => False
/-- A string's bytes, new; they stay. -/
def convSB (tb : List (Option TI)) (s d : Nat) (x : V) (κ : V → Prop) : Prop :=
  match getT tb s, getT tb d with
  | some ⟨.str, _, _, _⟩, some ⟨.slice e, _, _, _⟩ =>
    match getT tb e with
    | some ⟨.int .u8, _, _, _⟩ => match x with | .str l => κ (.imm false 1 l.length fun k => .int .u8 (l.getD k 0).toNat) | _ => False
    | _ => False
  | _, _ => False
/-- Bytes as a string. -/
def convBS (tb : List (Option TI)) (s d : Nat) (x : V) (h : List (Option V)) (κ : V → Prop) : Prop :=
  match getT tb s, getT tb d with
  | some ⟨.slice e, a, b, c⟩, some ⟨.str, _, _, _⟩ =>
    match getT tb e with
    | some ⟨.int .u8, _, _, _⟩ => match x with
      | .str _ => False
      | x => srcD 1 x h fun n f => Ob (∀ k, k < n → isU8 (f k)) ∧ κ (.str (bytesOf n f))
    | _ => False
  | _, _ => False
/-- A literal's bytes get a mark: they stay as they are. -/
def convSame (tb : List (Option TI)) (t : Nat) (x : V) (h : List (Option V)) (κ : V → List (Option V) → Prop) : Prop :=
  match getT tb t with
  | some ⟨.slice e, _, _, _⟩ =>
    match getT tb e with
    | some ⟨.int .u8, _, _, _⟩ =>
      match x with
      | .sl i [] sz lo len _ =>
        match hget h i with
        | some (.row sz' n f) => match Nat.beq sz sz' && !Nat.beq n 0 with
          | true => Ob (lo + len ≤ n ∧ len ≠ 0) ∧ Ob (∀ k, k < len → noref' (f (lo + k))) ∧ κ (.imm false sz len fun k => f (lo + k)) (h.set i none)
          | false => False
        | _ => False
      | _ => False
    | _ => False
  | _ => convNum tb t t x fun v => κ v h
where noref' : V → Prop | .int .. | .tt | .ff | .bool _ | .str _ => True | _ => False

section
variable {P : Program} {tb : List (Option TI)} {E : Env}

/-- A new block that stays. -/
def Env.keep (E : Env) (w' : World) : Env := { E with w := w', S := fun b => E.S b ∨ b = E.w.heap.size, K := fun b => E.K b ∨ b = E.w.heap.size }
theorem keep_ok (hw : Wf E) {h : List (Option V)} (hs : SimH E h) {w' : World} (ho : w'.os = E.w.os) (htp : w'.tape = E.w.tape) (hout : w'.output = E.w.output) (hsz : w'.heap.size = E.w.heap.size + 1) (hold : ∀ b, b < E.w.heap.size → w'.heap[b]? = E.w.heap[b]?) :
    Ext E (E.keep w') ∧ Wf (E.keep w') ∧ SimH (E.keep w') h := by
  have hx : Ext E (E.keep w') := {
    os := ho, tape := htp, output := hout, size := by simp [Env.keep, hsz], N := Nat.le_refl _, ρ := fun _ _ => rfl, vt := fun _ _ => rfl
    S := fun b hb => .inl hb
    S' := fun b hb => hb.imp id fun e hk => by have := hw.K b hk; omega
    L := fun _ => Iff.rfl
    K := fun b hb => .inl hb
    kept := fun b hb => hold b (hw.K b hb)
    cells := fun b cs t fr hb => ⟨cs, fr, (hold b (Array.getElem?_eq_some_iff.1 hb).1).trans hb, rfl⟩ }
  refine ⟨hx, ⟨fun b hb => hb.imp (hw.S b) id, fun b hb => .inl (hw.L b hb), fun b hb => ?_⟩, ⟨hs.len, fun i u hi => ?_, hs.inj⟩⟩
  · simp only [Env.keep, hsz]
    rcases hb with hb | hb
    · have := hw.K b hb; omega
    · omega
  · have hlt : E.vt i = false → E.ρ i < E.w.heap.size := fun hv => by
      rcases hs.live i u hi with ⟨h1, _⟩ | ⟨_, _, cs', t', h3, _⟩
      · rw [h1] at hv; cases hv
      · exact (Array.getElem?_eq_some_iff.1 h3).1
    refine (hs.live i u hi).ext hw hx (hs.lt hi) (fun hk hv hk' => ?_) (fun hv => hold _ (hlt hv))
    rcases hk' with hk' | hk'
    · exact hk hk'
    · have := hlt hv; omega

theorem convSB_ok (ht : TabOk P tb) (hw : Wf E) {h : List (Option V)} (hs : SimH E h) {s d : Nat} {x : V} {X : Value} {κ : V → List (Option V) → Prop} (hl : convSB tb s d x (fun v => κ v h)) (hx : T E x X) : ResH E κ ((convert s d X).run P E.w) := by
  unfold convSB at hl
  split at hl
  · rename_i e _ _ _ hg hg'
    split at hl
    · rename_i _ _ _ hge
      split at hl
      · rename_i l
        obtain rfl := T_str.1 hx
        have hrun := Lib.run_convert_string_bytes (P := P) E.w s d e ⟨l.toArray⟩ (ht.get hg).str (ht.get hg').slice (ht.get hge).int
        obtain ⟨k1, k2, k3⟩ := keep_ok (w' := Lib.bytesWorld E.w e ⟨l.toArray⟩) hw hs rfl rfl rfl (Lib.bytesWorld_size _ _ _) (fun b hb => Lib.bytesWorld_at_old _ _ _ b hb)
        have hlen : (ByteArray.mk l.toArray).size = l.length := rfl
        rw [hlen] at hrun
        refine ⟨_, E.keep (Lib.bytesWorld E.w e ⟨l.toArray⟩), .imm false 1 l.length fun k => .int .u8 (l.getD k 0).toNat, h, hrun, k1, k2, k3, T_imm.2 ⟨_, _, rfl, ?_, .inr ⟨E.w.heap.size, 0, rfl, Or.inr rfl, fun k hk => ⟨rfl, ?_⟩⟩⟩, hl⟩
        · exact grownCap_ge _ _ _ _
        · simp only [R, cellsAt, Nat.mul_one, Nat.zero_add]
          exact Lib.bytesWorld_cell E.w e ⟨l.toArray⟩ k hk
      · exact hl.elim
    · exact hl.elim
  · exact hl.elim

theorem foldl_push : ∀ (ns : List UInt8) (s : ByteArray), ns.foldl (fun r n => r.push n) s = ⟨s.data ++ ns.toArray⟩
  | [], s => by simp
  | n :: ns, s => by
    rw [List.foldl_cons, foldl_push ns]
    simp [ByteArray.push]

theorem convBS_ok (ht : TabOk P tb) (hw : Wf E) {h : List (Option V)} (hs : SimH E h) {s d : Nat} {x : V} {X : Value} {κ : V → Prop} (hl : convBS tb s d x h κ) (hx : T E x X) : ResP E κ ((convert s d X).run P E.w) := by
  unfold convBS at hl
  split at hl
  · rename_i e a b c _ _ _ hg hg'
    split at hl
    · rename_i _ _ _ hge
      split at hl
      · exact hl.elim
      rename_i hns
      obtain ⟨n, f, news, ⟨⟨hu8⟩, hk⟩, hsrc, hR⟩ := srcD_ok ht hw hs hg rfl hl hx
      have hsl := (ht.get hg).slice
      refine .mk _ _ ?_ (T_str.2 rfl) hk
      have hX : ∃ A n' cp, X = .slice A n' cp := by
        unfold srcD at hl
        split at hl
        · obtain ⟨A, cp, h2, _⟩ := T_imm.1 hx; exact ⟨_, _, _, h2⟩
        · obtain ⟨A, h2⟩ := T_emp.1 hx; exact ⟨_, _, _, h2⟩
        · exact absurd rfl (hns _)
        · obtain ⟨_, A, cp, h2, _⟩ := T_sl.1 hx; exact ⟨_, _, _, h2⟩
        · exact hl.elim
      obtain ⟨A, n', cp, rfl⟩ := hX
      obtain rfl : n' = n := by
        have h1 := hsrc.len E.w
        simp [Builtin.lenOf] at h1
        exact h1
      have hnews : news = ((List.range n').map fun k => intOfV (f k)).map (Value.int .u8) := by
        apply List.ext_getElem?
        intro k
        by_cases hk' : k < n'
        · have h1 := (hR k hk').2
          have h2 := hu8 k hk'
          cases hf : f k with
          | int q m =>
            rw [hf] at h1 h2
            cases q <;> simp only [isU8] at h2
            simp only [R, Nat.mul_one] at h1
            rw [h1]
            simp [hk', hf, intOfV]
          | _ => rw [hf] at h2; simp only [isU8] at h2
        · rw [List.getElem?_eq_none (by rw [hsrc.newsLen]; omega), List.getElem?_eq_none (by simp; omega)]
      rw [run_convert_bytes_string E.w s d e A n' cp hsl (ht.get hge).int (ht.get hg').str]
      have hfold : (((List.range n').map fun k => intOfV (f k)).foldl (fun r n => r.push (UInt8.ofNat n.toNat)) ByteArray.empty) = ⟨(bytesOf n' f).toArray⟩ := by
        have := foldl_push (bytesOf n' f) ByteArray.empty
        rw [show (ByteArray.empty.data ++ (bytesOf n' f).toArray) = (bytesOf n' f).toArray by rw [show ByteArray.empty.data = #[] from rfl, Array.empty_append]] at this
        rw [← this]
        simp only [bytesOf, List.foldl_map, u8Of]
      cases A with
      | none =>
        have h1 := hsrc.cells
        simp [Builtin.firstCells] at h1
        have h2 : n' = 0 := by
          have := hsrc.newsLen
          rw [h1] at this
          simpa using this.symm
        subst h2
        rfl
      | some a =>
        have h1 := hsrc.cells
        simp only [Builtin.firstCells, Nat.mul_one] at h1
        rw [run_bytesToString E.w a n' cp ((List.range n').map fun k => intOfV (f k)) (by rw [h1, hnews]), hfold]
    · exact hl.elim
  · exact hl.elim

/-- A local row becomes one that stays. -/
def Env.stay (E : Env) (w' : World) (i : Nat) : Env := { E with w := w', S := fun b => E.S b ∨ b = E.ρ i, K := fun b => E.K b ∨ b = E.ρ i }
theorem stay_ok (hw : Wf E) {h : List (Option V)} (hs : SimH E h) {w' : World} {i : Nat} {v : V} {cs : Array Value} {t : TypeId} {fr : Nat × Nat} (hi : h[i]? = some (some v)) (hvt : E.vt i = false) (hnk : ¬ E.K (E.ρ i)) (hb : E.w.heap[E.ρ i]? = some (.cells cs t (0, 0)))
    (ho : w'.os = E.w.os) (htp : w'.tape = E.w.tape) (hout : w'.output = E.w.output) (hsz : w'.heap.size = E.w.heap.size) (hnew : w'.heap[E.ρ i]? = some (.cells cs t fr)) (hold : ∀ b, b ≠ E.ρ i → w'.heap[b]? = E.w.heap[b]?) :
    Ext E (E.stay w' i) ∧ Wf (E.stay w' i) ∧ SimH (E.stay w' i) (h.set i none) := by
  have hx : Ext E (E.stay w' i) := {
    os := ho, tape := htp, output := hout, size := by simp [Env.stay, hsz], N := Nat.le_refl _, ρ := fun _ _ => rfl, vt := fun _ _ => rfl
    S := fun b hb => .inl hb
    S' := fun b hb => hb.imp id fun (e : b = E.ρ i) => by rw [e]; exact hnk
    L := fun _ => Iff.rfl
    K := fun b hb => .inl hb
    kept := fun b hbk => hold b (fun e => hnk (e ▸ hbk))
    cells := fun b cs' t' fr' hbb => by
      by_cases e : b = E.ρ i
      · subst e
        rw [hb] at hbb
        cases hbb
        exact ⟨cs, fr, hnew, rfl⟩
      · exact ⟨cs', fr', (hold b e).trans hbb, rfl⟩ }
  have hf := hs.forget i
  refine ⟨hx, ⟨fun b hb => hb.imp (hw.S b) id, fun b hb => .inl (hw.L b hb), fun b hbk => ?_⟩, ⟨hf.len, fun j u hj => ?_, hf.inj⟩⟩
  · simp only [Env.stay, hsz]
    rcases hbk with hbk | hbk
    · exact hw.K b hbk
    · subst hbk; exact (Array.getElem?_eq_some_iff.1 hb).1
  · have hji : j ≠ i := fun e => by
      subst e
      rw [List.getElem?_set] at hj
      simp at hj
    have hj' : h[j]? = some (some u) := by
      rw [List.getElem?_set] at hj
      rwa [if_neg (fun e => hji e.symm)] at hj
    have hne : E.vt j = false → E.ρ j ≠ E.ρ i := fun hv => hs.inj j i u v hj' hi hji hv hvt
    refine (hs.live j u hj').ext hw hx (hs.lt hj') (fun hk hv hk' => ?_) (fun hv => hold _ (hne hv))
    rcases hk' with hk' | hk'
    · exact hk hk'
    · exact hne hv hk'

theorem freeze_at (w : World) (b k : Nat) (cs : Array Value) (t : TypeId) (hb : w.heap[b]? = some (.cells cs t (0, 0))) :
    (w.freeze ⟨b, k, none⟩ 1).heap[b]? = some (.cells cs t (k, k + 1)) ∧ (w.freeze ⟨b, k, none⟩ 1).heap.size = w.heap.size ∧ ∀ c, c ≠ b → (w.freeze ⟨b, k, none⟩ 1).heap[c]? = w.heap[c]? := by
  unfold World.freeze
  rw [if_neg (by decide)]
  refine ⟨?_, by simp, fun c hc => ?_⟩
  · simp only [Array.getElem?_modify, if_true, hb, Option.map_some]
    rfl
  · simp only [Array.getElem?_modify]
    rw [if_neg (fun e => hc e.symm)]
theorem noref'_R {E' : Env} {v : V} {c : Nat → Option Value} {o : Nat} (h : convSame.noref' v) (hr : R E v c o) : R E' v c o := by
  cases v <;> simp only [convSame.noref'] at h <;> simpa only [R] using hr

theorem convSame_ok (ht : TabOk P tb) (hw : Wf E) {h : List (Option V)} (hs : SimH E h) {t : Nat} {x : V} {X : Value} {κ : V → List (Option V) → Prop} (hl : convSame tb t x h κ) (hx : T E x X) : ResH E κ ((convert t t X).run P E.w) := by
  unfold convSame at hl
  split at hl
  · rename_i e _ _ _ hg
    split at hl
    · rename_i _ _ _ hge
      split at hl
      · rename_i i sz lo len cap
        split at hl
        · rename_i sz' n f hc
          split at hl
          · rename_i hb
            simp only [Bool.and_eq_true, Nat.beq_eq, Bool.not_eq_true'] at hb
            obtain ⟨rfl, hn0⟩ := hb
            have hn0 : n ≠ 0 := fun e => by simp [e] at hn0
            obtain ⟨⟨hle, hlne⟩, ⟨hnr⟩, hk⟩ := hl
            obtain ⟨hiN, A, cp, rfl, h2, h3, h4⟩ := T_sl.1 hx
            have hci := (hget_eq h i _).1 hc
            rcases hs.live i _ hci with ⟨_, sz0, f0, h5⟩ | ⟨hvt, hnk, cs, t', hbk, hvs, hr⟩
            · simp only [V.row.injEq] at h5; exact absurd h5.2.1 hn0
            · rcases h4 with h4 | ⟨_, rfl, _⟩
              · omega
              · obtain ⟨f1, f2, f3⟩ := freeze_at E.w (E.ρ i) cs.size cs t' hbk
                obtain ⟨k1, k2, k3⟩ := stay_ok (w' := E.w.freeze ⟨E.ρ i, cs.size, none⟩ 1) hw hs hci hvt hnk hbk (by unfold World.freeze; rfl) (by unfold World.freeze; rfl) (by unfold World.freeze; rfl) f2 f1 f3
                have hsh : E.w.shape? (E.ρ i) = some (t', cs.size) := by unfold World.shape?; rw [hbk]
                refine ⟨_, E.stay (E.w.freeze ⟨E.ρ i, cs.size, none⟩ 1) i, .imm false sz len fun k => f (lo + k), _, ?_, k1, k2, k3, T_imm.2 ⟨_, cp, rfl, by omega, .inr ⟨E.ρ i, poff [] + lo * sz, rfl, Or.inr rfl, fun k hk' => ?_⟩⟩, hk⟩
                · simp [convert, run_underlying (ht.get hg).slice, run_underlying (ht.get hge).int, markStringish, hsh]
                  rfl
                · simp only [R] at hr
                  have h6 := hr (lo + k) (by omega)
                  refine ⟨h6.1, noref'_R (E := E) (hnr k hk') (c := cellsAt (E.w.freeze ⟨E.ρ i, cs.size, none⟩ 1) (E.ρ i)) ?_⟩
                  have h7 : cellsAt (E.w.freeze ⟨E.ρ i, cs.size, none⟩ 1) (E.ρ i) = fun q => cs[q]? := by
                    funext q
                    simp only [cellsAt, World.cell?, f1]
                    simp
                  rw [h7]
                  have h8 := h6.2
                  simp only [poff, Nat.zero_add] at h8 ⊢
                  rw [Nat.add_mul] at h8
                  exact h8
          · exact hl.elim
        · exact hl.elim
      · exact hl.elim
    · exact hl.elim
  · exact (convNum_ok ht hl hx).heap hw hs fun _ h => h
end
end Go.DD

/- An append of a made row to nothing. -/
namespace Go.DD
set_option linter.unusedVariables false
set_option linter.unusedSimpArgs false
open Go.RowKit
def appendMakeD (tb : List (Option TI)) (t : Nat) (base y : V) (h : List (Option V)) (κ : V → List (Option V) → Prop) : Prop :=
  match getT tb t with
  | some ⟨.slice e, _, _, _⟩ =>
    match getT tb e with
    | some ei => match base, y, Nat.blt 0 ei.sz with
      | .emp, .int .i64 n, true => Ob (0 ≤ n ∧ n * ei.by_ ≤ 140737488355328 ∧ n ≤ 140737488355328) ∧ κ (.sl (hlen h) [] ei.sz 0 n.toNat n.toNat) (hsnoc h (.row ei.sz n.toNat fun _ => ei.z))
      | _, _, _ => False
    | none => False
  | _ => False
def appendX (tb : List (Option TI)) (t tx : Nat) (base y : V) (h : List (Option V)) (κ : V → List (Option V) → Prop) : Prop :=
  match getT tb tx with
  | some ⟨.int .i64, _, _, _⟩ => appendMakeD tb t base y h κ
  | _ => appendD tb t tx base y h κ
section
variable {P : Program} {tb : List (Option TI)} {E : Env}
theorem run_append_made (w : World) (t tx ty e : TypeId) (i : TypeInfo) (z : Value) (ht : P.underlying t = some (.slice e)) (hx : P.underlying tx = some (.int .i64)) (hi : P.info? e = some i) (hz : i.zero = some z) (A : Option Addr) (n : Int)
    (h0 : 0 < n) (h1 : n ≤ 140737488355328) (h2 : n * i.bytes ≤ 140737488355328) (hsz : 0 < i.size) :
    (Builtin.append_ #[t, tx] ty #[.slice A 0 0, .int .i64 n]).run P w =
      .ok (.slice (some ⟨w.heap.size, 0, none⟩) (0 + n.toNat) (grownCap w (0 + n.toNat) 0 e))
        (w.drew.alloc (.cells (([] ++ (Builtin.zeroCells z.cells n.toNat).toList).toArray ++ Builtin.zeroCells z.cells (grownCap w (0 + n.toNat) 0 e - (0 + n.toNat))) e)) := by
  have hw : IntKind.i64.wrap n = n := by rw [IntKind.wrap_i64]; omega
  have hn0 : ¬ (n < 0) := by omega
  have hn1 : n.toNat ≠ 0 := by omega
  have h3 : ¬ (281474976710656 < n * (i.bytes : Int)) := by omega
  have h4 : ¬ (9223372036854775807 < ((n.toNat : Nat) : Int)) := by omega
  have h5 : Builtin.nextslicecap n.toNat 0 = n.toNat := by simp [Builtin.nextslicecap]; omega
  have h6 : ¬ (281474976710656 < n.toNat * i.bytes) := by
    have : ((n.toNat * i.bytes : Nat) : Int) = n * i.bytes := by rw [Int.natCast_mul]; congr 1; omega
    omega
  have h7 : ¬ (n = 0) := by omega
  have h8 : ¬ (i.size = 0) := by omega
  have h9 : ¬ (n ≤ 0) := by omega
  have h10 : ¬ (n.toNat ≤ 0) := by omega
  have h12 : ¬ (9223372036854775807 < max n 0) := by omega
  have h13 : ¬ (n.toNat * i.size = 0) := fun h => (Nat.mul_eq_zero.1 h).elim hn1 h8
  have h11 : (Builtin.firstCells i.size 0 (.slice A 0 0)).run P w.drew = .ok #[] w.drew := firstCells_zero i.size A 0 w.drew
  simp [Builtin.append_, run_underlying ht, run_underlying hx, sizeOf, typeInfo, zeroValue, hi, hz, Question.forced, newRow, grownCap, asInt, asIntOf, hw, hn0, h3, h4, h5, h6, h7, h8, h9, h10, h11, h12, h13, hn1]
theorem appendMakeD_ok (ht : TabOk P tb) (hw : Wf E) {h : List (Option V)} (hs : SimH E h) {t tx ty : Nat} {Y B : Value} {base y : V} {κ : V → List (Option V) → Prop} (hx : P.underlying tx = some (.int .i64)) (hB : T E base B) (hY : T E y Y) (hd : appendMakeD tb t base y h κ) :
    ResH E κ ((Builtin.append_ #[t, tx] ty #[B, Y]).run P E.w) := by
  unfold appendMakeD at hd
  split at hd
  · rename_i e _ _ _ hg
    split at hd
    · rename_i ei hge
      split at hd
      · rename_i n hb
        obtain ⟨⟨h0, h1, h2⟩, hk⟩ := hd
        rw [T_int] at hY
        obtain ⟨A, rfl⟩ := T_emp.1 hB
        subst hY
        obtain ⟨f, z, hi, hsz, hby, hz, hzs, hr⟩ := (ht.get hge).zcells (E := E)
        have hsz0 : 0 < ei.sz := by simpa using hb
        rcases Int.lt_or_eq_of_le h0 with hn | rfl
        · have hrun := run_append_made (P := P) E.w t tx ty e f z (ht.get hg).slice hx hi hz A n hn h2 (by rw [hby]; exact h1) (by omega)
          have hzr := zrow_ok (n := n.toNat) hzs (ht.get hge).size hr
          simp only [R] at hzr
          refine newrow_ok hw hs hzs (n := 0) (m := n.toNat) (f := fun _ => ei.z) (g := fun _ => ei.z) (olds := []) (by simp) ?_ (fun k hk => absurd hk (by omega)) (fun k hk => ?_) hrun ?_
          · simp [Builtin.zeroCells, hzs]
          · refine ⟨(ht.get hge).size, ?_⟩
            have := (hzr k hk).2
            rw [Nat.zero_add] at this
            refine R_local (fun q _ _ => ?_) this
            by_cases hq : q < n.toNat * ei.sz <;> simp [Builtin.zeroCells, hzs, hq]
          · simpa using hk
        · have hlit : IntKind.i64.wrap 0 = 0 := rfl
          refine ⟨.slice A 0 0, E.valloc, _, _, ?_, Env.ext_valloc, Env.wf_valloc hw, by rw [hsnoc_eq]; exact valloc_ok hw hs ei.sz _, T_sl.2 ⟨?_, A, 0, rfl, Nat.le_refl _, Nat.le_refl _, .inl rfl⟩, hk⟩
          · have hs := (ht.get hg).slice
            cases A <;> simp [Builtin.append_, run_underlying hs, run_underlying hx, sizeOf, typeInfo, zeroValue, hi, hz, asInt, asIntOf, hlit, storeCells]
            all_goals rfl
          · rw [hlen_eq, hs.len]; simp [Env.valloc]
      · exact hd.elim
    · exact hd.elim
  · exact hd.elim
theorem appendX_ok (ht : TabOk P tb) (hw : Wf E) {h : List (Option V)} (hs : SimH E h) {t tx ty : Nat} {Y B : Value} {base y : V} {κ : V → List (Option V) → Prop} (hB : T E base B) (hY : T E y Y) (hd : appendX tb t tx base y h κ) :
    ResH E κ ((Builtin.append_ #[t, tx] ty #[B, Y]).run P E.w) := by
  unfold appendX at hd
  split at hd
  · rename_i hg
    refine appendMakeD_ok ht hw hs ?_ hB hY hd
    have hT := (ht.get hg).td
    simp only [tdOk] at hT
    split at hT
    · rename_i k hu
      rw [hu]
      simp only [beq_iff_eq] at hT
      rw [← hT]
    · cases hT
  · exact appendD_ok ht hw hs hB hY hd

/-- The same behind what stands there, where there is no room. -/
theorem run_append_made_grow (w : World) (t tx ty e : TypeId) (i : TypeInfo) (z : Value) (ht : P.underlying t = some (.slice e)) (hx : P.underlying tx = some (.int .i64)) (hi : P.info? e = some i) (hz : i.zero = some z) (A : Option Addr) (len cap : Nat) (n : Int) (olds : List Value)
    (hold : (Builtin.firstCells i.size len (.slice A len cap)).run P w.drew = .ok olds.toArray w.drew)
    (h0 : 0 < n) (hg : cap < len + n.toNat) (h1 : ((len + n.toNat : Nat) : Int) ≤ 140737488355328) (h2 : (len + n.toNat) * i.bytes ≤ 140737488355328) (hsz : 0 < i.size) :
    (Builtin.append_ #[t, tx] ty #[.slice A len cap, .int .i64 n]).run P w =
      .ok (.slice (some ⟨w.heap.size, 0, none⟩) (len + n.toNat) (grownCap w (len + n.toNat) cap e))
        (w.drew.alloc (.cells ((olds ++ (Builtin.zeroCells z.cells n.toNat).toList).toArray ++ Builtin.zeroCells z.cells (grownCap w (len + n.toNat) cap e - (len + n.toNat))) e)) := by
  have hw : IntKind.i64.wrap n = n := by rw [IntKind.wrap_i64]; omega
  have hn0 : ¬ (n < 0) := by omega
  have hn1 : n.toNat ≠ 0 := by omega
  have hb : n * (i.bytes : Int) ≤ 140737488355328 := by
    have h3 : n.toNat * i.bytes ≤ (len + n.toNat) * i.bytes := Nat.mul_le_mul_right _ (by omega)
    have : ((n.toNat * i.bytes : Nat) : Int) = n * i.bytes := by rw [Int.natCast_mul]; congr 1; omega
    omega
  have h3 : ¬ (281474976710656 < n * (i.bytes : Int)) := by omega
  have h4 : ¬ (9223372036854775807 < ((len + n.toNat : Nat) : Int)) := by omega
  have h4' : ¬ (9223372036854775807 < (len : Int) + ((n.toNat : Nat) : Int)) := by omega
  have h4'' : ¬ (9223372036854775807 < (len : Int) + max n 0) := by omega
  have h6 : ¬ (281474976710656 < Builtin.nextslicecap (len + n.toNat) cap * i.bytes) := by
    have := growslice_fits hg h2
    omega
  have h8 : ¬ (i.size = 0) := by omega
  have h9 : ¬ (len + n.toNat ≤ cap) := by omega
  have h13 : ¬ (n.toNat * i.size = 0) := fun h => (Nat.mul_eq_zero.1 h).elim hn1 h8
  have h14 : ¬ (n ≤ 0) := by omega
  have h15 : ¬ (n = 0) := by omega
  have hA : (olds ++ (Builtin.zeroCells z.cells n.toNat).toList).toArray = olds.toArray ++ Builtin.zeroCells z.cells n.toNat := by apply Array.ext'; simp
  rw [hA]
  simp [Builtin.append_, run_underlying ht, run_underlying hx, sizeOf, typeInfo, zeroValue, hi, hz, Question.forced, newRow, grownCap, asInt, asIntOf, hw, hn0, h3, h4, h4', h4'', h6, h8, h9, hold, h13, h14, h15, hn1]

/-- What a new row behind an append is, with all its room. -/
theorem newrowX_ok (ht : TabOk P tb) (hw : Wf E) {h : List (Option V)} (hs : SimH E h) {e : Nat} {ei : TI} (hge : getT tb e = some ei) {z : Value} {fi : TypeInfo} (hfi : P.info? e = some fi) (hfz : fi.zero = some z) {n m sCap : Nat} {f g : Nat → V} {olds news : List Value} (ho : olds.length = n * ei.sz) (hn : news.length = m * ei.sz)
    (hf : ∀ k, k < n → vsize (f k) = ei.sz ∧ R E (f k) (fun q => olds[q]?) (k * ei.sz)) (hg : ∀ k, k < m → vsize (g k) = ei.sz ∧ R E (g k) (fun q => news[q]?) (k * ei.sz)) {r : Result Value}
    (hr : r = .ok (.slice (some ⟨E.w.heap.size, 0, none⟩) (n + m) (grownCap E.w (n + m) sCap e)) (E.w.drew.alloc (.cells ((olds ++ news).toArray ++ Builtin.zeroCells z.cells (grownCap E.w (n + m) sCap e - (n + m))) e)))
    {κ : V → List (Option V) → Prop} (hk : ∀ (C : Nat) (f' : Nat → V), n + m ≤ C → (∀ k, k < n + m → f' k = if k < n then f k else g (k - n)) → (∀ k, n + m ≤ k → k < C → f' k = ei.z) → κ (.slx (hlen h) ei.sz 0 (n + m) C) (hsnoc h (.row ei.sz C f'))) : ResH E κ r := by
  have hx := E.ext_drew
  have hwd := Env.wf_drew hw
  have hsd := drew_ok hw hs
  obtain ⟨fi', z', h1, h2, h3, h4, hzs, hzr⟩ := (ht.get hge).zcells (E := E.drew)
  rw [hfi] at h1
  cases h1
  rw [hfz] at h4
  cases h4
  have hge' := grownCap_ge E.w (n + m) sCap e
  generalize hG : grownCap E.w (n + m) sCap e = G at hr hge'
  have hzc : (Builtin.zeroCells z.cells (G - (n + m))).size = (G - (n + m)) * ei.sz := by simp [Builtin.zeroCells, hzs]
  have hsize : ((olds ++ news).toArray ++ Builtin.zeroCells z.cells (G - (n + m))).size = G * ei.sz := by
    simp only [Array.size_append, List.size_toArray, List.length_append, ho, hn, hzc]
    rw [← Nat.add_mul, ← Nat.add_mul]
    congr 1
    omega
  have hR1 : R E.drew (.row ei.sz (n + m) fun k => if k < n then f k else g (k - n)) (fun q => (olds ++ news ++ []).toArray[q]?) 0 :=
    R_row_cells ho hn (fun k hk => ⟨(hf k hk).1, R_ext hw hx _ _ _ (hf k hk).2⟩) (fun k hk => ⟨(hg k hk).1, R_ext hw hx _ _ _ (hg k hk).2⟩)
  have hzrow := zrow_ok (n := G - (n + m)) hzs (ht.get hge).size hzr
  simp only [R] at hR1 hzrow
  have hR : R E.drew (.row ei.sz ((n + m) + (G - (n + m))) fun k => if k < n + m then (fun k => if k < n then f k else g (k - n)) k else (fun _ => ei.z) (k - (n + m))) (fun q => ((olds ++ news) ++ (Builtin.zeroCells z.cells (G - (n + m))).toList ++ []).toArray[q]?) 0 := by
    refine R_row_cells (by simp only [List.length_append, ho, hn, Nat.add_mul]) (by simpa using hzc) (fun k hk => ⟨(hR1 k hk).1, ?_⟩) (fun k hk => ⟨(ht.get hge).size, ?_⟩)
    · have := (hR1 k hk).2
      simpa using this
    · have := (hzrow k hk).2
      rw [Nat.zero_add] at this
      refine R_local (fun q _ _ => ?_) this
      by_cases hq : q < (G - (n + m)) * ei.sz <;> simp [Builtin.zeroCells, hzs, hq]
  rw [Nat.add_sub_cancel' hge'] at hR
  have hcells : ((olds ++ news) ++ (Builtin.zeroCells z.cells (G - (n + m))).toList ++ []).toArray = (olds ++ news).toArray ++ Builtin.zeroCells z.cells (G - (n + m)) := by simp
  rw [hcells] at hR
  obtain ⟨g1, g2, g3⟩ := grown_new (t := e) hwd hsd hR (by simp only [vsize]; rw [hsize, Nat.mul_comm]; exact Nat.le_refl _)
  refine ⟨_, E.drew.alloc (.cells ((olds ++ news).toArray ++ Builtin.zeroCells z.cells (G - (n + m))) e), _, _, hr, hx.trans g1, g2, g3, T_slx.2 ⟨?_, some ⟨E.w.heap.size, 0, none⟩, rfl, hge', .inr ⟨?_, ?_, (olds ++ news).toArray ++ Builtin.zeroCells z.cells (G - (n + m)), e, (0, 0), ?_, ?_⟩⟩, hk G _ hge' (fun k hk => if_pos hk) (fun k hk _ => if_neg (Nat.not_lt.2 hk))⟩
  · rw [hlen_eq, hs.len]; simp [Env.alloc, Env.drew]
  · rw [hlen_eq, hs.len]; simp [Env.alloc, Env.drew]
  · rw [hlen_eq, hs.len]; simp [Env.alloc, Env.drew]
  · rw [hlen_eq, hs.len]
    simp only [Env.alloc, Env.drew, if_true]
    exact World.heap_alloc_new _ _
  · rw [hsize, Nat.zero_add]; exact Nat.le_refl _

/-- Appends to a row whose room is known: it stays what it was (there is none), or goes. -/
def growX (keep : Bool) (ei : TI) (base : V) (m : Nat) (g : Nat → V) (h : List (Option V)) (κ : V → List (Option V) → Prop) : Prop :=
  match base with
  | .slx i sz lo len cap =>
    match hget h i with
    | some (.row sz' n f) => match Nat.beq sz ei.sz && Nat.beq sz' ei.sz && Nat.beq lo 0 with
      | true => Ob (len ≤ n ∧ cap ≤ n) ∧ Ob ((len + m) * ei.by_ ≤ 140737488355328 ∧ len + m ≤ 140737488355328) ∧ (match keep with
        | true => Ob (cap < len + m) ∧ ∀ (C : Nat) (f' : Nat → V), len + m ≤ C → (∀ k, k < len + m → f' k = if k < len then f k else g (k - len)) → (∀ k, len + m ≤ k → k < C → f' k = ei.z ∨ (k < n ∧ f' k = f k)) → κ (.slx (hlen h) sz 0 (len + m) C) (hsnoc h (.row sz C f'))
        | false => ∀ (C : Nat) (f' : Nat → V), len + m ≤ C → (∀ k, k < len + m → f' k = if k < len then f k else g (k - len)) → (∀ k, len + m ≤ k → k < C → f' k = ei.z ∨ (k < n ∧ f' k = f k)) → κ (.slx (hlen h) sz 0 (len + m) C) (hsnoc (h.set i none) (.row sz C f')))
      | false => False
    | _ => False
  | _ => False
theorem growX_mono {keep : Bool} {ei : TI} {base : V} {m : Nat} {g : Nat → V} {h : List (Option V)} {κ κ' : V → List (Option V) → Prop} (hk : ∀ v k, κ v k → κ' v k) (hd : growX keep ei base m g h κ) : growX keep ei base m g h κ' := by
  unfold growX at hd ⊢
  split at hd
  · split at hd
    · split at hd
      · simp only [*]
        refine ⟨trivial, trivial, ?_⟩
        cases keep
        · exact fun C f' h1 h2 h3 => hk _ _ (hd.2.2 C f' h1 h2 h3)
        · exact ⟨hd.2.2.1, fun C f' h1 h2 h3 => hk _ _ (hd.2.2.2 C f' h1 h2 h3)⟩
      · exact hd.elim
    · exact hd.elim
  · exact hd.elim
/-- What stands in a row whose room is known. -/
theorem slx_olds (hw : Wf E) {h : List (Option V)} (hs : SimH E h) {j sz len cap n : Nat} {f : Nat → V} {B : Value} (hB : T E (.slx j sz 0 len cap) B) (hc : hget h j = some (.row sz n f)) (hl : len ≤ n) :
    ∃ (A : Option Addr) (olds : List Value), B = .slice A len cap ∧ olds.length = len * sz ∧ (Builtin.firstCells sz len (.slice A len cap)).run P E.w.drew = .ok olds.toArray E.w.drew ∧ (∀ k, k < len → vsize (f k) = sz ∧ R E (f k) (fun q => olds[q]?) (k * sz)) := by
  obtain ⟨hjN, A, rfl, h2, h4⟩ := T_slx.1 hB
  have hcj := (hget_eq h j _).1 hc
  rcases Nat.eq_zero_or_pos len with rfl | hl0
  · exact ⟨A, [], rfl, by simp, firstCells_zero sz A cap E.w.drew, fun k hk => absurd hk (by omega)⟩
  · rcases h4 with h4 | ⟨hvt, rfl, cs0, t0, fr, hcs0, hbound⟩
    · omega
    · rcases hs.live j _ hcj with ⟨h5, _⟩ | ⟨_, hnk, cs, t', hbk, hle, hr⟩
      · rw [h5] at hvt; cases hvt
      · simp only [R] at hr
        have hca : cellsAt E.w (E.ρ j) = fun q => cs[q]? := by funext q; simp [cellsAt, World.cell?, hbk]
        have hf' : ∀ k, k < len → vsize (f k) = sz ∧ R E (f k) (cellsAt E.w (E.ρ j)) (0 + k * sz) := fun k hk => by rw [hca]; exact hr k (by omega)
        refine ⟨_, cellList (cellsAt E.w (E.ρ j)) 0 (len * sz), rfl, cellList_length _ _ _, ?_, rowlist hf'⟩
        refine run_firstCells_some E.w.drew sz len _ len cap _ (by rw [cellList_length]) (fun q v hq => ?_)
        have hlt : q < len * sz := by
          have := (List.getElem?_eq_some_iff.1 hq).1
          rwa [cellList_length] at this
        obtain ⟨x, h1, _⟩ := rowcells hf' q hlt
        rw [cellList_get hlt h1] at hq
        cases hq
        rw [Nat.zero_mul, Addr.add_mid]; exact h1
theorem growX_ok (ht : TabOk P tb) (hw : Wf E) {h : List (Option V)} (hs : SimH E h) {t e tx ty : Nat} {ei : TI} (hu : P.underlying t = some (.slice e)) (hge : getT tb e = some ei) {m : Nat} {g : Nat → V} {news : List Value} {Y B : Value} {keep : Bool} {base : V} {κ : V → List (Option V) → Prop}
    (hsrc : Src P ei.sz tx Y m news E.w) (hg : ∀ k, k < m → vsize (g k) = ei.sz ∧ R E (g k) (fun q => news[q]?) (k * ei.sz)) (hB : T E base B) (hd : growX keep ei base m g h κ) :
    ResH E κ ((Builtin.append_ #[t, tx] ty #[B, Y]).run P E.w) := by
  obtain ⟨i, z, hi, hsz, hby, hz, _, hzs⟩ := (ht.get hge).info
  have hsrc' : Src P i.size tx Y m news E.w := by rw [hsz]; exact hsrc
  have hnl : news.length = m * ei.sz := hsrc.newsLen
  unfold growX at hd
  split at hd
  · rename_i j sz lo len cap
    split at hd
    · rename_i sz' n f hc
      split at hd
      · rename_i hb
        simp only [Bool.and_eq_true, Nat.beq_eq] at hb
        obtain ⟨⟨rfl, rfl⟩, rfl⟩ := hb
        obtain ⟨⟨hln, hcn⟩, ⟨hb1, hb2⟩, hd⟩ := hd
        obtain ⟨A, olds, rfl, hol, hold, hfo⟩ := slx_olds (P := P) hw hs hB hc hln
        obtain ⟨hjN, A', hA, h2, h4⟩ := T_slx.1 hB
        cases hA
        have hcj := (hget_eq h j _).1 hc
        have hlenset : hlen (h.set j none) = hlen h := by rw [hlen_eq, hlen_eq]; simp
        have elsewhere : cap < len + m → ∀ (h0 : List (Option V)), SimH E h0 → hlen h0 = hlen h → (∀ (C : Nat) (f' : Nat → V), len + m ≤ C → (∀ k, k < len + m → f' k = if k < len then f k else g (k - len)) → (∀ k, len + m ≤ k → k < C → f' k = ei.z ∨ (k < n ∧ f' k = f k)) → κ (.slx (hlen h) ei.sz 0 (len + m) C) (hsnoc h0 (.row ei.sz C f'))) → ResH E κ ((Builtin.append_ #[t, tx] ty #[.slice A len cap, Y]).run P E.w) := fun hgr h0 hs0 hl0 hk => by
          have hrun := run_append_grow_src E.w t tx ty e i z hu hi hz A len cap olds (by rw [hsz]; exact hold) Y m news hsrc' hgr (by omega) (growslice_fits hgr (by rw [hby]; exact hb1))
          refine newrowX_ok ht hw hs0 hge hi hz hol hnl hfo hg hrun ?_
          rw [hl0]
          exact fun C f' h1 h2 h3 => hk C f' h1 h2 fun k h4 h5 => .inl (h3 k h4 h5)
        cases keep with
        | true => exact elsewhere hd.1.out h hs rfl hd.2
        | false =>
          by_cases hgr : cap < len + m
          · exact elsewhere hgr _ (hs.forget j) hlenset hd
          · replace hgr : len + m ≤ cap := by omega
            rcases Nat.eq_zero_or_pos cap with rfl | hcp
            · have hm0 : m = 0 := by omega
              have hl0 : len = 0 := by omega
              subst hm0
              subst hl0
              have hnil : news = [] := List.eq_nil_of_length_eq_zero (by rw [hnl, Nat.zero_mul])
              subst hnil
              refine ⟨.slice A 0 0, E.valloc, _, _, run_append_nothing E.w t tx ty e i hu hi A 0 0 (Nat.le_refl _) Y hsrc', Env.ext_valloc, Env.wf_valloc hw, by rw [hsnoc_eq]; exact valloc_ok hw (hs.forget j) ei.sz f, T_slx.2 ⟨?_, A, rfl, Nat.le_refl _, .inl rfl⟩, hd 0 f (Nat.le_refl _) (fun k hk => absurd hk (by omega)) (fun k _ hk => absurd hk (by omega))⟩
              rw [hlen_eq, hs.len]; simp [Env.valloc]
            · rcases h4 with h4 | ⟨hvt, rfl, cs0, t0, fr, hcs0, hbound⟩
              · omega
              · rcases hs.live j _ hcj with ⟨h5, _⟩ | ⟨_, hnk, cs, t', hbk, hle, hr⟩
                · rw [h5] at hvt; cases hvt
                · have e1 := hbk.symm.trans hcs0
                  injection e1 with e1
                  injection e1 with e1 e2 e3
                  subst e1
                  simp only [Nat.zero_add, Nat.zero_mul] at hbound ⊢
                  simp only [vsize] at hle
                  simp only [R] at hr
                  have hfit : len * ei.sz + news.length ≤ cs.size := by
                    rw [hnl, ← Nat.add_mul]
                    exact Nat.le_trans (Nat.mul_le_mul_right _ hgr) hbound
                  have hrun := run_append_room_src E.w t tx ty e i hu hi (E.ρ j) 0 len cap Y m news hsrc' hgr (fun q hq => by
                    have : E.w.cell? ⟨E.ρ j, 0 + len * i.size + q, none⟩ = cs[0 + len * i.size + q]? := by simp [World.cell?, hbk]
                    rw [hsz] at this ⊢
                    simp only [this, Array.getElem?_eq_getElem (show 0 + len * ei.sz + q < cs.size by omega), Option.isSome_some]) (fun q hq => by simp [World.frozen?, hbk])
                  rw [hsz, Nat.zero_add, setCells_eq hbk hfit hsrc.one] at hrun
                  have hwr : Wrote E.w (E.w.setRow (E.ρ j) (putRow cs (len * ei.sz) news)) (E.ρ j) (putRow cs (len * ei.sz) news) t' := Wrote.setRow hbk
                  have hps := putRow_size hfit
                  have hR : R E (.row ei.sz cap fun k => if len ≤ k ∧ k < len + m then g (k - len) else f k) (fun q => (putRow cs (len * ei.sz) news)[q]?) 0 := by
                    simp only [R]
                    intro k hk'
                    by_cases hin : len ≤ k ∧ k < len + m
                    · rw [if_pos hin]
                      have hkm : k - len < m := by omega
                      have h1 : (k - len) * ei.sz + ei.sz ≤ m * ei.sz := by rw [← Nat.succ_mul]; exact Nat.mul_le_mul_right _ hkm
                      have h2 : k * ei.sz = len * ei.sz + (k - len) * ei.sz := by rw [← Nat.add_mul]; congr 1; omega
                      refine ⟨(hg _ hkm).1, R_shift (g (k - len)) _ _ ((k - len) * ei.sz) _ (fun q hq => ?_) (hg _ hkm).2⟩
                      rw [(hg _ hkm).1] at hq
                      show (putRow cs (len * ei.sz) news)[0 + k * ei.sz + q]? = _
                      rw [Nat.zero_add, h2, Nat.add_assoc, putRow_in hfit (by omega)]
                    · rw [if_neg hin]
                      refine ⟨(hr k (by omega)).1, R_local (fun q h1 h2 => ?_) (hr k (by omega)).2⟩
                      rw [(hr k (by omega)).1] at h2
                      refine putRow_out hfit ?_
                      rw [hnl, ← Nat.add_mul]
                      rcases Nat.lt_or_ge k len with hlt | hge'
                      · have : k * ei.sz + ei.sz ≤ len * ei.sz := by rw [← Nat.succ_mul]; exact Nat.mul_le_mul_right _ hlt
                        omega
                      · have : (len + m) * ei.sz ≤ k * ei.sz := Nat.mul_le_mul_right _ (by omega)
                        omega
                  obtain ⟨g1, g2, g3⟩ := again_ok hw hs hcj hvt hbk hnk hps hwr hR (by simp only [vsize]; rw [hps, Nat.mul_comm]; exact hbound)
                  refine ⟨_, _, _, _, hrun, g1, g2, g3, T_slx.2 ⟨?_, some ⟨E.ρ j, 0, none⟩, rfl, hgr, .inr ⟨?_, ?_, putRow cs (len * ei.sz) news, t', (0, 0), ?_, ?_⟩⟩, hd cap _ hgr (fun k hk => ?_) (fun k h6 h7 => .inr ⟨by omega, if_neg (by omega)⟩)⟩
                  · rw [hlen_eq, hs.len]; simp [Env.again]
                  · rw [hlen_eq, hs.len]; simp [Env.again]
                  · rw [hlen_eq, hs.len]; simp [Env.again]
                  · rw [hlen_eq, hs.len]; simp only [Env.again, if_true]; exact hwr.here
                  · rw [hps, Nat.zero_add]; exact hbound
                  · by_cases hkl : k < len
                    · rw [if_neg (by omega), if_pos hkl]
                    · rw [if_pos (by omega), if_neg hkl]
      · exact hd.elim
    · exact hd.elim
  · exact hd.elim
def appendY (tb : List (Option TI)) (t tx : Nat) (base y : V) (h : List (Option V)) (κ : V → List (Option V) → Prop) : Prop :=
  match getT tb t, getT tb tx with
  | some ⟨.slice e, _, _, _⟩, some ti =>
    match getT tb e with
    | some ei => match ti with
      | ⟨.int .i64, _, _, _⟩ => match y, Nat.blt 0 ei.sz with
        | .int .i64 n, true => Ob (0 < n) ∧ growX true ei base n.toNat (fun _ => ei.z) h κ
        | _, _ => False
      | _ => match ti.d.srcOk with
        | true => srcD ei.sz y h fun m g => growX false ei base m g h κ
        | false => False
    | none => False
  | _, _ => False
/-- Appends, where the room of some rows is known. -/
def appendZ (dx : Bool) (tb : List (Option TI)) (t tx : Nat) (base y : V) (h : List (Option V)) (κ : V → List (Option V) → Prop) : Prop :=
  match dx with
  | false => appendX tb t tx base y h κ
  | true => match base with
    | .slx .. => appendY tb t tx base y h κ
    | _ => appendX tb t tx base y h κ
theorem appendY_ok (ht : TabOk P tb) (hw : Wf E) {h : List (Option V)} (hs : SimH E h) {t tx ty : Nat} {Y B : Value} {base y : V} {κ : V → List (Option V) → Prop} (hB : T E base B) (hY : T E y Y) (hd : appendY tb t tx base y h κ) :
    ResH E κ ((Builtin.append_ #[t, tx] ty #[B, Y]).run P E.w) := by
  unfold appendY at hd
  split at hd
  · rename_i e _ _ _ ti hg hgx
    have hu := (ht.get hg).slice
    split at hd
    · rename_i ei hge
      split at hd
      · rename_i s1 s2 s3
        have hx : P.underlying tx = some (.int .i64) := by
          have hT := (ht.get hgx).td
          simp only [tdOk] at hT
          split at hT
          · rename_i k hu
            rw [hu]
            simp only [beq_iff_eq] at hT
            rw [← hT]
          · cases hT
        split at hd
        · rename_i n hsz0
          obtain ⟨⟨h0⟩, hd⟩ := hd
          rw [T_int] at hY
          subst hY
          obtain ⟨i, z, hi, hsz, hby, hz, hzs, hzr⟩ := (ht.get hge).zcells (E := E)
          have hpos : 0 < ei.sz := by simpa using hsz0
          unfold growX at hd
          split at hd
          · rename_i j sz lo len cap
            split at hd
            · rename_i sz' n' f hc
              split at hd
              · rename_i hb
                simp only [Bool.and_eq_true, Nat.beq_eq] at hb
                obtain ⟨⟨rfl, rfl⟩, rfl⟩ := hb
                obtain ⟨⟨hln, hcn⟩, ⟨hb1, hb2⟩, ⟨hgr⟩, hk⟩ := hd
                obtain ⟨A, olds, rfl, hol, hold, hfo⟩ := slx_olds (P := P) hw hs hB hc hln
                have hrun := run_append_made_grow (P := P) E.w t tx ty e i z hu hx hi hz A len cap n olds (by rw [hsz]; exact hold) h0 hgr (by omega) (by rw [hby]; exact hb1) (by omega)
                have hzrow := zrow_ok (n := n.toNat) hzs (ht.get hge).size hzr
                simp only [R] at hzrow
                refine newrowX_ok ht hw hs hge hi hz (m := n.toNat) (f := f) (g := fun _ => ei.z) hol (by simp [Builtin.zeroCells, hzs]) hfo (fun k hk => ⟨(ht.get hge).size, ?_⟩) hrun (fun C f' h1 h2 h3 => hk C f' h1 h2 fun k h4 h5 => .inl (h3 k h4 h5))
                have := (hzrow k hk).2
                rw [Nat.zero_add] at this
                refine R_local (fun q _ _ => ?_) this
                by_cases hq : q < n.toNat * ei.sz <;> simp [Builtin.zeroCells, hzs, hq]
              · exact hd.elim
            · exact hd.elim
          · exact hd.elim
        · exact hd.elim
      · split at hd
        · rename_i hk
          obtain ⟨m, g, news, hd, hsrc, hR⟩ := srcD_ok ht hw hs hgx hk hd hY
          exact growX_ok ht hw hs hu hge hsrc hR hB hd
        · exact hd.elim
    · exact hd.elim
  · exact hd.elim
theorem appendZ_ok (ht : TabOk P tb) (hw : Wf E) {h : List (Option V)} (hs : SimH E h) {dx : Bool} {t tx ty : Nat} {Y B : Value} {base y : V} {κ : V → List (Option V) → Prop} (hB : T E base B) (hY : T E y Y) (hd : appendZ dx tb t tx base y h κ) :
    ResH E κ ((Builtin.append_ #[t, tx] ty #[B, Y]).run P E.w) := by
  unfold appendZ at hd
  split at hd
  · exact appendX_ok ht hw hs hB hY hd
  · split at hd
    · exact appendY_ok ht hw hs hB hY hd
    · exact appendX_ok ht hw hs hB hY hd
end
end Go.DD
