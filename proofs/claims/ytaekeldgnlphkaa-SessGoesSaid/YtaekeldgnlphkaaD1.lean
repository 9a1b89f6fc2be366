/- The abstract values of a walk, and what they say of the model's values and memory. -/
import Derived.Calls
import Derived.Orders
import Derived.Below
import Derived.KernelRfl
import Derived.RowKit3
import Derived.Laws.CopyRow
import Derived.Deep.MidRow
import Derived.Deep.AppendSrc
namespace Go.DD
set_option linter.unusedVariables false
open Go.RowKit

/-- A step of a path into a variable: a field (its number, where it begins), an element (its number, an element's size). -/
inductive Step where
  | f (k off : Nat)
  | i (k sz : Nat)
def Step.off : Step → Nat | .f _ o => o | .i k sz => k * sz
def poff : List Step → Nat | [] => 0 | s :: p => s.off + poff p

mutual
inductive V where
  | int (k : IntKind) (n : Int)
  | tt
  | ff
  | bool (b : Bool)
  | str (s : List UInt8)
  | nilp
  | ref (i : Nat) (p : List Step)
  | rref (i : Nat) (p : List Step) (sz lo n : Nat)
  | pim (lent : Bool) (v : V)
  | sl (i : Nat) (p : List Step) (sz lo len cap : Nat)
  | emp
  | imm (lent : Bool) (sz n : Nat) (f : Nat → V)
  | fn (f : FuncId) (caps : Vs)
  | nilf
  | iface (t : TypeId) (v : V)
  | nili
  | row (sz n : Nat) (f : Nat → V)
  | st (l : Vs)
  | tup (l : Vs)
  | any
inductive Vs where
  | nil
  | cons (v : V) (l : Vs)
end
instance : Inhabited V := ⟨.any⟩

def Vs.of : List V → Vs | [] => .nil | v :: l => .cons v (Vs.of l)
def Vs.get : Vs → Nat → V | .nil, _ => .any | .cons v _, 0 => v | .cons _ l, k + 1 => l.get k
def Vs.len : Vs → Nat | .nil => 0 | .cons _ l => l.len + 1
def Vs.set : Vs → Nat → V → Vs | .nil, _, _ => .nil | .cons _ l, 0, u => .cons u l | .cons v l, k + 1, u => .cons v (l.set k u)

mutual
def vsize : V → Nat
  | .row sz n _ => sz * n
  | .st l => vsizes l
  | _ => 1
def vsizes : Vs → Nat
  | .nil => 0
  | .cons v l => vsize v + vsizes l
end
def V.isAgg : V → Bool | .row .. | .st .. => true | _ => false
def V.isTup : V → Bool | .tup .. => true | _ => false
/-- One-cell values, all of them. -/
def Vs.flat : Vs → Bool | .nil => true | .cons v l => !v.isAgg && !v.isTup && l.flat

structure Env where
  w : World
  ρ : Nat → Nat
  vt : Nat → Bool
  N : Nat
  S : Nat → Prop
  L : Nat → Prop
  K : Nat → Prop


/-- Without the local heap: what stands behind a stable pointer tells of no local variable. -/
def Env.bare (E : Env) : Env := { E with N := 0, ρ := fun _ => 0, vt := fun _ => false }
def Env.foot (E : Env) (lent : Bool) (b : Nat) : Prop := match lent with | true => E.L b | false => E.S b
def cellsAt (w : World) (b : Nat) : Nat → Option Value := fun q => w.cell? ⟨b, q, none⟩
def aggOk (v : V) (x : Value) : Prop := (v.isAgg = true ∧ (∃ cs, x = .agg cs) ∧ x.cells.size = vsize v) ∨ (v.isAgg = false ∧ x.oneCell' = true)

mutual
/-- 'v' stands in the cells 'c' from 'o' on. -/
def R (E : Env) : V → (Nat → Option Value) → Nat → Prop
  | .int k n, c, o => c o = some (.int k n)
  | .tt, c, o => c o = some (.bool true)
  | .ff, c, o => c o = some (.bool false)
  | .bool b, c, o => c o = some (.bool b)
  | .str s, c, o => c o = some (.string ⟨s.toArray⟩)
  | .nilp, c, o => c o = some (.pointer none)
  | .ref i p, c, o => i < E.N ∧ c o = some (.pointer (some ⟨E.ρ i, poff p, none⟩))
  | .rref i p sz lo _, c, o => i < E.N ∧ c o = some (.pointer (some ⟨E.ρ i, poff p + lo * sz, none⟩))
  | .pim lent v, c, o => ∃ b off, c o = some (.pointer (some ⟨b, off, none⟩)) ∧ E.foot lent b ∧ R E.bare v (cellsAt E.w b) off
  | .sl i p sz lo len cap, c, o => i < E.N ∧ ∃ a cp, c o = some (.slice a len cp) ∧ len ≤ cap ∧ cap ≤ cp ∧
      (cp = 0 ∨ (E.vt i = false ∧ a = some ⟨E.ρ i, poff p + lo * sz, none⟩ ∧ ∃ cs t fr, E.w.heap[E.ρ i]? = some (.cells cs t fr) ∧ poff p + (lo + cp) * sz ≤ cs.size))
  | .emp, c, o => ∃ a, c o = some (.slice a 0 0)
  | .imm lent sz n f, c, o => ∃ a cp, c o = some (.slice a n cp) ∧ n ≤ cp ∧
      (n = 0 ∨ ∃ b off, a = some ⟨b, off, none⟩ ∧ E.foot lent b ∧ ∀ k, k < n → vsize (f k) = sz ∧ R E.bare (f k) (cellsAt E.w b) (off + k * sz))
  | .fn f caps, c, o => ∃ xs, c o = some (.func (.func f) #[] xs) ∧ xs.size = vsizes caps ∧ caps.flat = true ∧ RL E caps (fun k => xs[k]?) 0
  | .nilf, c, o => c o = some .nilFunc
  | .iface t v, c, o => ∃ x, c o = some (.iface t x) ∧ aggOk v x ∧ R E v (fun k => x.cells[k]?) 0
  | .nili, c, o => c o = some .nilIface
  | .row sz n f, c, o => ∀ k, k < n → vsize (f k) = sz ∧ R E (f k) c (o + k * sz)
  | .st l, c, o => RL E l c o
  | .tup _, _, _ => False
  | .any, c, o => ∃ x, c o = some x ∧ x.oneCell' = true
def RL (E : Env) : Vs → (Nat → Option Value) → Nat → Prop
  | .nil, _, _ => True
  | .cons v l, c, o => R E v c o ∧ RL E l c (o + vsize v)
end

/-- What a slot holds. -/
def T (E : Env) (v : V) (x : Value) : Prop :=
  match v with
  | .any => True
  | .tup l => ∃ xs, x = .tuple xs ∧ xs.size = l.len ∧ ∀ k y, xs[k]? = some y → match l.get k with
      | .any => True
      | u => u.isTup = false ∧ aggOk u y ∧ R E u (fun q => y.cells[q]?) 0
  | v => aggOk v x ∧ R E v (fun q => x.cells[q]?) 0

structure Ext (E E' : Env) : Prop where
  os : E'.w.os = E.w.os
  tape : E'.w.tape = E.w.tape
  output : E'.w.output = E.w.output
  size : E.w.heap.size ≤ E'.w.heap.size
  N : E.N ≤ E'.N
  ρ : ∀ i, i < E.N → E'.ρ i = E.ρ i
  vt : ∀ i, i < E.N → E'.vt i = E.vt i
  S : ∀ b, E.S b → E'.S b
  S' : ∀ b, E'.S b → E.S b ∨ E.w.heap.size ≤ b
  L : ∀ b, E'.L b ↔ E.L b
  K : ∀ b, E.K b → E'.K b
  kept : ∀ b, E.K b → E'.w.heap[b]? = E.w.heap[b]?
  cells : ∀ (b : Nat) (cs : Array Value) (t : TypeId) (fr : Nat × Nat), E.w.heap[b]? = some (.cells cs t fr) → ∃ (cs' : Array Value) (fr' : Nat × Nat), E'.w.heap[b]? = some (Obj.cells cs' t fr') ∧ cs'.size = cs.size

theorem Ext.refl (E : Env) : Ext E E := ⟨rfl, rfl, rfl, Nat.le_refl _, Nat.le_refl _, fun _ _ => rfl, fun _ _ => rfl, fun _ h => h, fun _ h => .inl h, fun _ => Iff.rfl, fun _ h => h, fun _ _ => rfl, fun _ cs _ fr h => ⟨cs, fr, h, rfl⟩⟩
theorem Ext.trans {E E' E'' : Env} (h : Ext E E') (k : Ext E' E'') : Ext E E'' where
  os := k.os.trans h.os
  tape := k.tape.trans h.tape
  output := k.output.trans h.output
  size := Nat.le_trans h.size k.size
  N := Nat.le_trans h.N k.N
  ρ := fun i hi => (k.ρ i (Nat.lt_of_lt_of_le hi h.N)).trans (h.ρ i hi)
  vt := fun i hi => (k.vt i (Nat.lt_of_lt_of_le hi h.N)).trans (h.vt i hi)
  S := fun b hb => k.S b (h.S b hb)
  S' := fun b hb => (k.S' b hb).elim (fun h' => h.S' b h') (fun h' => .inr (Nat.le_trans h.size h'))
  L := fun b => (k.L b).trans (h.L b)
  K := fun b hb => k.K b (h.K b hb)
  kept := fun b hb => (k.kept b (h.K b hb)).trans (h.kept b hb)
  cells := fun b cs t fr hb => by
    obtain ⟨cs', fr', h1, h2⟩ := h.cells b cs t fr hb
    obtain ⟨cs'', fr'', h3, h4⟩ := k.cells b cs' t fr' h1
    exact ⟨cs'', fr'', h3, h4.trans h2⟩

/-- The sets of an environment fit its world. -/
structure Wf (E : Env) : Prop where
  S : ∀ b, E.S b → E.K b
  L : ∀ b, E.L b → E.K b
  K : ∀ b, E.K b → b < E.w.heap.size

theorem Ext.bare {E E' : Env} (h : Ext E E') : Ext E.bare E'.bare where
  os := h.os
  tape := h.tape
  output := h.output
  size := h.size
  N := Nat.le_refl _
  ρ := fun i hi => absurd hi (Nat.not_lt_zero i)
  vt := fun i hi => absurd hi (Nat.not_lt_zero i)
  S := h.S
  S' := h.S'
  L := h.L
  K := h.K
  kept := h.kept
  cells := h.cells
theorem Ext.of_bare (E : Env) : Ext E.bare E where
  os := rfl
  tape := rfl
  output := rfl
  size := Nat.le_refl _
  N := Nat.zero_le _
  ρ := fun i hi => absurd hi (Nat.not_lt_zero i)
  vt := fun i hi => absurd hi (Nat.not_lt_zero i)
  S := fun _ h => h
  S' := fun _ h => .inl h
  L := fun _ => Iff.rfl
  K := fun _ h => h
  kept := fun _ _ => rfl
  cells := fun b cs t fr hb => ⟨cs, fr, hb, rfl⟩
theorem Wf.bare {E : Env} (h : Wf E) : Wf E.bare := ⟨h.S, h.L, h.K⟩
theorem Ext.foot {E E' : Env} (h : Ext E E') {lent : Bool} {b : Nat} (hb : E.foot lent b) : E'.foot lent b := by
  cases lent
  · exact h.S b hb
  · exact (h.L b).2 hb
theorem Wf.foot {E : Env} (h : Wf E) {lent : Bool} {b : Nat} (hb : E.foot lent b) : E.K b := by
  cases lent
  · exact h.S b hb
  · exact h.L b hb
theorem cellsAt_of_block {w w' : World} {b : Nat} (h : w'.heap[b]? = w.heap[b]?) : cellsAt w' b = cellsAt w b := by
  funext q
  simp only [cellsAt, World.cell?, h]

mutual
theorem R_ext {E E' : Env} (hw : Wf E) (h : Ext E E') : ∀ (v : V) (c : Nat → Option Value) (o : Nat), R E v c o → R E' v c o
  | .int .., c, o, hr => by simpa only [R] using hr
  | .tt, c, o, hr => by simpa only [R] using hr
  | .ff, c, o, hr => by simpa only [R] using hr
  | .bool _, c, o, hr => by simpa only [R] using hr
  | .str _, c, o, hr => by simpa only [R] using hr
  | .nilp, c, o, hr => by simpa only [R] using hr
  | .ref i p, c, o, hr => by
    simp only [R] at hr ⊢
    exact ⟨Nat.lt_of_lt_of_le hr.1 h.N, by rw [h.ρ i hr.1]; exact hr.2⟩
  | .rref i p sz lo n, c, o, hr => by
    simp only [R] at hr ⊢
    exact ⟨Nat.lt_of_lt_of_le hr.1 h.N, by rw [h.ρ i hr.1]; exact hr.2⟩
  | .pim lent v, c, o, hr => by
    simp only [R] at hr ⊢
    obtain ⟨b, off, h1, h2, h3⟩ := hr
    refine ⟨b, off, h1, h.foot h2, ?_⟩
    rw [cellsAt_of_block (h.kept b (hw.foot h2))]
    exact R_ext hw.bare h.bare v _ _ h3
  | .sl i p sz lo len cap, c, o, hr => by
    simp only [R] at hr ⊢
    obtain ⟨hi, a, cp, h1, h2, h3, h4⟩ := hr
    refine ⟨Nat.lt_of_lt_of_le hi h.N, a, cp, h1, h2, h3, h4.imp id fun ⟨h5, h6, cs, t, fr, h7, h8⟩ => ?_⟩
    obtain ⟨cs', fr', h9, h10⟩ := h.cells _ _ _ _ h7
    exact ⟨(h.vt i hi).trans h5, by rw [h.ρ i hi]; exact h6, cs', t, fr', by rw [h.ρ i hi]; exact h9, by omega⟩
  | .emp, c, o, hr => by simpa only [R] using hr
  | .imm lent sz n f, c, o, hr => by
    simp only [R] at hr ⊢
    obtain ⟨a, cp, h1, h2, h3⟩ := hr
    refine ⟨a, cp, h1, h2, h3.imp id fun ⟨b, off, h4, h5, h6⟩ => ⟨b, off, h4, h.foot h5, fun k hk => ⟨(h6 k hk).1, ?_⟩⟩⟩
    rw [cellsAt_of_block (h.kept b (hw.foot h5))]
    exact R_ext hw.bare h.bare (f k) _ _ (h6 k hk).2
  | .fn f caps, c, o, hr => by
    simp only [R] at hr ⊢
    obtain ⟨xs, h1, h2, h3, h4⟩ := hr
    exact ⟨xs, h1, h2, h3, RL_ext hw h caps _ _ h4⟩
  | .nilf, c, o, hr => by simpa only [R] using hr
  | .iface t v, c, o, hr => by
    simp only [R] at hr ⊢
    obtain ⟨x, h1, h2, h3⟩ := hr
    exact ⟨x, h1, h2, R_ext hw h v _ _ h3⟩
  | .nili, c, o, hr => by simpa only [R] using hr
  | .row sz n f, c, o, hr => by
    simp only [R] at hr ⊢
    exact fun k hk => ⟨(hr k hk).1, R_ext hw h (f k) _ _ (hr k hk).2⟩
  | .st l, c, o, hr => by
    simp only [R] at hr ⊢
    exact RL_ext hw h l c o hr
  | .tup _, c, o, hr => by simp only [R] at hr
  | .any, c, o, hr => by simpa only [R] using hr
theorem RL_ext {E E' : Env} (hw : Wf E) (h : Ext E E') : ∀ (l : Vs) (c : Nat → Option Value) (o : Nat), RL E l c o → RL E' l c o
  | .nil, c, o, _ => by simp only [RL]
  | .cons v l, c, o, hr => by
    simp only [RL] at hr ⊢
    exact ⟨R_ext hw h v c o hr.1, RL_ext hw h l c _ hr.2⟩
end

theorem R_bare {E : Env} (hw : Wf E) {v : V} {c : Nat → Option Value} {o : Nat} (h : R E.bare v c o) : R E v c o := R_ext (E := E.bare) (E' := E) hw.bare (Ext.of_bare E) v c o h
theorem T_ext {E E' : Env} (hw : Wf E) (h : Ext E E') {v : V} {x : Value} (ht : T E v x) : T E' v x := by
  cases v
  case any => trivial
  case tup l =>
    obtain ⟨xs, h1, h2, h3⟩ := ht
    refine ⟨xs, h1, h2, fun k y hk => ?_⟩
    have := h3 k y hk
    generalize l.get k = u at this ⊢
    cases u <;> first | trivial | exact ⟨this.1, this.2.1, R_ext hw h _ _ _ this.2.2⟩
  all_goals exact ⟨ht.1, R_ext hw h _ _ _ ht.2⟩
end Go.DD
