/- Part of the claim: D12, D13, D14, D15, D16, D17, D18, D19, D20, D21, D22, D23, D24, D25, D26, D30, D31, D32. -/
import Derived.Test.YtaihjcpfjgpmoaaGreatDoorDA
import Derived.Still
import Derived.KernelRfl
import Derived.Laws.Bits64
/- One operation at a time: a table of what each does to the abstract state. -/
namespace Go.DD
set_option linter.unusedVariables false
set_option linter.unusedSimpArgs false
open Go.RowKit

abbrev Heap := List (Option V)
mutual
/-- In which orders a drawn region is walked: what may go ahead of all others at once, else each that may come. -/
inductive Plan where
  | done
  | one (i : Nat) (p : Plan)
  | many (l : Plans)
inductive Plans where
  | nil
  | cons (i : Nat) (p : Plan) (l : Plans)
end
structure St where
  t : Nat → V
  h : Heap
/-- What a call does: to plain memory nothing (but new stable rows); or to the local heap, too. -/
def SpecP := List V → Heap → (V → Prop) → Prop
def SpecH := List V → Heap → (V → Heap → Prop) → Prop
structure Ctx where
  tb : List (Option TI)
  fs : List (Nat × SpecP)
  fh : List (Nat × SpecH)
  gl : List (Nat × V)
  n : Nat
  n0 : Nat := 0
  ex : List (Nat × Plan) := []
  dx : Bool := false

def lookup {α : Type} : List (Nat × α) → Nat → Option α | [], _ => none | (k, s) :: l, n => match Nat.beq k n with | true => some s | false => lookup l n
def lookV : List (Nat × V) → Nat → Option V | [], _ => none | (k, s) :: l, n => match Nat.beq k n with | true => some s | false => lookV l n

def cv : Value → V
  | .int k n => .int k n
  | .bool true => .tt
  | .bool false => .ff
  | .string s => .str s.data.toList
  | .pointer none => .nilp
  | .slice _ 0 0 => .emp
  | .nilFunc => .nilf
  | .nilIface => .nili
  | _ => .any
def St.ev (Γ : Ctx) (σ : St) : Operand → V
  | .tmp t => σ.t t
  | .const v => cv v
  | .global g => match lookV Γ.gl g with | some v => .pim false v | none => .any
  | .func f => .fn f .nil

def Vs.toList : Vs → List V | .nil => [] | .cons v l => v :: l.toList
def mapEv (ev : Operand → V) : List Operand → List V | [] => [] | x :: l => ev x :: mapEv ev l
def mapEv2 (ev : Operand → V) : List (Nat × Operand) → List (Nat × V) | [] => [] | (k, x) :: l => (k, ev x) :: mapEv2 ev l
def optEv (ev : Operand → V) : Option Operand → Option V | none => none | some x => some (ev x)
def app (l m : List V) : List V := match l with | [] => m | v :: l => v :: app l m

/-- A conversion to another type: of numbers, of a string to bytes, of bytes to a string. -/
def convP (tb : List (Option TI)) (s d : Nat) (x : V) (h : Heap) (κ : V → Prop) : Prop :=
  match getT tb s, getT tb d with
  | some ⟨.str, _, _, _⟩, some ⟨.slice _, _, _, _⟩ => convSB tb s d x κ
  | some ⟨.slice _, _, _, _⟩, some ⟨.str, _, _, _⟩ => convBS tb s d x h κ
  | _, _ => convNum tb s d x κ
def callP (Γ : Ctx) (f : V) (as : List V) (h : Heap) (κ : V → Prop) : Prop :=
  match f with
  | .fn f caps => match lookup Γ.fs f with | some s => s (app as caps.toList) h κ | none => False
  | _ => False
def callH (Γ : Ctx) (f : V) (as : List V) (h : Heap) (κ : V → Heap → Prop) : Prop :=
  match f with
  | .fn f caps => match lookup Γ.fh f with | some s => s (app as caps.toList) h κ | none => False
  | _ => False

/-- Operations that leave the local heap alone. -/
def pD (Γ : Ctx) (o : Op) (ev : Operand → V) (h : Heap) (κ : V → Prop) : Prop :=
  match o with
  | .move x | .assign x => κ (ev x)
  | .pick c a b => pickD (ev c) (ev a) (ev b) κ
  | .build t parts => buildD Γ.tb t (mapEv2 ev parts.toList) κ
  | .load t a => loadD Γ.tb t (ev a) h κ
  | .nilCheck x => nilCheckD (ev x) κ
  | .binOp op t x y _ => binD Γ.tb op t x y (ev x) (ev y) κ
  | .unOp op _ x => unD op (ev x) κ
  | .convert s d x => convP Γ.tb s d (ev x) h κ
  | .slice t x lo hi mx => sliceD Γ.tb t (ev x) (optEv ev lo) (optEv ev hi) (optEv ev mx) h κ
  | .fieldAddr s x k => fieldAddrD Γ.tb s (ev x) k κ
  | .field s x k => fieldD Γ.tb s (ev x) k κ
  | .indexAddr t x i => indexAddrD Γ.tb t (ev x) (ev i) κ
  | .index t x i => indexD Γ.tb t (ev x) (ev i) κ
  | .sliceToArrayPointer t x => arrayAtD Γ.tb t (ev x) κ
  | .makeInterface t x => makeInterfaceD Γ.tb t (ev x) κ
  | .makeFunc f first caps => makeFuncD f (mapEv ev first.toList) (mapEv ev caps.toList) κ
  | .extract x k => extractD (ev x) k κ
  | .call ⟨.builtin .len, args, ts⟩ => match args.toList, ts.toList with | [x], [t] => lenD Γ.tb t (ev x) κ | _, _ => False
  | .call ⟨.builtin .cap, args, ts⟩ => match args.toList, ts.toList with | [x], [t] => capD Γ.tb t (ev x) κ | _, _ => False
  | .call ⟨.builtin .min, args, _⟩ => match args.toList with | [x, y] => minmaxD false [ev x, ev y] κ | _ => False
  | .call ⟨.builtin .max, args, _⟩ => match args.toList with | [x, y] => minmaxD true [ev x, ev y] κ | _ => False
  | .call ⟨.value f, args, _⟩ => callP Γ (ev f) (mapEv ev args.toList) h κ
  | _ => False
/-- Operations that change it. -/
def wD (Γ : Ctx) (o : Op) (ev : Operand → V) (h : Heap) (κ : V → Heap → Prop) : Prop :=
  match o with
  | .alloc t => allocD Γ.tb t h κ
  | .box _ x => boxD (ev x) h κ
  | .store t a x => storeD Γ.tb t (ev a) (ev x) h (κ .any)
  | .call ⟨.builtin .append, args, ts⟩ => match args.toList, ts.toList with | [x, y], [t, u] => appendZ Γ.dx Γ.tb t u (ev x) (unx (ev y)) h κ | _, _ => False
  | .call ⟨.builtin .copy, args, ts⟩ => match args.toList, ts.toList with | [x, y], [t, u] => copyD Γ.tb t u (ev x) (ev y) h κ | _, _ => False
  | .buildSlice t n parts => buildSliceD Γ.tb t n (mapEv2 ev parts.toList) h κ
  | .makeSlice t l c => makeSliceD Γ.tb t (ev l) (ev c) h κ
  | .convert s _ x => convSame Γ.tb s (ev x) h κ
  | .call ⟨.value f, args, _⟩ => callH Γ (ev f) (mapEv ev args.toList) h κ
  | _ => False
/-- May it change the heap? Read it? Is its outcome not one alone? -/
def isW (Γ : Ctx) : Op → Bool
  | .alloc _ | .box .. | .store .. | .call ⟨.builtin .append, _, _⟩ | .call ⟨.builtin .copy, _, _⟩ | .buildSlice .. | .makeSlice .. => true
  | .convert s d _ => Nat.beq s d
  | .call ⟨.value (.func f), _, _⟩ => match lookup Γ.fh f with | some _ => true | none => false
  | _ => false
def isR (Γ : Ctx) : Op → Bool
  | .load .. | .call ⟨.value _, _, _⟩ => true
  | .slice t _ _ _ _ => match getT Γ.tb t with | some ⟨.arr .., _, _, _⟩ => true | _ => false
  | .convert s _ _ => match getT Γ.tb s with | some ⟨.slice _, _, _, _⟩ => true | _ => false
  | _ => false
def isDem (Γ : Ctx) : Op → Bool
  | .call ⟨.value (.func f), _, _⟩ => match lookup Γ.fh f with | some _ => true | none => false
  | .call ⟨.builtin .cap, _, _⟩ => true
  | .call ⟨.builtin .append, _, _⟩ => Γ.dx
  | .binOp _ _ _ (.const (.slice ..)) _ => true
  | _ => false
/-! Values and heaps, made plain: no term of a former state is left in them. -/
def frcN : Nat → (Nat → Prop) → Prop | 0, κ => κ 0 | n + 1, κ => frcN n fun m => κ (m + 1)
def frcP : List Step → (List Step → Prop) → Prop
  | [], κ => κ []
  | .f k o :: p, κ => frcP p fun p => κ (.f k o :: p)
  | .i k o :: p, κ => frcP p fun p => κ (.i k o :: p)
mutual
def frc : V → (V → Prop) → Prop
  | .ref i p, κ => frcN i fun i => frcP p fun p => κ (.ref i p)
  | .rref i p sz lo n, κ => frcN i fun i => frcP p fun p => κ (.rref i p sz lo n)
  | .sl i p sz lo len cap, κ => frcN i fun i => frcP p fun p => κ (.sl i p sz lo len cap)
  | .slx i sz lo len cap, κ => frcN i fun i => κ (.slx i sz lo len cap)
  | .st l, κ => frcs l fun l => κ (.st l)
  | .tup l, κ => frcs l fun l => κ (.tup l)
  | .fn f l, κ => frcs l fun l => κ (.fn f l)
  | .iface t v, κ => frc v fun v => κ (.iface t v)
  | .pim l v, κ => frc v fun v => κ (.pim l v)
  | .int k n, κ => κ (.int k n)
  | .tt, κ => κ .tt
  | .ff, κ => κ .ff
  | .bool b, κ => κ (.bool b)
  | .str s, κ => κ (.str s)
  | .nilp, κ => κ .nilp
  | .emp, κ => κ .emp
  | .imm l sz n f, κ => κ (.imm l sz n f)
  | .nilf, κ => κ .nilf
  | .nili, κ => κ .nili
  | .row sz n f, κ => κ (.row sz n f)
  | .any, κ => κ .any
def frcs : Vs → (Vs → Prop) → Prop
  | .nil, κ => κ .nil
  | .cons v l, κ => frc v fun v => frcs l fun l => κ (.cons v l)
end
def frcH : Heap → (Heap → Prop) → Prop
  | [], κ => κ []
  | none :: l, κ => frcH l fun l => κ (none :: l)
  | some v :: l, κ => frc v fun v => frcH l fun l => κ (some v :: l)
theorem frcN_eq : ∀ (n : Nat) (κ : Nat → Prop), frcN n κ = κ n
  | 0, κ => by simp only [frcN]
  | n + 1, κ => by simp only [frcN]; exact frcN_eq n _
theorem frcP_eq : ∀ (p : List Step) (κ : List Step → Prop), frcP p κ = κ p
  | [], κ => by simp only [frcP]
  | .f k o :: p, κ => by simp only [frcP]; exact frcP_eq p _
  | .i k o :: p, κ => by simp only [frcP]; exact frcP_eq p _
mutual
theorem frc_eq : ∀ (v : V) (κ : V → Prop), frc v κ = κ v
  | .ref i p, κ => by simp only [frc, frcN_eq, frcP_eq]
  | .rref i p sz lo n, κ => by simp only [frc, frcN_eq, frcP_eq]
  | .sl i p sz lo len cap, κ => by simp only [frc, frcN_eq, frcP_eq]
  | .slx i sz lo len cap, κ => by simp only [frc, frcN_eq]
  | .st l, κ => by simp only [frc]; exact frcs_eq l _
  | .tup l, κ => by simp only [frc]; exact frcs_eq l _
  | .fn f l, κ => by simp only [frc]; exact frcs_eq l _
  | .iface t v, κ => by simp only [frc]; exact frc_eq v _
  | .pim l v, κ => by simp only [frc]; exact frc_eq v _
  | .int .., κ | .tt, κ | .ff, κ | .bool _, κ | .str _, κ | .nilp, κ | .emp, κ | .imm .., κ | .nilf, κ | .nili, κ | .row .., κ | .any, κ => by simp only [frc]
theorem frcs_eq : ∀ (l : Vs) (κ : Vs → Prop), frcs l κ = κ l
  | .nil, κ => by simp only [frcs]
  | .cons v l, κ => by simp only [frcs]; rw [frc_eq v]; exact frcs_eq l _
end
theorem frcH_eq : ∀ (h : Heap) (κ : Heap → Prop), frcH h κ = κ h
  | [], κ => by simp only [frcH]
  | none :: l, κ => by simp only [frcH]; exact frcH_eq l _
  | some v :: l, κ => by simp only [frcH]; rw [frc_eq v]; exact frcH_eq l _
/-- Operations that see what room a slice has. -/
def keepX (w : Bool) : Op → Bool
  | .move _ | .assign _ | .pick .. | .slice .. => true
  | .call ⟨.builtin .cap, _, _⟩ | .call ⟨.builtin .append, _, _⟩ => true
  | .call ⟨.value _, _, _⟩ => w
  | _ => false
def evx (k : Bool) (ev : Operand → V) (x : Operand) : V := match k with | true => ev x | false => unx (ev x)
def opD (Γ : Ctx) (o : Op) (ev : Operand → V) (h : Heap) (κ : V → Heap → Prop) : Prop :=
  match isW Γ o with
  | true => wD Γ o (evx (keepX true o) ev) h fun v k => frcH k fun k => κ v k
  | false => pD Γ o (evx (keepX false o) ev) h (fun v => κ v h)

/-! ### What a call may be taken to do -/
def Ts (E : Env) : List V → List Value → Prop
  | [], [] => True
  | v :: l, x :: m => T E v x ∧ Ts E l m
  | _, _ => False
/-- What comes of an operation that yields a value or enters a function. -/
def UponV (P : Program) (K : Value → World → Prop) : Result Next → Prop
  | .ok (.value v) w' => K v w'
  | .ok (.enter f args) w' => Calls P f args w' fun | .returned v, w'' => K v w'' | _, _ => False
  | _ => False
def Fine (E : Env) (κ : V → Heap → Prop) (x : Value) (w' : World) : Prop := ∃ E' v h', w' = E'.w ∧ Ext E E' ∧ Wf E' ∧ SimH E' h' ∧ T E' v x ∧ κ v h'
/-- The globals' blocks are stable and hold what the table says. -/
def GlOk (gl : List (Nat × V)) (E : Env) : Prop := ∀ p ∈ gl, E.S p.1 ∧ R E.bare p.2 (cellsAt E.w p.1) 0
def SpecPOk (P : Program) (gl : List (Nat × V)) (f : Nat) (s : SpecP) : Prop :=
  (∀ as h κ, s as h κ → ∃ v, κ v ∧ ∀ κ' : V → Prop, κ' v → s as h κ') ∧
  (∀ (E : Env) (h : Heap) (as : List V) (args : Array Value) (κ : V → Prop), Wf E → SimH E h → GlOk gl E → Ts E as args.toList → s as h κ → UponV P (Fine E fun v h' => h' = h ∧ κ v) ((callFunc f args).run P E.w)) ∧
  ∀ (as : List V) (h : Heap) (z : V) (κ : V → Prop), s as h κ → s as (hsnoc h z) κ
def SpecHOk (P : Program) (gl : List (Nat × V)) (f : Nat) (s : SpecH) : Prop :=
  (∀ as h (κ κ' : V → Heap → Prop), (∀ v k, κ v k → κ' v k) → s as h κ → s as h κ') ∧
  ∀ (E : Env) (h : Heap) (as : List V) (args : Array Value) (κ : V → Heap → Prop), Wf E → SimH E h → GlOk gl E → Ts E as args.toList → s as h κ → UponV P (Fine E κ) ((callFunc f args).run P E.w)
structure CtxOk (P : Program) (Γ : Ctx) : Prop where
  tb : TabOk P Γ.tb
  fs : ∀ p ∈ Γ.fs, SpecPOk P Γ.gl p.1 p.2
  fh : ∀ p ∈ Γ.fh, SpecHOk P Γ.gl p.1 p.2

theorem lookup_mem {α : Type} : ∀ {l : List (Nat × α)} {n : Nat} {s : α}, lookup l n = some s → (n, s) ∈ l
  | [], _, _, h => by simp [lookup] at h
  | (k, s') :: l, n, s, h => by
    simp only [lookup] at h
    split at h
    · rename_i hb
      simp only [Nat.beq_eq] at hb
      cases h; subst hb; exact .head _
    · exact .tail _ (lookup_mem h)
theorem lookV_mem : ∀ {l : List (Nat × V)} {n : Nat} {s : V}, lookV l n = some s → (n, s) ∈ l
  | [], _, _, h => by simp [lookV] at h
  | (k, s') :: l, n, s, h => by
    simp only [lookV] at h
    split at h
    · rename_i hb
      simp only [Nat.beq_eq] at hb
      cases h; subst hb; exact .head _
    · exact .tail _ (lookV_mem h)
theorem GlOk.ext {gl : List (Nat × V)} {E E' : Env} (hw : Wf E) (hx : Ext E E') (h : GlOk gl E) : GlOk gl E' := fun p hp => by
  obtain ⟨h1, h2⟩ := h p hp
  exact ⟨hx.S _ h1, by rw [cellsAt_of_block (hx.kept _ (hw.S _ h1))]; exact R_ext hw.bare hx.bare _ _ _ h2⟩

theorem cv_ok (E : Env) (v : Value) : T E (cv v) v := by
  unfold cv
  split <;> first
    | exact T_int.2 rfl | exact T_tt.2 rfl | exact T_ff.2 rfl | exact T_str.2 rfl | exact T_nilp.2 rfl | exact T_emp.2 ⟨_, rfl⟩ | exact T_nilf.2 rfl | exact T_nili.2 rfl | trivial
theorem ev_ok {Γ : Ctx} {E : Env} {σ : St} {a : Act} (hg : GlOk Γ.gl E) (ht : ∀ k, T E (σ.t k) (a.eval (.tmp k))) (x : Operand) : T E (σ.ev Γ x) (a.eval x) := by
  cases x with
  | tmp t => exact ht t
  | const v => exact cv_ok E v
  | global g =>
    simp only [St.ev]
    split
    · rename_i v hv
      obtain ⟨h1, h2⟩ := hg _ (lookV_mem hv)
      exact T_pim.2 ⟨g, 0, rfl, h1, h2⟩
    · trivial
  | func f => exact T_fn.2 ⟨#[], rfl, rfl, rfl, by simp [RL]⟩

section
variable {P : Program} {Γ : Ctx} {E : Env} {ev : Operand → V} {a : Act}
theorem mapEv_ok (hev : ∀ x, T E (ev x) (a.eval x)) : ∀ (l : List Operand), Ts E (mapEv ev l) (l.map a.eval)
  | [] => trivial
  | x :: l => ⟨hev x, mapEv_ok hev l⟩
theorem mapEv2_ok (hev : ∀ x, T E (ev x) (a.eval x)) : ∀ (l : List (Nat × Operand)), PartsT E (mapEv2 ev l) (l.map fun (i, x) => (i, a.eval x))
  | [] => trivial
  | (_, x) :: l => ⟨rfl, hev x, mapEv2_ok hev l⟩
theorem optEv_ok (hev : ∀ x, T E (ev x) (a.eval x)) (x : Option Operand) : OptT E (optEv ev x) (x.map a.eval) := by
  cases x with
  | none => exact .inl ⟨rfl, rfl⟩
  | some x => exact .inr ⟨_, _, rfl, rfl, hev x⟩
theorem Ts_app : ∀ {l m : List V} {xs ys : List Value}, Ts E l xs → Ts E m ys → Ts E (app l m) (xs ++ ys)
  | [], _, [], _, _, h => h
  | _ :: _, _, _ :: _, _, h1, h2 => ⟨h1.1, Ts_app h1.2 h2⟩
  | [], _, _ :: _, _, h, _ => h.elim
  | _ :: _, _, [], _, h, _ => h.elim
theorem caps_ok : ∀ (caps : Vs) (xs : Array Value) (o : Nat), xs.size = o + vsizes caps → caps.flat = true → RL E caps (fun k => xs[k]?) o → Ts E caps.toList (xs.toList.drop o)
  | .nil, xs, o, hs, _, _ => by
    simp only [vsizes, Nat.add_zero] at hs
    rw [List.drop_of_length_le (by simp [hs])]
    trivial
  | .cons v l, xs, o, hs, hf, hr => by
    simp only [Vs.flat, Bool.and_eq_true, Bool.not_eq_true'] at hf
    obtain ⟨⟨ha, htup⟩, hl⟩ := hf
    simp only [vsizes, vsize_scalar ha] at hs
    simp only [RL, vsize_scalar ha] at hr
    have hlt : o < xs.toList.length := by simp; omega
    rw [List.drop_eq_getElem_cons hlt]
    refine ⟨?_, caps_ok l xs (o + 1) (by omega) hl hr.2⟩
    obtain ⟨y, h1, h2⟩ := R_one v _ o 0 hr.1 (by rw [vsize_scalar ha]; omega)
    have hy : xs.toList[o] = y := by
      have h3 := (Array.getElem?_eq_some_iff.1 h1)
      obtain ⟨h4, h5⟩ := h3
      simpa using h5
    rw [hy]
    by_cases hone : v.one = true
    · refine T_mk hone h2 (R_shift v _ _ o 0 (fun q hq => ?_) hr.1)
      rw [vsize_scalar ha] at hq
      obtain rfl : q = 0 := by omega
      exact h1.symm
    · cases v <;> simp_all [V.one, V.isAgg, V.isTup, T]
end
end Go.DD

/- An operation of the table does what the table says. -/
namespace Go.DD
set_option linter.unusedVariables false
set_option linter.unusedSimpArgs false
open Go.RowKit
section
variable {P : Program} {Γ : Ctx} {E : Env}

def UponN (P : Program) (K : Value → World → Prop) : Result Next → Prop
  | .ok (.value v) w' => K v w'
  | .ok .skip w' => K undef w'
  | .ok (.enter f args) w' => Calls P f args w' fun | .returned v, w'' => K v w'' | _, _ => False
  | _ => False
theorem UponN.of_V {K : Value → World → Prop} {r : Result Next} (h : UponV P K r) : UponN P K r := by
  unfold UponV at h
  split at h
  · exact h
  · exact h
  · exact h.elim
theorem UponN.wp {o : Oper} {a : Act} {w : World} {K : Value → World → Prop} {next : Act → World → Prop} {Q : Exit → Act → World → Prop} (h : UponN P K ((execOp a.eval o).run P w)) (hk : ∀ x w', K x w' → next (a.put o.dst x) w') : o.wp P a w next Q := by
  unfold Oper.wp
  generalize (execOp a.eval o).run P w = r at h
  unfold UponN at h
  split at h
  · exact hk _ _ h
  · exact hk _ _ h
  · refine Calls.mono h fun e w'' he => ?_
    cases e with
    | returned v => exact hk _ _ he
    | panicked _ => exact he.elim
    | outgrown => exact he.elim
  · exact h.elim

theorem UponV.mono {K K' : Value → World → Prop} {r : Result Next} (h : UponV P K r) (hk : ∀ x w', K x w' → K' x w') : UponV P K' r := by
  unfold UponV at *
  split at h
  · exact hk _ _ h
  · refine Calls.mono h fun e w'' he => ?_
    cases e with
    | returned v => exact hk _ _ he
    | panicked _ => exact he.elim
    | outgrown => exact he.elim
  · exact h.elim

theorem ResH.fine {κ : V → Heap → Prop} {s : Sem Value} (h : ResH E κ (s.run P E.w)) : UponN P (Fine E κ) ((do pure (Next.value (← s))).run P E.w) := by
  obtain ⟨x, E', v, h', h1, h2, h3, h4, h5, h6⟩ := h
  have : (do pure (Next.value (← s)) : Sem Next).run P E.w = .ok (.value x) E'.w := by simp [h1]
  rw [this]
  exact ⟨E', v, h', rfl, h2, h3, h4, h5, h6⟩
theorem ResP.fine (hw : Wf E) {h : Heap} (hs : SimH E h) {κ : V → Heap → Prop} {s : Sem Value} (hr : ResP E (fun v => κ v h) (s.run P E.w)) : UponN P (Fine E κ) ((do pure (Next.value (← s))).run P E.w) :=
  ResH.fine (hr.heap hw hs fun _ h => h)
theorem T.fine (hw : Wf E) {h : Heap} (hs : SimH E h) {κ : V → Heap → Prop} {v : V} {x : Value} (ht : T E v x) (hk : κ v h) : Fine E κ x E.w := ⟨E, v, h, rfl, Ext.refl E, hw, hs, ht, hk⟩

theorem callV_run {f : V} {g : Nat} {caps : Vs} {a : Act} {fo : Operand} {args : Array Operand} {ts : Array TypeId} {o : Oper} (ho : o.op = .call ⟨.value fo, args, ts⟩) (hT : T E f (a.eval fo)) (hf : f = .fn g caps) {ev : Operand → V} (hev : ∀ x, T E (ev x) (a.eval x)) :
    ∃ xs : Array Value, Ts E (app (mapEv ev args.toList) caps.toList) xs.toList ∧ execOp a.eval o = callFunc g xs := by
  subst hf
  obtain ⟨xs, h1, h2, h3, h4⟩ := T_fn.1 hT
  have hc := caps_ok caps xs 0 (by omega) h3 h4
  refine ⟨args.map a.eval ++ xs, ?_, ?_⟩
  · simpa using Ts_app (mapEv_ok hev args.toList) hc
  · unfold execOp
    simp [ho, resolve, h1, Deferred.ofValue, invoke]

theorem allOne_RL {E : Env} : ∀ (caps : List V) (xs : List Value) (o : Nat) (c : Nat → Option Value), Ts E caps xs → allOne caps = true → (∀ q, q < xs.length → c (o + q) = xs[q]?) → RL E (Vs.of caps) c o ∧ vsizes (Vs.of caps) = xs.length ∧ (Vs.of caps).flat = true
  | [], [], o, c, _, _, _ => ⟨trivial, rfl, rfl⟩
  | v :: l, x :: xs, o, c, ht, ha, hc => by
    simp only [allOne, Bool.and_eq_true] at ha
    have hz : vsize v = 1 := by cases v <;> simp_all [V.one, vsize]
    have hf : v.isAgg = false ∧ v.isTup = false := by cases v <;> simp_all [V.one, V.isAgg, V.isTup]
    obtain ⟨h1, h2, h3⟩ := allOne_RL l xs (o + 1) c ht.2 ha.2 fun q hq => by
      have := hc (q + 1) (by simp; omega)
      rw [show o + 1 + q = o + (q + 1) by omega, this]
      simp
    refine ⟨?_, by simp only [Vs.of, vsizes, hz, h2, List.length_cons]; omega, by simp [Vs.of, Vs.flat, hf, h3]⟩
    simp only [Vs.of, RL, hz]
    refine ⟨?_, h1⟩
    have h4 := (T_one ha.1 ht.1).2
    refine R_shift v _ _ 0 o (fun q hq => ?_) h4
    obtain rfl : q = 0 := by omega
    have := hc 0 (by simp)
    simpa using this
  | [], _ :: _, _, _, h, _, _ => h.elim
  | _ :: _, [], _, _, h, _, _ => h.elim
theorem makeFuncD_ok {E : Env} {f : Fn} {first caps : List V} {fs cs : Array Value} {κ : V → Prop} (hl : makeFuncD f first caps κ) (hf : Ts E first fs.toList) (hc : Ts E caps cs.toList) : ResP E κ ((Instr.makeFunc f fs cs).run P E.w) := by
  unfold makeFuncD at hl
  split at hl
  · split at hl
    · rename_i n ha
      obtain ⟨h1, h2, h3⟩ := allOne_RL caps cs.toList 0 (fun k => cs[k]?) hc ha fun q hq => by simp
      have hfs : fs = #[] := by
        cases h : fs.toList with
        | nil => exact Array.toList_eq_nil_iff.1 h
        | cons x l => rw [h] at hf; exact hf.elim
      subst hfs
      exact .mk _ _ (by simp [Instr.makeFunc]) (T_fn.2 ⟨cs, rfl, by rw [h2]; simp, h3, h1⟩) hl
    · exact hl.elim
  · exact hl.elim
theorem pD_ok (hΓ : CtxOk P Γ) (hw : Wf E) {h : Heap} (hs : SimH E h) (hgl : GlOk Γ.gl E) {a : Act} {ev : Operand → V} (hev : ∀ x, T E (ev x) (a.eval x)) {o : Oper} {κ : V → Heap → Prop} (hd : pD Γ o.op ev h (fun v => κ v h)) :
    UponN P (Fine E κ) ((execOp a.eval o).run P E.w) := by
  have ht := hΓ.tb
  unfold pD at hd
  split at hd
  · rename_i x ho
    unfold execOp; simp only [ho, Sem.run_pure]
    exact T.fine hw hs (hev x) hd
  · rename_i x ho
    unfold execOp; simp only [ho, Sem.run_pure]
    exact T.fine hw hs (hev x) hd
  · rename_i c x y ho
    unfold execOp; simp only [ho]
    have hc := hev c
    have key : ∀ b : Bool, a.eval c = .bool b → κ (if b then ev x else ev y) h → UponN P (Fine E κ) ((do pure (Next.value (if ← asBool (a.eval c) then a.eval x else a.eval y))).run P E.w) := fun b hb hk => by
      rw [hb]
      simp only [asBool, Sem.run_bind, Sem.run_pure, Result.andThen_ok]
      refine T.fine hw hs (v := if b then ev x else ev y) ?_ hk
      cases b
      · exact hev y
      · exact hev x
    unfold pickD at hd
    split at hd
    · rename_i he; rw [he] at hc; exact key true (T_tt.1 hc) hd
    · rename_i he; rw [he] at hc; exact key false (T_ff.1 hc) hd
    · rename_i b he
      rw [he] at hc
      refine key b (T_bool.1 hc) ?_
      cases b
      · exact hd.2 rfl
      · exact hd.1 rfl
    · exact hd.elim
  · rename_i t parts ho
    unfold execOp; simp only [ho]
    refine ResP.fine hw hs (buildD_ok ht ?_ hd)
    have := mapEv2_ok hev parts.toList
    simpa using this
  · rename_i t x ho
    unfold execOp; simp only [ho]
    exact ResP.fine hw hs (loadD_ok ht hw hs hd (hev x))
  · rename_i x ho
    obtain ⟨h1, h2⟩ := nilCheckD_ok ho hd (hev x)
    rw [h1]
    exact T.fine hw hs (hev x) h2
  · rename_i op t x y t' ho
    unfold execOp; simp only [ho]
    exact ResP.fine hw hs (binD_ok ht hd (hev x) (hev y))
  · rename_i op t x ho
    unfold execOp; simp only [ho]
    exact ResP.fine hw hs (unD_ok hd (hev x))
  · rename_i s d x ho
    unfold execOp; simp only [ho]
    unfold convP at hd
    split at hd
    · exact ResH.fine (convSB_ok ht hw hs hd (hev x))
    · exact ResP.fine hw hs (convBS_ok ht hw hs hd (hev x))
    · exact ResP.fine hw hs (convNum_ok ht hd (hev x))
  · rename_i t x lo hi mx ho
    unfold execOp; simp only [ho]
    exact ResP.fine hw hs (sliceD_ok ht hs hd (hev x) (optEv_ok hev lo) (optEv_ok hev hi) (optEv_ok hev mx))
  · rename_i s x k ho
    unfold execOp; simp only [ho]
    exact ResP.fine hw hs (fieldAddrD_ok ht hd (hev x))
  · rename_i s x k ho
    unfold execOp; simp only [ho]
    exact ResP.fine hw hs (fieldD_ok ht hd (hev x))
  · rename_i t x i ho
    unfold execOp; simp only [ho]
    exact ResP.fine hw hs (indexAddrD_ok ht hd (hev x) (hev i))
  · rename_i t x i ho
    unfold execOp; simp only [ho]
    exact ResP.fine hw hs (indexD_ok ht hd (hev x) (hev i))
  · rename_i t x ho
    unfold execOp; simp only [ho]
    exact ResP.fine hw hs (arrayAtD_ok ht hd (hev x))
  · rename_i t x ho
    unfold execOp; simp only [ho]
    exact ResP.fine hw hs (makeInterfaceD_ok ht hd (hev x))
  · rename_i f first caps ho
    unfold execOp; simp only [ho]
    refine ResP.fine hw hs (makeFuncD_ok hd ?_ ?_)
    · simpa using mapEv_ok hev first.toList
    · simpa using mapEv_ok hev caps.toList
  · rename_i x k ho
    unfold execOp; simp only [ho]
    exact ResP.fine hw hs (extractD_ok hd (hev x))
  · rename_i args ts ho
    split at hd
    · rename_i x t hx htt
      obtain rfl : args = #[x] := by rw [← Array.toArray_toList (xs := args), hx]
      obtain rfl : ts = #[t] := by rw [← Array.toArray_toList (xs := ts), htt]
      have : execOp a.eval o = (do pure (Next.value (← Builtin.len_ #[t] o.type #[a.eval x]))) := by
        unfold execOp; simp [ho, resolve, invoke, builtin]
      rw [this]
      exact ResP.fine hw hs (lenD_ok ht hd (hev x))
    · exact hd.elim
  · rename_i args ts ho
    split at hd
    · rename_i x t hx htt
      obtain rfl : args = #[x] := by rw [← Array.toArray_toList (xs := args), hx]
      obtain rfl : ts = #[t] := by rw [← Array.toArray_toList (xs := ts), htt]
      have : execOp a.eval o = (do pure (Next.value (← Builtin.cap_ #[t] o.type #[a.eval x]))) := by
        unfold execOp; simp [ho, resolve, invoke, builtin]
      rw [this]
      exact ResP.fine hw hs (capD_ok ht hd (hev x))
    · exact hd.elim
  · rename_i args ts ho
    split at hd
    · rename_i x y hx
      obtain rfl : args = #[x, y] := by rw [← Array.toArray_toList (xs := args), hx]
      have : execOp a.eval o = (do pure (Next.value (← Builtin.min_ ts o.type #[a.eval x, a.eval y]))) := by
        unfold execOp; simp [ho, resolve, invoke, builtin]
      rw [this]
      exact ResP.fine hw hs (minmaxD_ok (mx := false) hd (hev x) (hev y))
    · exact hd.elim
  · rename_i args ts ho
    split at hd
    · rename_i x y hx
      obtain rfl : args = #[x, y] := by rw [← Array.toArray_toList (xs := args), hx]
      have : execOp a.eval o = (do pure (Next.value (← Builtin.max_ ts o.type #[a.eval x, a.eval y]))) := by
        unfold execOp; simp [ho, resolve, invoke, builtin]
      rw [this]
      exact ResP.fine hw hs (minmaxD_ok (mx := true) hd (hev x) (hev y))
    · exact hd.elim
  · rename_i fo args ts ho
    unfold callP at hd
    split at hd
    · rename_i g caps hg
      split at hd
      · rename_i s hsp
        obtain ⟨xs, h1, h2⟩ := callV_run (E := E) ho (hev fo) hg hev
        rw [h2]
        refine UponN.of_V (UponV.mono ((hΓ.fs _ (lookup_mem hsp)).2.1 E h _ xs _ hw hs hgl h1 hd) fun x w' ⟨E', v, h', e1, e2, e3, e4, e5, e6, e7⟩ => ?_)
        subst e6
        exact ⟨E', v, h', e1, e2, e3, e4, e5, e7⟩
      · exact hd.elim
    · exact hd.elim
  · exact hd.elim

theorem wD_ok (hΓ : CtxOk P Γ) (hw : Wf E) {h : Heap} (hs : SimH E h) (hgl : GlOk Γ.gl E) {a : Act} {ev : Operand → V} (hev : ∀ x, T E (ev x) (a.eval x)) {o : Oper} {κ : V → Heap → Prop} (hwt : isW Γ o.op = true) (hd : wD Γ o.op ev h κ) :
    UponN P (Fine E κ) ((execOp a.eval o).run P E.w) := by
  have ht := hΓ.tb
  unfold wD at hd
  split at hd
  · rename_i t ho
    unfold execOp; simp only [ho]
    exact ResH.fine (allocD_ok ht hw hs hd)
  · rename_i t x ho
    unfold execOp; simp only [ho]
    exact ResH.fine (boxD_ok hw hs hd (hev x))
  · rename_i t x y ho
    unfold execOp; simp only [ho]
    obtain ⟨E', h', h1, h2, h3, h4, h5⟩ := storeD_ok ht hw hs hd (hev x) (hev y)
    have : (do Instr.storeAt t (a.eval x) (a.eval y); pure Next.skip : Sem Next).run P E.w = .ok .skip E'.w := by simp [h1]
    rw [this]
    exact ⟨E', .any, h', rfl, h2, h3, h4, trivial, h5⟩
  · rename_i args ts ho
    split at hd
    · rename_i x y t u hx htt
      obtain rfl : args = #[x, y] := by rw [← Array.toArray_toList (xs := args), hx]
      obtain rfl : ts = #[t, u] := by rw [← Array.toArray_toList (xs := ts), htt]
      have : execOp a.eval o = (do pure (Next.value (← Builtin.append_ #[t, u] o.type #[a.eval x, a.eval y]))) := by
        unfold execOp; simp [ho, resolve, invoke, builtin]
      rw [this]
      exact ResH.fine (appendZ_ok ht hw hs (hev x) (T_unx (hev y)) hd)
    · exact hd.elim
  · rename_i args ts ho
    split at hd
    · rename_i x y t u hx htt
      obtain rfl : args = #[x, y] := by rw [← Array.toArray_toList (xs := args), hx]
      obtain rfl : ts = #[t, u] := by rw [← Array.toArray_toList (xs := ts), htt]
      have : execOp a.eval o = (do pure (Next.value (← Builtin.copy_ #[t, u] o.type #[a.eval x, a.eval y]))) := by
        unfold execOp; simp [ho, resolve, invoke, builtin]
      rw [this]
      exact ResH.fine (copyD_ok ht hw hs hd (hev x) (hev y))
    · exact hd.elim
  · rename_i t n parts ho
    unfold execOp; simp only [ho]
    refine ResH.fine (buildSliceD_ok ht hw hs ?_ hd)
    have := mapEv2_ok hev parts.toList
    simpa using this
  · rename_i t l c ho
    unfold execOp; simp only [ho]
    exact ResH.fine (makeSliceD_ok ht hw hs hd (hev l) (hev c))
  · rename_i s d x ho
    have hsd : s = d := by
      rw [ho] at hwt
      simpa [isW] using hwt
    subst hsd
    unfold execOp; simp only [ho]
    exact ResH.fine (convSame_ok ht hw hs hd (hev x))
  · rename_i fo args ts ho
    unfold callH at hd
    split at hd
    · rename_i g caps hg
      split at hd
      · rename_i s hsp
        obtain ⟨xs, h1, h2⟩ := callV_run (E := E) ho (hev fo) hg hev
        rw [h2]
        exact UponN.of_V ((hΓ.fh _ (lookup_mem hsp)).2 E h _ xs _ hw hs hgl h1 hd)
      · exact hd.elim
    · exact hd.elim
  · exact hd.elim

theorem opD_ok (hΓ : CtxOk P Γ) (hw : Wf E) {h : Heap} (hs : SimH E h) (hgl : GlOk Γ.gl E) {a : Act} {ev : Operand → V} (hev : ∀ x, T E (ev x) (a.eval x)) {o : Oper} {κ : V → Heap → Prop} (hd : opD Γ o.op ev h κ) :
    UponN P (Fine E κ) ((execOp a.eval o).run P E.w) := by
  unfold opD at hd
  simp only [frcH_eq] at hd
  have hev' : ∀ k x, T E (evx k ev x) (a.eval x) := fun k x => by cases k <;> first | exact hev x | exact T_unx (hev x)
  split at hd
  · rename_i hwt
    exact wD_ok hΓ hw hs hgl (hev' _) hwt hd
  · exact pD_ok hΓ hw hs hgl (hev' _) hd
end
end Go.DD

/- One outcome alone: so operations may change places. -/
namespace Go.DD
set_option linter.unusedVariables false
set_option linter.unusedSimpArgs false
open Go.RowKit

theorem okq_sng : ∀ (p : List Step) (v : V) (K : Prop), okq v p K → K ∧ ∀ K' : Prop, K' → okq v p K'
  | [], v, K, h => ⟨by simpa [okq] using h, fun K' h' => by simpa [okq] using h'⟩
  | s :: p, v, K, h => by
    cases v <;> cases s <;> simp only [okq] at h ⊢ <;> first | exact h.elim | skip
    · split at h
      · rename_i hb
        obtain ⟨h1, h2⟩ := okq_sng p _ K h.2
        exact ⟨h1, fun K' h' => ⟨h.1, h2 K' h'⟩⟩
      · exact h.elim
    · split at h
      · obtain ⟨h1, h2⟩ := okq_sng p _ K h
        exact ⟨h1, fun K' h' => h2 K' h'⟩
      · exact h.elim

section
variable {tb : List (Option TI)} {κ : V → Prop}
theorem loadD_sng {t : Nat} {x : V} {h : List (Option V)} (hd : loadD tb t x h κ) : ∃ v, κ v ∧ ∀ κ' : V → Prop, κ' v → loadD tb t x h κ' := by
  unfold loadD at hd
  split at hd
  · exact hd.elim
  · split at hd
    · split at hd
      · obtain ⟨h1, h2⟩ := okq_sng _ _ _ hd
        split at h1
        · exact ⟨_, h1, fun κ' h' => by unfold loadD; simp only [*]⟩
        · exact h1.elim
      · exact hd.elim
    · split at hd
      · split at hd
        · obtain ⟨h1, h2⟩ := okq_sng _ _ _ hd
          obtain ⟨ho, h1⟩ := h1
          split at h1
          · exact ⟨_, h1, fun κ' h' => by unfold loadD; simp only [*]; exact h2 _ ⟨trivial, trivial⟩⟩
          · exact h1.elim
        · exact hd.elim
      · exact hd.elim
    · split at hd
      · exact ⟨_, hd, fun κ' h' => by unfold loadD; simp only [*]⟩
      · exact hd.elim
    · exact hd.elim
theorem pickD_sng {c a b : V} (hd : pickD c a b κ) : ∃ v, κ v ∧ ∀ κ' : V → Prop, κ' v → pickD c a b κ' := by
  unfold pickD at hd
  split at hd
  · exact ⟨_, hd, fun κ' h' => h'⟩
  · exact ⟨_, hd, fun κ' h' => h'⟩
  · rename_i c
    cases c
    · exact ⟨_, hd.2 rfl, fun κ' h' => ⟨fun h => (by cases h), fun _ => h'⟩⟩
    · exact ⟨_, hd.1 rfl, fun κ' h' => ⟨fun _ => h', fun h => (by cases h)⟩⟩
  · exact hd.elim
theorem nilCheckD_sng {x : V} (hd : nilCheckD x κ) : ∃ v, κ v ∧ ∀ κ' : V → Prop, κ' v → nilCheckD x κ' := by
  unfold nilCheckD at hd
  split at hd <;> first | exact hd.elim | exact ⟨_, hd, fun κ' h' => h'⟩
theorem unD_sng {op : UnOp} {x : V} (hd : unD op x κ) : ∃ v, κ v ∧ ∀ κ' : V → Prop, κ' v → unD op x κ' := by
  unfold unD at hd
  split at hd <;> first | exact hd.elim | exact ⟨_, hd, fun κ' h' => h'⟩
theorem convNum_sng {s d : Nat} {x : V} (hd : convNum tb s d x κ) : ∃ v, κ v ∧ ∀ κ' : V → Prop, κ' v → convNum tb s d x κ' := by
  unfold convNum at hd
  split at hd
  · split at hd <;> first | exact hd.elim | exact ⟨_, hd, fun κ' h' => by unfold convNum; simp only [*]⟩
  · split at hd <;> first | exact hd.elim | exact ⟨_, hd, fun κ' h' => by unfold convNum; simp only [*]⟩
  · exact hd.elim
theorem extractD_sng {x : V} {k : Nat} (hd : extractD x k κ) : ∃ v, κ v ∧ ∀ κ' : V → Prop, κ' v → extractD x k κ' := by
  unfold extractD at hd
  split at hd
  · split at hd <;> first | exact hd.elim | exact ⟨_, hd, fun κ' h' => by unfold extractD; simp only [*]⟩
  · exact hd.elim
theorem lenD_sng {t : Nat} {x : V} (hd : lenD tb t x κ) : ∃ v, κ v ∧ ∀ κ' : V → Prop, κ' v → lenD tb t x κ' := by
  unfold lenD at hd
  split at hd
  · split at hd <;> first | exact hd.elim | exact ⟨_, hd, fun κ' h' => by unfold lenD; simp only [*]⟩
  · split at hd <;> first | exact hd.elim | exact ⟨_, hd, fun κ' h' => by unfold lenD; simp only [*]⟩
  · exact ⟨_, hd, fun κ' h' => by unfold lenD; simp only [*]⟩
  · split at hd <;> first | exact hd.elim | exact ⟨_, hd, fun κ' h' => by unfold lenD; simp only [*]⟩
  · exact hd.elim
theorem minmaxD_sng {mx : Bool} {l : List V} (hd : minmaxD mx l κ) : ∃ v, κ v ∧ ∀ κ' : V → Prop, κ' v → minmaxD mx l κ' := by
  unfold minmaxD at hd
  split at hd
  · split at hd <;> exact ⟨_, hd, fun κ' h' => h'⟩
  · exact hd.elim
theorem fieldD_sng {s : Nat} {x : V} {k : Nat} (hd : fieldD tb s x k κ) : ∃ v, κ v ∧ ∀ κ' : V → Prop, κ' v → fieldD tb s x k κ' := by
  unfold fieldD at hd
  split at hd
  · split at hd
    · split at hd
      · split at hd
        · split at hd
          · exact ⟨_, hd, fun κ' h' => by unfold fieldD; simp only [*]⟩
          · exact hd.elim
        · exact hd.elim
      · exact hd.elim
    · exact hd.elim
  · exact hd.elim
theorem indexD_sng {t : Nat} {x i : V} (hd : indexD tb t x i κ) : ∃ v, κ v ∧ ∀ κ' : V → Prop, κ' v → indexD tb t x i κ' := by
  unfold indexD at hd
  split at hd
  · split at hd
    · split at hd
      · split at hd
        · split at hd
          · obtain ⟨h0, hd⟩ := hd
            split at hd
            · exact ⟨_, hd, fun κ' h' => by unfold indexD; simp only [*]; exact ⟨trivial, trivial⟩⟩
            · exact hd.elim
          · exact hd.elim
        · exact hd.elim
      · exact hd.elim
    · split at hd
      · obtain ⟨h0, hd⟩ := hd
        exact ⟨_, hd, fun κ' h' => by unfold indexD; simp only [*]; exact ⟨trivial, trivial⟩⟩
      · exact hd.elim
    · exact hd.elim
  · exact hd.elim
theorem arrayAtD_sng {t : Nat} {x : V} (hd : arrayAtD tb t x κ) : ∃ v, κ v ∧ ∀ κ' : V → Prop, κ' v → arrayAtD tb t x κ' := by
  unfold arrayAtD at hd
  split at hd
  · split at hd
    · split at hd
      · split at hd
        · obtain ⟨h0, hd⟩ := hd
          exact ⟨_, hd, fun κ' h' => by unfold arrayAtD; simp only [*]; exact ⟨trivial, trivial⟩⟩
        · exact hd.elim
      · split at hd
        · obtain ⟨h0, hd⟩ := hd
          exact ⟨_, hd, fun κ' h' => by unfold arrayAtD; simp only [*]; exact ⟨trivial, trivial⟩⟩
        · exact hd.elim
      · exact hd.elim
    · exact hd.elim
  · exact hd.elim
theorem makeFuncD_sng {f : Fn} {first caps : List V} {κ : V → Prop} (hd : makeFuncD f first caps κ) : ∃ v, κ v ∧ ∀ κ' : V → Prop, κ' v → makeFuncD f first caps κ' := by
  unfold makeFuncD at hd
  split at hd
  · split at hd
    · rename_i n ha
      exact ⟨_, hd, fun κ' h' => by unfold makeFuncD; simp only [ha]; exact h'⟩
    · exact hd.elim
  · exact hd.elim
theorem makeInterfaceD_sng {t : Nat} {x : V} (hd : makeInterfaceD tb t x κ) : ∃ v, κ v ∧ ∀ κ' : V → Prop, κ' v → makeInterfaceD tb t x κ' := by
  unfold makeInterfaceD at hd
  split at hd
  · exact hd.elim
  · exact hd.elim
  · split at hd
    · exact ⟨_, hd, fun κ' h' => by unfold makeInterfaceD; simp only [*]⟩
    · exact hd.elim
  · exact hd.elim
theorem fieldAddrD_sng {s : Nat} {x : V} {k : Nat} (hd : fieldAddrD tb s x k κ) : ∃ v, κ v ∧ ∀ κ' : V → Prop, κ' v → fieldAddrD tb s x k κ' := by
  unfold fieldAddrD at hd
  split at hd
  · split at hd
    · split at hd
      · split at hd
        · exact hd.elim
        · split at hd
          · exact ⟨_, hd, fun κ' h' => by unfold fieldAddrD; simp only [*]⟩
          · split at hd
            · exact ⟨_, hd, fun κ' h' => by unfold fieldAddrD; simp only [*]⟩
            · exact hd.elim
          · exact hd.elim
      · exact hd.elim
    · exact hd.elim
  · exact hd.elim
theorem indexAddrD_sng {t : Nat} {x i : V} (hd : indexAddrD tb t x i κ) : ∃ v, κ v ∧ ∀ κ' : V → Prop, κ' v → indexAddrD tb t x i κ' := by
  unfold indexAddrD at hd
  split at hd
  · split at hd
    · split at hd
      · split at hd
        · split at hd
          · exact ⟨_, hd.2, fun κ' h' => by unfold indexAddrD; simp only [*]; exact ⟨trivial, trivial⟩⟩
          · exact hd.elim
        · split at hd
          · exact ⟨_, hd.2, fun κ' h' => by unfold indexAddrD; simp only [*]; exact ⟨trivial, trivial⟩⟩
          · exact hd.elim
        · exact hd.elim
      · exact hd.elim
    · split at hd
      · split at hd
        · exact ⟨_, hd.2, fun κ' h' => by unfold indexAddrD; simp only [*]; exact ⟨trivial, trivial⟩⟩
        · split at hd
          · exact ⟨_, hd.2, fun κ' h' => by unfold indexAddrD; simp only [*]; exact ⟨trivial, trivial⟩⟩
          · exact hd.elim
        · exact hd.elim
      · exact hd.elim
    · exact hd.elim
  · exact hd.elim
theorem cutAt_sng {v : Option V} {d : Int} {κ : Int → Prop} (h : cutAt v d κ) : ∃ n, κ n ∧ ∀ κ' : Int → Prop, κ' n → cutAt v d κ' := by
  unfold cutAt at h
  split at h
  · exact ⟨_, h, fun κ' h' => h'⟩
  · exact ⟨_, h, fun κ' h' => h'⟩
  · exact h.elim
theorem sliceD_sng {t : Nat} {x : V} {lo hi mx : Option V} {h : List (Option V)} (hd : sliceD tb t x lo hi mx h κ) : ∃ v, κ v ∧ ∀ κ' : V → Prop, κ' v → sliceD tb t x lo hi mx h κ' := by
  unfold sliceD at hd
  split at hd
  · exact hd.elim
  obtain ⟨l, hd, hl⟩ := cutAt_sng hd
  split at hd
  · split at hd
    · split at hd
      · split at hd
        · obtain ⟨r, hd, hr⟩ := cutAt_sng hd
          obtain ⟨m, hd, hm⟩ := cutAt_sng hd
          exact ⟨_, hd.2, fun κ' h' => by unfold sliceD; simp only [*]; exact hl _ (hr _ (hm _ ⟨hd.1, h'⟩))⟩
        · exact hd.elim
      · split at hd
        · obtain ⟨r, hd, hr⟩ := cutAt_sng hd
          split at hd
          · exact ⟨_, hd.2, fun κ' h' => by unfold sliceD; simp only [*]; exact hl _ (hr _ ⟨hd.1, h'⟩)⟩
          · exact hd.elim
        · exact hd.elim
      · split at hd
        · obtain ⟨r, hd, hr⟩ := cutAt_sng hd
          split at hd
          · exact ⟨_, hd.2, fun κ' h' => by unfold sliceD; simp only [*]; exact hl _ (hr _ ⟨hd.1, h'⟩)⟩
          · obtain ⟨m, hd, hm⟩ := cutAt_sng hd
            rcases hd with hd | hd
            · exact ⟨_, hd.2, fun κ' h' => by unfold sliceD; simp only [*]; exact hl _ (hr _ (hm _ (.inl ⟨hd.1, trivial⟩)))⟩
            · exact ⟨_, hd.2, fun κ' h' => by unfold sliceD; simp only [*]; exact hl _ (hr _ (hm _ (.inr ⟨hd.1, h'⟩)))⟩
        · exact hd.elim
      · obtain ⟨r, hd, hr⟩ := cutAt_sng hd
        obtain ⟨m, hd, hm⟩ := cutAt_sng hd
        exact ⟨_, hd.2, fun κ' h' => by unfold sliceD; simp only [*]; exact hl _ (hr _ (hm _ ⟨hd.1, trivial⟩))⟩
      · exact hd.elim
    · exact hd.elim
  · split at hd
    · obtain ⟨r, hd, hr⟩ := cutAt_sng hd
      exact ⟨_, hd.2, fun κ' h' => by unfold sliceD; simp only [*]; exact hl _ (hr _ ⟨hd.1, h'⟩)⟩
    · exact hd.elim
  · split at hd
    · split at hd
      · split at hd
        · exact hd.elim
        · obtain ⟨hd, hq⟩ := okq_sng _ _ _ hd
          split at hd
          · split at hd
            · obtain ⟨r, hd, hr⟩ := cutAt_sng hd
              obtain ⟨m, hd, hm⟩ := cutAt_sng hd
              exact ⟨_, hd.2, fun κ' h' => by unfold sliceD; simp only [*]; exact hl _ (hq _ (hr _ (hm _ ⟨hd.1, h'⟩)))⟩
            · exact hd.elim
          · exact hd.elim
      · split at hd
        · obtain ⟨r, hd, hr⟩ := cutAt_sng hd
          split at hd
          · exact ⟨_, hd.2, fun κ' h' => by unfold sliceD; simp only [*]; exact hl _ (hr _ ⟨hd.1, h'⟩)⟩
          · exact hd.elim
        · exact hd.elim
      · exact hd.elim
    · exact hd.elim
  · exact hd.elim

theorem fillS_sng {fs : List (Nat × Nat)} {z0 : Vs} : ∀ (parts : List (Nat × V)) (vs : Vs) (κ : Vs → Prop), fillS tb fs z0 parts vs κ → ∃ v, κ v ∧ ∀ κ' : Vs → Prop, κ' v → fillS tb fs z0 parts vs κ'
  | [], vs, κ, h => ⟨vs, h, fun κ' h' => h'⟩
  | (k, u) :: rest, vs, κ, h => by
    simp only [fillS] at h ⊢
    split at h
    · exact h.elim
    · split at h
      · exact h.elim
      · split at h
        · exact fillS_sng rest _ κ h
        · exact h.elim
theorem buildD_sng {t : Nat} {parts : List (Nat × V)} (hd : buildD tb t parts κ) : ∃ v, κ v ∧ ∀ κ' : V → Prop, κ' v → buildD tb t parts κ' := by
  unfold buildD at hd
  split at hd
  · obtain ⟨v, h1, h2⟩ := fillS_sng _ _ _ hd
    exact ⟨_, h1, fun κ' h' => by unfold buildD; simp only [*]⟩
  · split at hd
    · split at hd
      · exact ⟨_, hd, fun κ' h' => by unfold buildD; simp only [*]⟩
      · exact hd.elim
    · exact hd.elim
  · exact hd.elim
theorem intBin_sng {op : BinOp} {k : IntKind} {a b : Int} (hd : intBin op k a b κ) : ∃ v, κ v ∧ ∀ κ' : V → Prop, κ' v → intBin op k a b κ' := by
  unfold intBin at hd
  split at hd <;> first | exact hd.elim | exact ⟨_, hd, fun κ' h' => h'⟩ | exact ⟨_, hd.2, fun κ' h' => ⟨hd.1, h'⟩⟩
theorem strBin_sng {op : BinOp} {a b : List UInt8} (hd : strBin op a b κ) : ∃ v, κ v ∧ ∀ κ' : V → Prop, κ' v → strBin op a b κ' := by
  unfold strBin at hd
  split at hd <;> first | exact hd.elim | exact ⟨_, hd, fun κ' h' => h'⟩ | exact ⟨_, hd.2, fun κ' h' => ⟨hd.1, h'⟩⟩
def nilSl : Operand → Bool | .const (.slice ..) => true | _ => false
theorem eqlD_sng {t : Nat} {yo : Operand} {x y : V} {κ : Bool → Prop} (hn : nilSl yo = false) (hd : eqlD tb t yo x y κ) : ∃ v, κ v ∧ ∀ κ' : Bool → Prop, κ' v → eqlD tb t yo x y κ' := by
  unfold eqlD at hd
  split at hd
  · rename_i i hg
    split at hd
    · rename_i hc
      have hns : ∀ e, i.d ≠ .slice e := fun e he => by
        rw [he] at hc
        unfold isNilC at hc
        split at hc <;> simp_all [nilSl]
      unfold nilD at hd
      split at hd <;> first
        | exact hd.elim
        | exact (hns _ ‹_›).elim
        | exact ⟨_, hd, fun κ' h' => by unfold eqlD; simp only [hg, hc]; unfold nilD; simp only [*]⟩
    · rename_i hc
      unfold eqD at hd
      split at hd
      · split at hd
        · exact ⟨_, hd, fun κ' h' => by unfold eqlD; simp only [hg, hc]; clear hg; unfold eqD; simp only [*]⟩
        · exact hd.elim
      · split at hd
        · unfold eqRow at hd
          split at hd
          · split at hd
            · split at hd
              · exact ⟨_, hd.2.2, fun κ' h' => by unfold eqlD; simp only [hg, hc]; clear hg; unfold eqD; simp only [vb]; unfold eqRow; simp only [*]; exact ⟨trivial, trivial, trivial⟩⟩
              · exact hd.elim
            · exact hd.elim
          · exact hd.elim
        · exact hd.elim
  · exact hd.elim
theorem binD_sng {op : BinOp} {t : Nat} {xo yo : Operand} {x y : V} (hn : nilSl yo = false) (hd : binD tb op t xo yo x y κ) : ∃ v, κ v ∧ ∀ κ' : V → Prop, κ' v → binD tb op t xo yo x y κ' := by
  unfold binD at hd
  split at hd
  · split at hd
    · exact ⟨_, hd.2, fun κ' h' => ⟨hd.1, h'⟩⟩
    · exact ⟨_, hd.2, fun κ' h' => ⟨hd.1, h'⟩⟩
    · split at hd
      · rename_i hk
        subst hk
        obtain ⟨v, h1, h2⟩ := intBin_sng hd
        exact ⟨v, h1, fun κ' h' => by unfold binD; simp only [*, if_true]⟩
      · exact hd.elim
  · obtain ⟨v, h1, h2⟩ := strBin_sng hd
    exact ⟨v, h1, fun κ' h' => h2 _ h'⟩
  · split at hd
    · obtain ⟨v, h1, h2⟩ := eqlD_sng hn hd
      exact ⟨_, h1, fun κ' h' => by unfold binD; simp only [*]⟩
    · obtain ⟨v, h1, h2⟩ := eqlD_sng hn hd
      exact ⟨_, h1, fun κ' h' => by unfold binD; simp only [*]⟩
    · exact hd.elim
end
section
variable {tb : List (Option TI)} {κ : V → Heap → Prop}
theorem allocD_sng {t : Nat} {h : Heap} (hd : allocD tb t h κ) : ∃ v k, κ v k ∧ ∀ κ' : V → Heap → Prop, κ' v k → allocD tb t h κ' := by
  unfold allocD at hd
  split at hd
  · exact ⟨_, _, hd, fun κ' h' => by unfold allocD; simp only [*]⟩
  · exact hd.elim
theorem boxD_sng {x : V} {h : Heap} (hd : boxD x h κ) : ∃ v k, κ v k ∧ ∀ κ' : V → Heap → Prop, κ' v k → boxD x h κ' := by
  unfold boxD at hd
  split at hd
  · exact ⟨_, _, hd, fun κ' h' => by unfold boxD; simp only [*]⟩
  · exact hd.elim
theorem storeD_sng {t : Nat} {x u : V} {h : Heap} {κ : Heap → Prop} (hd : storeD tb t x u h κ) : ∃ k, κ k ∧ ∀ κ' : Heap → Prop, κ' k → storeD tb t x u h κ' := by
  unfold storeD at hd
  split at hd
  · exact hd.elim
  · split at hd
    · split at hd
      · obtain ⟨h1, h2⟩ := okq_sng _ _ _ hd
        split at h1
        · exact ⟨_, h1, fun κ' h' => by unfold storeD; simp only [*]⟩
        · exact h1.elim
      · exact hd.elim
    · exact hd.elim
theorem growD_sng {ei : TI} {base : V} {m : Nat} {g : Nat → V} {h : Heap} (hd : growD ei base m g h κ) : ∃ v k, κ v k ∧ ∀ κ' : V → Heap → Prop, κ' v k → growD ei base m g h κ' := by
  unfold growD at hd
  split at hd
  · exact ⟨_, _, hd.2, fun κ' h' => by unfold growD; simp only [*]; exact ⟨trivial, trivial⟩⟩
  · split at hd
    · split at hd
      · exact ⟨_, _, hd.2.2, fun κ' h' => by unfold growD; simp only [*]; exact ⟨trivial, trivial, trivial⟩⟩
      · exact hd.elim
    · exact hd.elim
  · exact hd.elim

theorem roomD_sng {ei : TI} {base : V} {m : Nat} {g : Nat → V} {h : Heap} (hd : roomD ei base m g h κ) : ∃ v k, κ v k ∧ ∀ κ' : V → Heap → Prop, κ' v k → roomD ei base m g h κ' := by
  unfold roomD at hd
  split at hd
  · split at hd
    · split at hd
      · exact ⟨_, _, hd.2, fun κ' h' => by unfold roomD; simp only [*]; exact ⟨trivial, trivial⟩⟩
      · exact hd.elim
    · exact hd.elim
  · exact hd.elim
theorem srcD_sng {sz : Nat} {y : V} {h : Heap} {κ : Nat → (Nat → V) → Prop} (hd : srcD sz y h κ) : ∃ m g, κ m g ∧ ∀ κ' : Nat → (Nat → V) → Prop, κ' m g → srcD sz y h κ' := by
  unfold srcD at hd
  split at hd
  · split at hd
    · exact ⟨_, _, hd, fun κ' h' => by unfold srcD; simp only [*]⟩
    · exact hd.elim
  · exact ⟨_, _, hd, fun κ' h' => h'⟩
  · split at hd
    · exact ⟨_, _, hd, fun κ' h' => by unfold srcD; simp only [*]⟩
    · exact hd.elim
  · split at hd
    · obtain ⟨h1, h2⟩ := okq_sng _ _ _ hd
      split at h1
      · split at h1
        · exact ⟨_, _, h1.2, fun κ' h' => by unfold srcD; simp only [*]; exact h2 _ ⟨trivial, trivial⟩⟩
        · exact h1.elim
      · exact h1.elim
    · exact hd.elim
  · exact hd.elim
theorem appendD_sng {t tx : Nat} {base y : V} {h : Heap} (hd : appendD tb t tx base y h κ) : ∃ v k, κ v k ∧ ∀ κ' : V → Heap → Prop, κ' v k → appendD tb t tx base y h κ' := by
  unfold appendD at hd
  split at hd
  · split at hd
    · obtain ⟨m, g, hd, hs⟩ := srcD_sng hd
      rcases hd with hd | hd
      · obtain ⟨v, k, h1, h2⟩ := growD_sng hd
        exact ⟨v, k, h1, fun κ' h' => by unfold appendD; simp only [*]; exact hs _ (.inl (h2 _ h'))⟩
      · obtain ⟨v, k, h1, h2⟩ := roomD_sng hd
        exact ⟨v, k, h1, fun κ' h' => by unfold appendD; simp only [*]; exact hs _ (.inr (h2 _ h'))⟩
    · exact hd.elim
  · exact hd.elim
theorem appendX_sng {t tx : Nat} {base y : V} {h : Heap} (hd : appendX tb t tx base y h κ) : ∃ v k, κ v k ∧ ∀ κ' : V → Heap → Prop, κ' v k → appendX tb t tx base y h κ' := by
  unfold appendX at hd
  split at hd
  · unfold appendMakeD at hd
    split at hd
    · split at hd
      · split at hd
        · exact ⟨_, _, hd.2, fun κ' h' => by unfold appendX appendMakeD; simp only [*]; exact ⟨trivial, trivial⟩⟩
        · exact hd.elim
      · exact hd.elim
    · exact hd.elim
  · obtain ⟨v, k, h1, h2⟩ := appendD_sng hd
    refine ⟨v, k, h1, fun κ' h' => ?_⟩
    unfold appendX
    split
    · exact absurd ‹_› (by simp_all)
    · exact h2 _ h'
theorem appendZ_mono {dx : Bool} {t tx : Nat} {base y : V} {h : Heap} {κ κ' : V → Heap → Prop} (hk : ∀ v k, κ v k → κ' v k) (hd : appendZ dx tb t tx base y h κ) : appendZ dx tb t tx base y h κ' := by
  have hX : appendX tb t tx base y h κ → appendX tb t tx base y h κ' := fun hd => by
    obtain ⟨v, k, h1, h2⟩ := appendX_sng hd
    exact h2 _ (hk _ _ h1)
  unfold appendZ at hd ⊢
  split at hd
  · exact hX hd
  · split at hd
    · unfold appendY at hd ⊢
      split at hd
      · split at hd
        · split at hd
          · split at hd
            · simp only [*]
              exact ⟨trivial, growX_mono hk hd.2⟩
            · exact hd.elim
          · split at hd
            · rename_i hsk
              obtain ⟨m, g, h1, h2⟩ := srcD_sng hd
              exact h2 _ (growX_mono hk h1)
            · exact hd.elim
        · exact hd.elim
      · exact hd.elim
    · exact hX hd

end

theorem convSB_sng {tb : List (Option TI)} {κ : V → Prop} {s d : Nat} {x : V} (hd : convSB tb s d x κ) : ∃ v, κ v ∧ ∀ κ' : V → Prop, κ' v → convSB tb s d x κ' := by
  unfold convSB at hd
  split at hd
  · split at hd
    · split at hd
      · exact ⟨_, hd, fun κ' h' => by unfold convSB; simp only [*]⟩
      · exact hd.elim
    · exact hd.elim
  · exact hd.elim
theorem convBS_sng {tb : List (Option TI)} {κ : V → Prop} {s d : Nat} {x : V} {h : Heap} (hd : convBS tb s d x h κ) : ∃ v, κ v ∧ ∀ κ' : V → Prop, κ' v → convBS tb s d x h κ' := by
  unfold convBS at hd
  split at hd
  · split at hd
    · split at hd
      · exact hd.elim
      · obtain ⟨m, g, hd, hs⟩ := srcD_sng hd
        exact ⟨_, hd.2, fun κ' h' => by unfold convBS; simp only [*]; exact hs _ ⟨hd.1, h'⟩⟩
    · exact hd.elim
  · exact hd.elim
theorem convP_sng {tb : List (Option TI)} {κ : V → Prop} {s d : Nat} {x : V} {h : Heap} (hd : convP tb s d x h κ) : ∃ v, κ v ∧ ∀ κ' : V → Prop, κ' v → convP tb s d x h κ' := by
  unfold convP at hd
  split at hd
  · obtain ⟨v, h1, h2⟩ := convSB_sng hd
    exact ⟨v, h1, fun κ' h' => by unfold convP; simp only [*]⟩
  · obtain ⟨v, h1, h2⟩ := convBS_sng hd
    exact ⟨v, h1, fun κ' h' => by unfold convP; simp only [*]⟩
  · obtain ⟨v, h1, h2⟩ := convNum_sng hd
    exact ⟨v, h1, fun κ' h' => by unfold convP; simp only [*]⟩
theorem copyD_sng {tb : List (Option TI)} {κ : V → Heap → Prop} {t tx : Nat} {x y : V} {h : Heap} (hd : copyD tb t tx x y h κ) : ∃ v k, κ v k ∧ ∀ κ' : V → Heap → Prop, κ' v k → copyD tb t tx x y h κ' := by
  unfold copyD at hd
  split at hd
  · split at hd
    · split at hd
      · obtain ⟨m, g, hd, hs⟩ := srcD_sng hd
        split at hd
        · obtain ⟨h1, h2⟩ := okq_sng _ _ _ hd
          split at h1
          · split at h1
            · exact ⟨_, _, h1.2, fun κ' h' => by unfold copyD; simp only [*]; exact hs _ (h2 _ ⟨trivial, h'⟩)⟩
            · exact h1.elim
          · exact h1.elim
        · exact hd.elim
      · obtain ⟨m, g, hd, hs⟩ := srcD_sng hd
        exact ⟨_, _, hd, fun κ' h' => by unfold copyD; simp only [*]⟩
      · exact hd.elim
    · exact hd.elim
  · exact hd.elim
theorem buildSliceD_sng {tb : List (Option TI)} {κ : V → Heap → Prop} {t n : Nat} {parts : List (Nat × V)} {h : Heap} (hd : buildSliceD tb t n parts h κ) : ∃ v k, κ v k ∧ ∀ κ' : V → Heap → Prop, κ' v k → buildSliceD tb t n parts h κ' := by
  unfold buildSliceD at hd
  split at hd
  · split at hd
    · split at hd
      · exact ⟨_, _, hd, fun κ' h' => by unfold buildSliceD; simp only [*]⟩
      · exact hd.elim
    · exact hd.elim
  · exact hd.elim
theorem makeSliceD_sng {tb : List (Option TI)} {κ : V → Heap → Prop} {t : Nat} {l c : V} {h : Heap} (hd : makeSliceD tb t l c h κ) : ∃ v k, κ v k ∧ ∀ κ' : V → Heap → Prop, κ' v k → makeSliceD tb t l c h κ' := by
  unfold makeSliceD at hd
  split at hd
  · split at hd
    · split at hd
      · exact ⟨_, _, hd.2, fun κ' h' => by unfold makeSliceD; simp only [*]; exact ⟨trivial, trivial⟩⟩
      · exact hd.elim
    · exact hd.elim
  · exact hd.elim
theorem convSame_sng {tb : List (Option TI)} {κ : V → Heap → Prop} {t : Nat} {x : V} {h : Heap} (hd : convSame tb t x h κ) : ∃ v k, κ v k ∧ ∀ κ' : V → Heap → Prop, κ' v k → convSame tb t x h κ' := by
  unfold convSame at hd
  split at hd
  · split at hd
    · split at hd
      · split at hd
        · split at hd
          · exact ⟨_, _, hd.2.2, fun κ' h' => by unfold convSame; simp only [*]; exact ⟨trivial, trivial, trivial⟩⟩
          · exact hd.elim
        · exact hd.elim
      · exact hd.elim
    · exact hd.elim
  · obtain ⟨v, h1, h2⟩ := convNum_sng hd
    exact ⟨v, h, h1, fun κ' h' => by unfold convSame; simp only [*]⟩

section
variable {P : Program} {Γ : Ctx} {ev : Operand → V} {h : Heap}
theorem pD_sng (hΓ : CtxOk P Γ) {o : Op} {κ : V → Prop} (hdem : isDem Γ o = false) (hd : pD Γ o ev h κ) : ∃ v, κ v ∧ ∀ κ' : V → Prop, κ' v → pD Γ o ev h κ' := by
  unfold pD at hd
  split at hd
  · exact ⟨_, hd, fun κ' h' => h'⟩
  · exact ⟨_, hd, fun κ' h' => h'⟩
  · exact pickD_sng hd
  · exact buildD_sng hd
  · exact loadD_sng hd
  · exact nilCheckD_sng hd
  · exact binD_sng (by unfold nilSl; split <;> simp_all [isDem]) hd
  · exact unD_sng hd
  · exact convP_sng hd
  · exact sliceD_sng hd
  · exact fieldAddrD_sng hd
  · exact fieldD_sng hd
  · exact indexAddrD_sng hd
  · exact indexD_sng hd
  · exact arrayAtD_sng hd
  · exact makeInterfaceD_sng hd
  · exact makeFuncD_sng hd
  · exact extractD_sng hd
  · split at hd
    · obtain ⟨v, h1, h2⟩ := lenD_sng hd
      exact ⟨v, h1, fun κ' h' => by unfold pD; simp only [*]⟩
    · exact hd.elim
  · simp [isDem] at hdem
  · split at hd
    · obtain ⟨v, h1, h2⟩ := minmaxD_sng hd
      exact ⟨v, h1, fun κ' h' => by unfold pD; simp only [*]⟩
    · exact hd.elim
  · split at hd
    · obtain ⟨v, h1, h2⟩ := minmaxD_sng hd
      exact ⟨v, h1, fun κ' h' => by unfold pD; simp only [*]⟩
    · exact hd.elim
  · unfold callP at hd
    split at hd
    · split at hd
      · rename_i s hs
        obtain ⟨v, h1, h2⟩ := (hΓ.fs _ (lookup_mem hs)).1 _ _ _ hd
        exact ⟨v, h1, fun κ' h' => by unfold pD callP; simp only [*]; exact h2 _ h'⟩
      · exact hd.elim
    · exact hd.elim
  · exact hd.elim
theorem wD_sng (hΓ : CtxOk P Γ) {o : Op} {κ : V → Heap → Prop} (hdem : isDem Γ o = false) (hwt : isW Γ o = true) (hd : wD Γ o ev h κ) : ∃ v k, κ v k ∧ ∀ κ' : V → Heap → Prop, κ' v k → wD Γ o ev h κ' := by
  unfold wD at hd
  split at hd
  · exact allocD_sng hd
  · exact boxD_sng hd
  · obtain ⟨k, h1, h2⟩ := storeD_sng hd
    exact ⟨_, k, h1, fun κ' h' => h2 _ h'⟩
  · split at hd
    · have hdx : Γ.dx = false := by simpa [isDem] using hdem
      unfold appendZ at hd
      simp only [hdx] at hd
      obtain ⟨v, k, h1, h2⟩ := appendX_sng hd
      exact ⟨v, k, h1, fun κ' h' => by unfold wD appendZ; simp only [*]⟩
    · exact hd.elim
  · split at hd
    · obtain ⟨v, k, h1, h2⟩ := copyD_sng hd
      exact ⟨v, k, h1, fun κ' h' => by unfold wD; simp only [*]⟩
    · exact hd.elim
  · exact buildSliceD_sng hd
  · exact makeSliceD_sng hd
  · exact convSame_sng hd
  · exfalso
    unfold isW at hwt
    split at hwt <;> first | (rename_i h1; cases h1; done) | skip
    all_goals simp_all [isDem]
    all_goals (split at hwt <;> simp_all)
  · exact hd.elim
/-- What is neither read nor written may be another. -/
theorem sliceD_heap {tb : List (Option TI)} {t : Nat} {x : V} {lo hi mx : Option V} {h h' : Heap} {κ : V → Prop} (hr : ∀ n e a b c, getT tb t ≠ some ⟨.arr n e, a, b, c⟩) (hd : sliceD tb t x lo hi mx h κ) : sliceD tb t x lo hi mx h' κ := by
  unfold sliceD at hd ⊢
  split at hd
  · exact hd.elim
  obtain ⟨l, hd, hl⟩ := cutAt_sng hd
  refine hl _ ?_
  split at hd
  · exact hd
  · exact hd
  · exact absurd ‹_› (hr _ _ _ _ _)
  · exact hd.elim
theorem convP_heap {tb : List (Option TI)} {s d : Nat} {x : V} {h h' : Heap} {κ : V → Prop} (hr : ∀ e a b c, getT tb s ≠ some ⟨.slice e, a, b, c⟩) (hd : convP tb s d x h κ) : convP tb s d x h' κ := by
  unfold convP at hd ⊢
  split at hd
  · exact hd
  · exact absurd ‹_› (hr _ _ _ _)
  · exact hd
theorem pD_heap {o : Op} {κ : V → Prop} {h' : Heap} (hr : isR Γ o = false) : pD Γ o ev h κ → pD Γ o ev h' κ := by
  intro hd
  unfold pD at hd ⊢
  split at hd
  case h_9 s d x => exact convP_heap (fun e a b c he => by simp [isR, he] at hr) hd
  case h_10 t x lo hi mx => exact sliceD_heap (fun n e a b c he => by simp [isR, he] at hr) hd
  all_goals first
    | (simp [isR] at hr; done)
    | exact hd
end
end Go.DD

/- Regions: in the given order, or in any. -/
namespace Go.DD
set_option linter.unusedVariables false
set_option linter.unusedSimpArgs false
open Go.RowKit

def nth : List Oper → Nat → Option Oper | [], _ => none | o :: _, 0 => some o | _ :: l, k + 1 => nth l k
theorem nth_eq : ∀ (l : List Oper) (k : Nat), nth l k = l[k]? | [], k => by simp [nth] | o :: l, 0 => by simp [nth] | o :: l, k + 1 => by simp [nth, nth_eq l k]
def putT (t : Nat → V) (d : Option Nat) (v : V) : Nat → V := match d with | none => t | some d => fun k => match Nat.beq k d with | true => v | false => t k
def dstOk (n : Nat) : Option Nat → Bool | none => true | some d => Nat.blt d n
def gslot (l : List Oper) (g : Nat) : Option Nat := match nth l g with | some o => o.dst | none => none
def wantedD (l : List Oper) (o : Oper) (t : Nat → V) : Option Bool :=
  match o.guard with
  | none => some true
  | some (g, w) =>
    match gslot l g with
    | some d => match t d with | .tt => some w | .ff => some (!w) | .tup .nil => some false | _ => none
    | none => some false
def isG (all : List Oper) (d : Option Nat) : List Oper → Bool
  | [] => false
  | o :: l => match o.guard with
    | some (g, _) => (match gslot all g, d with | some a, some b => Nat.beq a b | _, _ => false) || isG all d l
    | none => isG all d l
def fin (g : Bool) (v : V) (K : V → Prop) : Prop :=
  match g with
  | true => match v with
    | .bool b => (b = true → K .tt) ∧ (b = false → K .ff)
    | v => K v
  | false => K v
def nrm (g : Bool) (v : V) : V := match g, v with | true, .bool true => .tt | true, .bool false => .ff | _, v => v
theorem fin_iff {g : Bool} {v : V} {K : V → Prop} : fin g v K ↔ K (nrm g v) := by
  unfold fin nrm
  cases g
  · exact Iff.rfl
  · cases v <;> first | exact Iff.rfl | skip
    rename_i b
    cases b <;> simp
theorem nrm_T {E : Env} {g : Bool} {v : V} {x : Value} (h : T E v x) : T E (nrm g v) x := by
  unfold nrm
  split
  · rw [T_bool] at h; exact T_tt.2 h
  · rw [T_bool] at h; exact T_ff.2 h
  · exact h

def stepV (Γ : Ctx) (l : List Oper) (o : Oper) (t : Nat → V) (h : Heap) (κ : V → Heap → Prop) : Prop :=
  match dstOk Γ.n o.dst with
  | true => match wantedD l o t with
    | some true => opD Γ o.op (St.ev Γ ⟨t, h⟩) h fun v k => fin (isG l o.dst l) v fun v => frc v fun v => κ v k
    | some false => κ (.tup .nil) h
    | none => False
  | false => False
def stepD (Γ : Ctx) (l : List Oper) (o : Oper) (K : St → Prop) (σ : St) : Prop :=
  match σ with
  | ⟨t, h⟩ => stepV Γ l o t h fun v k => K ⟨putT t o.dst v, k⟩
def opsD (Γ : Ctx) (all : List Oper) : List Oper → (St → Prop) → St → Prop
  | [], K, σ => K σ
  | o :: l, K, σ => stepD Γ all o (opsD Γ all l K) σ
def AnyD (Γ : Ctx) (ops : Array Oper) (Q : St → Prop) : Nat → Array Bool → St → Prop
  | 0, listed, σ => Region.ready .any ops listed = [] ∧ Q σ
  | fuel + 1, listed, σ => (Region.ready .any ops listed = [] → Q σ) ∧
    ∀ i ∈ Region.ready .any ops listed, match ops[i]? with
      | none => AnyD Γ ops Q fuel (listed.setIfInBounds i true) σ
      | some o => stepD Γ ops.toList o (AnyD Γ ops Q fuel (listed.setIfInBounds i true)) σ

structure Sim (Γ : Ctx) (E : Env) (σ : St) (a : Act) : Prop where
  wf : Wf E
  heap : SimH E σ.h
  tmp : ∀ k, T E (σ.t k) (a.eval (.tmp k))
  size : a.tmps.size = Γ.n
  defers : a.defers = []
  gl : GlOk Γ.gl E

section
variable {P : Program} {Γ : Ctx}

theorem Sim.put {E E' : Env} {σ : St} {a : Act} (hs : Sim Γ E σ a) (hx : Ext E E') (hw : Wf E') {h' : Heap} (hh : SimH E' h') {d : Option Nat} {v : V} {x : Value} (hd : dstOk Γ.n d = true) (ht : T E' v x) :
    Sim Γ E' ⟨putT σ.t d v, h'⟩ (a.put d x) where
  wf := hw
  heap := hh
  size := by cases d <;> simp [Act.put, hs.size]
  defers := by cases d <;> simp [Act.put, hs.defers]
  gl := hs.gl.ext hs.wf hx
  tmp := fun k => by
    cases d with
    | none => exact T_ext hs.wf hx (hs.tmp k)
    | some d =>
      simp only [dstOk, Nat.blt_eq] at hd
      simp only [putT]
      split
      · rename_i hb
        simp only [Nat.beq_eq] at hb
        subst hb
        simp only [Act.eval, Act.put]
        rw [Array.getD_eq_getD_getElem?, Array.getElem?_setIfInBounds_self_of_lt (by rw [hs.size]; exact hd)]
        exact ht
      · rename_i hb
        have hne : d ≠ k := fun e => by subst e; simp at hb
        have : (a.put (some d) x).eval (.tmp k) = a.eval (.tmp k) := by simp [Act.eval, Act.put, Array.getElem?_setIfInBounds_ne hne]
        rw [this]
        exact T_ext hs.wf hx (hs.tmp k)

theorem wantedD_ok {E : Env} {σ : St} {a : Act} (hs : Sim Γ E σ a) {ops : Array Oper} {o : Oper} {b : Bool} (h : wantedD ops.toList o σ.t = some b) : Region.wanted o (yielded ops a.tmps) = b := by
  unfold wantedD at h
  unfold Region.wanted
  split at h
  · rename_i hg
    rw [hg]
    cases h; rfl
  · rename_i g w hg
    rw [hg]
    simp only
    have hslot : gslot ops.toList g = (ops[g]?).bind (·.dst) := by
      unfold gslot
      rw [nth_eq, Array.getElem?_toList]
      cases ops[g]? <;> rfl
    rw [hslot] at h
    have hy : ∀ d, ops[g]?.bind (·.dst) = some d → ∀ c, a.eval (.tmp d) = .bool c → yielded ops a.tmps g = some c := fun d hd c hc => by
      unfold yielded
      rw [hd]
      simp only [Act.eval, Array.getD_eq_getD_getElem?] at hc
      cases ht : a.tmps[d]? with
      | none => rw [ht] at hc; simp [undef] at hc
      | some y => rw [ht] at hc; simp at hc; simp [ht, hc]
    have hn : ∀ d, ops[g]?.bind (·.dst) = some d → (∀ c, a.eval (.tmp d) ≠ .bool c) → yielded ops a.tmps g = none := fun d hd hc => by
      unfold yielded
      rw [hd]
      simp only [Act.eval, Array.getD_eq_getD_getElem?] at hc
      cases ht : a.tmps[d]? with
      | none => simp [ht]
      | some y =>
        rw [ht] at hc
        simp only [Option.bind_some, ht]
        cases y <;> first | rfl | exact absurd rfl (hc _)
    split at h
    · rename_i d hd
      have hT := hs.tmp d
      split at h
      · rename_i he
        rw [he] at hT
        rw [hy d hd true (T_tt.1 hT)]
        cases h
        cases b <;> rfl
      · rename_i he
        rw [he] at hT
        rw [hy d hd false (T_ff.1 hT)]
        cases h
        cases w <;> rfl
      · rename_i he
        rw [he] at hT
        obtain ⟨xs, h1, h2, _⟩ := hT
        rw [hn d hd (fun c hc => by rw [hc] at h1; cases h1)]
        cases h; rfl
      · cases h
    · rename_i hd
      cases h
      unfold yielded
      rw [hd]
      rfl

theorem stepD_ok (hΓ : CtxOk P Γ) {E : Env} {σ : St} {a : Act} (hs : Sim Γ E σ a) {ops : Array Oper} {i : Nat} {o : Oper} (hi : ops[i]? = some o) {K : St → Prop} {K' : Act → World → Prop} {Q : Exit → Act → World → Prop}
    (hd : stepD Γ ops.toList o K σ) (hk : ∀ E' a' σ', Ext E E' → Sim Γ E' σ' a' → K σ' → K' a' E'.w) : wpOp P ops Q i K' a E.w := by
  obtain ⟨t, h⟩ := σ
  unfold stepD stepV at hd
  simp only at hd
  split at hd
  · rename_i hdst
    unfold wpOp
    simp only [hi]
    split at hd
    · rename_i hw
      rw [wantedD_ok hs hw]
      simp only [if_true]
      refine .inl (UponN.wp (opD_ok hΓ hs.wf hs.heap hs.gl (ev_ok hs.gl hs.tmp) hd) fun x w' ⟨E', v, h', e1, e2, e3, e4, e5, e6⟩ => ?_)
      subst e1
      replace e6 := fin_iff.1 e6
      rw [frc_eq] at e6
      exact hk E' _ _ e2 (hs.put e2 e3 e4 hdst (nrm_T e5)) e6
    · rename_i hw
      rw [wantedD_ok hs hw]
      simp only [Bool.false_eq_true, if_false]
      exact hk E _ _ (Ext.refl E) (hs.put (v := .tup .nil) (Ext.refl E) hs.wf hs.heap hdst ⟨#[], rfl, rfl, fun k y h => by simp at h⟩) hd
    · exact hd.elim
  · exact hd.elim

theorem opsD_ok (hΓ : CtxOk P Γ) {ops : Array Oper} {Q : St → Prop} {Q' : Exit → Act → World → Prop} : ∀ (l : List Oper) (k : Nat) (E : Env) (σ : St) (a : Act), (∀ j, l[j]? = ops[k + j]?) → Sim Γ E σ a →
    opsD Γ ops.toList l Q σ → (∀ E' a' σ', Ext E E' → Sim Γ E' σ' a' → Q σ' → Q' .normal a' E'.w) → wpOps P ops Q' (List.range' k l.length) a E.w
  | [], k, E, σ, a, _, hs, hd, hk => hk E a σ (Ext.refl E) hs hd
  | o :: l, k, E, σ, a, hl, hs, hd, hk => by
    have h0 : ops[k]? = some o := by simpa using (hl 0).symm
    rw [List.length_cons, List.range'_succ, wpOps_cons]
    refine stepD_ok hΓ hs h0 hd fun E' a' σ' hx hs' hd' => ?_
    exact opsD_ok hΓ l (k + 1) E' σ' a' (fun j => by have := hl (j + 1); simpa [Nat.add_assoc, Nat.add_comm 1 j] using this) hs' hd' fun E'' a'' σ'' hx' => hk E'' a'' σ'' (hx.trans hx')

theorem AnyD_ok (hΓ : CtxOk P Γ) {ops : Array Oper} {Q : St → Prop} {Q' : Exit → Act → World → Prop} : ∀ (fuel : Nat) (listed : Array Bool) (E : Env) (σ : St) (a : Act), Sim Γ E σ a →
    AnyD Γ ops Q fuel listed σ → (∀ E' a' σ', Ext E E' → Sim Γ E' σ' a' → Q σ' → Q' .normal a' E'.w) → wpAny P .any ops Q' fuel listed a E.w
  | 0, listed, E, σ, a, hs, hd, hk => ⟨hd.1, hk E a σ (Ext.refl E) hs hd.2⟩
  | fuel + 1, listed, E, σ, a, hs, hd, hk => by
    refine ⟨fun h => hk E a σ (Ext.refl E) hs (hd.1 h), fun i hi => ?_⟩
    have := hd.2 i hi
    obtain ⟨_, o, ho, _⟩ := mem_ready.1 hi
    simp only [ho] at this
    exact stepD_ok hΓ hs ho this fun E' a' σ' hx hs' hd' => AnyD_ok hΓ fuel _ E' σ' a' hs' hd' fun E'' a'' σ'' hx' => hk E'' a'' σ'' (hx.trans hx')
end
end Go.DD

/- Operations that do not touch one another may change places. -/
namespace Go.DD
set_option linter.unusedVariables false
set_option linter.unusedSimpArgs false
open Go.RowKit
section
variable {P : Program} {Γ : Ctx}

theorem mapEv_congr {ev ev' : Operand → V} : ∀ (l : List Operand), (∀ x ∈ l, ev x = ev' x) → mapEv ev l = mapEv ev' l
  | [], _ => rfl
  | x :: l, h => by simp only [mapEv]; rw [h x (.head _), mapEv_congr l fun y hy => h y (.tail _ hy)]
theorem mapEv2_congr {ev ev' : Operand → V} : ∀ (l : List (Nat × Operand)), (∀ x ∈ l.map (·.2), ev x = ev' x) → mapEv2 ev l = mapEv2 ev' l
  | [], _ => rfl
  | (_, x) :: l, h => by simp only [mapEv2]; rw [h x (by simp), mapEv2_congr l fun y hy => h y (by simp only [List.map_cons]; exact .tail _ hy)]
theorem optEv_congr {ev ev' : Operand → V} (x : Option Operand) (h : ∀ y ∈ x.toList, ev y = ev' y) : optEv ev x = optEv ev' x := by
  cases x with
  | none => rfl
  | some x => simp only [optEv]; rw [h x (by simp)]
theorem pD_congr {ev ev' : Operand → V} {h : Heap} {o : Op} {κ : V → Prop} (hx : ∀ x ∈ o.operands, ev x = ev' x) (hd : pD Γ o ev h κ) : pD Γ o ev' h κ := by
  unfold pD at hd ⊢
  split at hd <;> simp only [Op.operands, Call.operands] at hx
  all_goals try exact hd.elim
  case h_4 => rw [← mapEv2_congr _ fun x hm => hx x (by simpa using hm)]; exact hd
  case h_10 x lo hi mx => 
    rw [← optEv_congr lo fun y hy => hx y (by simp; simp at hy; simp [hy]), ← optEv_congr hi fun y hy => hx y (by simp; simp at hy; simp [hy]), ← optEv_congr mx fun y hy => hx y (by simp; simp at hy; simp [hy]), ← hx x (by simp)]
    exact hd
  case h_17 f first caps =>
    rw [← mapEv_congr first.toList fun x hm => hx x (by simp at hm ⊢; exact .inl hm), ← mapEv_congr caps.toList fun x hm => hx x (by simp at hm ⊢; exact .inr hm)]; exact hd
  case h_19 args ts =>
    split at hd
    · rename_i x t h1 h2
      rw [← hx x (by simp [← Array.mem_toList_iff, h1])]; exact hd
    · exact hd.elim
  case h_20 args ts =>
    split at hd
    · rename_i x t h1 h2
      rw [← hx x (by simp [← Array.mem_toList_iff, h1])]; exact hd
    · exact hd.elim
  case h_21 args ts =>
    split at hd
    · rename_i x y h1
      rw [← hx x (by simp [← Array.mem_toList_iff, h1]), ← hx y (by simp [← Array.mem_toList_iff, h1])]; exact hd
    · exact hd.elim
  case h_22 args ts =>
    split at hd
    · rename_i x y h1
      rw [← hx x (by simp [← Array.mem_toList_iff, h1]), ← hx y (by simp [← Array.mem_toList_iff, h1])]; exact hd
    · exact hd.elim
  case h_23 f args ts =>
    rw [← hx f (by simp), ← mapEv_congr args.toList fun x hm => hx x (by simp at hm; simp [hm])]; exact hd
  all_goals (simp at hx; first
    | (obtain ⟨h1, h2, h3⟩ := hx; simp only [← h1, ← h2, ← h3]; exact hd)
    | (obtain ⟨h1, h2⟩ := hx; simp only [← h1, ← h2]; exact hd)
    | (simp only [← hx]; exact hd)
    | exact hd)
theorem wD_congr {ev ev' : Operand → V} {h : Heap} {o : Op} {κ : V → Heap → Prop} (hx : ∀ x ∈ o.operands, ev x = ev' x) (hd : wD Γ o ev h κ) : wD Γ o ev' h κ := by
  unfold wD at hd ⊢
  split at hd <;> simp only [Op.operands, Call.operands] at hx
  all_goals try exact hd.elim
  case h_4 args ts =>
    split at hd
    · rename_i x y t u h1 h2
      rw [← hx x (by simp [← Array.mem_toList_iff, h1]), ← hx y (by simp [← Array.mem_toList_iff, h1])]; exact hd
    · exact hd.elim
  case h_5 args ts =>
    split at hd
    · rename_i x y t u h1 h2
      rw [← hx x (by simp [← Array.mem_toList_iff, h1]), ← hx y (by simp [← Array.mem_toList_iff, h1])]; exact hd
    · exact hd.elim
  case h_6 => rw [← mapEv2_congr _ fun x hm => hx x (by simpa using hm)]; exact hd
  case h_9 f args ts =>
    rw [← hx f (by simp), ← mapEv_congr args.toList fun x hm => hx x (by simp at hm; simp [hm])]; exact hd
  all_goals (simp at hx; first
    | (obtain ⟨h1, h2⟩ := hx; simp only [← h1, ← h2]; exact hd)
    | (simp only [← hx]; exact hd)
    | exact hd)

/-- Which operations keep the heap; which do not look at it. -/
theorem opD_congr {ev ev' : Operand → V} {h : Heap} {o : Op} {κ : V → Heap → Prop} (hx : ∀ x ∈ o.operands, ev x = ev' x) (hd : opD Γ o ev h κ) : opD Γ o ev' h κ := by
  unfold opD at *
  simp only [frcH_eq] at *
  have hx' : ∀ k, ∀ x ∈ o.operands, evx k ev x = evx k ev' x := fun k x hm => by cases k <;> simp only [evx, hx x hm]
  split at hd
  · exact wD_congr (hx' _) hd
  · exact pD_congr (hx' _) hd
theorem opD_sng (hΓ : CtxOk P Γ) {ev : Operand → V} {h : Heap} {o : Op} {κ : V → Heap → Prop} (hdem : isDem Γ o = false) (hd : opD Γ o ev h κ) :
    ∃ v k, κ v k ∧ (∀ κ' : V → Heap → Prop, κ' v k → opD Γ o ev h κ') ∧ (isW Γ o = false → k = h) := by
  unfold opD at hd
  simp only [frcH_eq] at hd
  split at hd
  · rename_i hw
    obtain ⟨v, k, h1, h2⟩ := wD_sng hΓ hdem hw hd
    exact ⟨v, k, h1, fun κ' h' => by unfold opD; simp only [hw, frcH_eq]; exact h2 _ h', fun h => by rw [hw] at h; cases h⟩
  · rename_i hw
    obtain ⟨v, h1, h2⟩ := pD_sng hΓ hdem hd
    exact ⟨v, h, h1, fun κ' h' => by unfold opD; simp only [hw]; exact h2 _ h', fun _ => rfl⟩
theorem opD_mono (hΓ : CtxOk P Γ) {ev : Operand → V} {h : Heap} {o : Op} {κ κ' : V → Heap → Prop} (hk : ∀ v k, (isW Γ o = false → k = h) → κ v k → κ' v k) (hd : opD Γ o ev h κ) : opD Γ o ev h κ' := by
  by_cases hdem : isDem Γ o = false
  · obtain ⟨v, k, h1, h2, h3⟩ := opD_sng hΓ hdem hd
    exact h2 _ (hk v k h3 h1)
  · have hcap : ∀ {t : Nat} {x : V} {κ κ' : V → Prop}, (∀ v, κ v → κ' v) → capD Γ.tb t x κ → capD Γ.tb t x κ' := fun {t x κ κ'} hk hd => by
      unfold capD at hd ⊢
      split at hd
      · split at hd
        · exact fun c hc => hk _ (hd c hc)
        · exact hk _ hd
        · exact fun c hc => hk _ (hd c hc)
        · exact hk _ hd
        · exact hd.elim
      · exact hd.elim
    have hnil : ∀ {d : TD} {x : V} {κ κ' : Bool → Prop}, (∀ v, κ v → κ' v) → nilD d x κ → nilD d x κ' := fun {d x κ κ'} hk hd => by
      unfold nilD at hd ⊢
      split at hd <;> first
        | exact hd.elim
        | exact hk _ hd
        | exact fun b => hk _ (hd b)
        | exact fun b hb => hk _ (hd b hb)
    have heql : ∀ {t : Nat} {yo : Operand} {x y : V} {κ κ' : Bool → Prop}, (∀ v, κ v → κ' v) → eqlD Γ.tb t yo x y κ → eqlD Γ.tb t yo x y κ' := fun {t yo x y κ κ'} hk hd => by
      by_cases hn : nilSl yo = false
      · obtain ⟨v, h1, h2⟩ := eqlD_sng hn hd
        exact h2 _ (hk _ h1)
      · unfold eqlD at hd ⊢
        split at hd
        · rename_i i hg
          split at hd
          · rename_i hc
            exact hnil hk hd
          · rename_i hc
            have hd' : eqlD Γ.tb t (.const (.int .i64 0)) x y κ := by
              unfold eqlD
              have : isNilC i.d (.const (.int .i64 0)) = false := by unfold isNilC; split <;> simp_all
              simp only [hg, this]; exact hd
            obtain ⟨v, h1, h2⟩ := eqlD_sng (yo := .const (.int .i64 0)) rfl hd'
            have h3 := h2 κ' (hk _ h1)
            unfold eqlD at h3
            have : isNilC i.d (.const (.int .i64 0)) = false := by unfold isNilC; split <;> simp_all
            simp only [hg, this] at h3
            exact h3
        · exact hd.elim
    unfold isDem at hdem
    unfold opD at hd ⊢
    split at hdem
    · rename_i f args ts
      split at hdem
      · rename_i s hs
        simp only [isW, hs, wD, callH, frcH_eq] at hd ⊢
        split at hd
        · split at hd
          · rename_i s' hs'
            exact (hΓ.fh _ (lookup_mem hs')).1 _ _ _ _ (fun v k h => hk v k (fun h2 => by simp [isW, hs] at h2) h) hd
          · exact hd.elim
        · exact hd.elim
      · exact absurd rfl hdem
    · simp only [isW, pD] at hd ⊢
      split at hd
      · exact hcap (fun v hv => hk v h (fun _ => rfl) hv) hd
      · exact hd.elim
    · simp only [isW, wD, frcH_eq] at hd ⊢
      split at hd
      · exact appendZ_mono (fun v k hv => hk v k (fun h2 => by simp [isW] at h2) hv) hd
      · exact hd.elim
    · simp only [isW, pD] at hd ⊢
      unfold binD at hd ⊢
      split at hd
      · rename_i hx hy
        split at hd
        · exact ⟨hd.1, hk _ h (fun _ => rfl) hd.2⟩
        · exact ⟨hd.1, hk _ h (fun _ => rfl) hd.2⟩
        · split at hd
          · rename_i hkk
            obtain ⟨v, h1, h2⟩ := intBin_sng hd
            rw [if_pos hkk]
            exact h2 (fun v => κ' v h) (hk _ h (fun _ => rfl) h1)
          · exact hd.elim
      · obtain ⟨v, h1, h2⟩ := strBin_sng hd
        exact h2 (fun v => κ' v h) (hk _ h (fun _ => rfl) h1)
      · split at hd
        · exact heql (fun v hv => hk _ h (fun _ => rfl) hv) hd
        · exact heql (fun v hv => hk _ h (fun _ => rfl) hv) hd
        · exact hd.elim
    · exact absurd rfl hdem
end
end Go.DD

/- Regions whose order is drawn: one order for all. -/
namespace Go.DD
set_option linter.unusedVariables false
set_option linter.unusedSimpArgs false
open Go.RowKit
section
variable {P : Program} {Γ : Ctx}

theorem putT_comm {t : Nat → V} {d e : Option Nat} {v u : V} (h : ∀ x, d = some x → e ≠ some x) : putT (putT t d v) e u = putT (putT t e u) d v := by
  cases d with
  | none => rfl
  | some d =>
    cases e with
    | none => rfl
    | some e =>
      have hne : e ≠ d := fun he => h d rfl (by rw [he])
      funext k
      simp only [putT]
      split <;> split <;> first | rfl | skip
      rename_i h1 _ h2
      rw [Nat.beq_eq] at h1 h2
      exact absurd (h1.symm.trans h2) hne
theorem putT_ne {t : Nat → V} {d : Option Nat} {v : V} {k : Nat} (h : ∀ x, d = some x → x ≠ k) : putT t d v k = t k := by
  cases d with
  | none => rfl
  | some d =>
    simp only [putT]
    split
    · rename_i hb
      simp only [Nat.beq_eq] at hb
      exact absurd hb.symm (h d rfl)
    · rfl

/-- Slots that are alike where the operation looks. -/
theorem stepV_congr {ops : Array Oper} {o : Oper} {t t' : Nat → V} {h : Heap} {κ : V → Heap → Prop} (ht : ∀ k ∈ o.looksAt ops, t' k = t k) (hd : stepV Γ ops.toList o t h κ) : stepV Γ ops.toList o t' h κ := by
  have hw : wantedD ops.toList o t' = wantedD ops.toList o t := by
    unfold wantedD
    cases hg : o.guard with
    | none => rfl
    | some gw =>
      obtain ⟨g, w⟩ := gw
      simp only
      cases hs : gslot ops.toList g with
      | none => rfl
      | some d =>
        have : d ∈ o.looksAt ops := by
          unfold gslot at hs
          rw [nth_eq, Array.getElem?_toList] at hs
          refine List.mem_append_right _ ?_
          simp only [hg]
          cases ho : ops[g]? with
          | none => rw [ho] at hs; cases hs
          | some og => rw [ho] at hs; simp at hs; simp [hs]
        simp only [ht d this]
  unfold stepV at hd ⊢
  split at hd
  · rw [hw]
    split at hd
    · refine opD_congr (fun x hx => ?_) hd
      cases x with
      | tmp k =>
        exact (ht k (List.mem_append_left _ (List.mem_filterMap.2 ⟨.tmp k, by simpa using hx, rfl⟩))).symm
      | _ => rfl
    · exact hd
    · exact hd
  · exact hd
theorem stepV_sng (hΓ : CtxOk P Γ) {l : List Oper} {o : Oper} {t : Nat → V} {h : Heap} {κ : V → Heap → Prop} (hdem : isDem Γ o.op = false) (hd : stepV Γ l o t h κ) :
    ∃ v k, κ v k ∧ (∀ κ' : V → Heap → Prop, κ' v k → stepV Γ l o t h κ') ∧ (isW Γ o.op = false → k = h) := by
  unfold stepV at hd
  split at hd
  · rename_i hdst
    split at hd
    · rename_i hw
      obtain ⟨v, k, h1, h2, h3⟩ := opD_sng hΓ hdem hd
      have h1 := fin_iff.1 h1
      rw [frc_eq] at h1
      refine ⟨_, k, h1, fun κ' h' => ?_, h3⟩
      unfold stepV
      simp only [hdst, hw]
      exact h2 _ (fin_iff.2 (by rw [frc_eq]; exact h'))
    · rename_i hw
      exact ⟨_, h, hd, fun κ' h' => by unfold stepV; simp only [hdst, hw]; exact h', fun _ => rfl⟩
    · exact hd.elim
  · exact hd.elim
theorem stepV_mono (hΓ : CtxOk P Γ) {l : List Oper} {o : Oper} {t : Nat → V} {h : Heap} {κ κ' : V → Heap → Prop} (hk : ∀ v k, (isW Γ o.op = false → k = h) → κ v k → κ' v k) (hd : stepV Γ l o t h κ) : stepV Γ l o t h κ' := by
  unfold stepV at *
  split at hd
  · split at hd
    · exact opD_mono hΓ (fun v k h1 h2 => fin_iff.2 (by have h2 := fin_iff.1 h2; rw [frc_eq] at h2 ⊢; exact hk _ k h1 h2)) hd
    · exact hk _ h (fun _ => rfl) hd
    · exact hd
  · exact hd
/-- Another heap, where none is looked at. -/
theorem stepV_heap {l : List Oper} {o : Oper} {t : Nat → V} {h h' : Heap} {κ : V → Heap → Prop} (hw : isW Γ o.op = false) (hr : isR Γ o.op = false) (hd : stepV Γ l o t h (fun v _ => κ v h')) : stepV Γ l o t h' κ := by
  unfold stepV at *
  split at hd
  · split at hd
    · unfold opD at *
      simp only [hw] at hd ⊢
      exact pD_heap hr hd
    · exact hd
    · exact hd
  · exact hd

/-- Does it just add a variable? -/
def isA : Op → Bool
  | .alloc _ | .box .. | .buildSlice .. => true
  | _ => false
theorem isA_W {o : Op} (h : isA o = true) : isW Γ o = true := by
  unfold isA at h
  split at h <;> first | rfl | cases h
theorem loadD_snoc {t : Nat} {x z : V} {h : Heap} {κ : V → Prop} (hd : loadD Γ.tb t x h κ) : loadD Γ.tb t x (hsnoc h z) κ := by
  unfold loadD at hd ⊢
  split at hd
  · exact hd.elim
  · split at hd
    · split at hd
      · rename_i hc; simp only [hget_snoc hc]; exact hd
      · exact hd.elim
    · split at hd
      · rename_i hc; simp only [hget_snoc hc]; exact hd
      · exact hd.elim
    · exact hd
    · exact hd.elim
theorem srcD_snoc {sz : Nat} {y z : V} {h : Heap} {κ : Nat → (Nat → V) → Prop} (hd : srcD sz y h κ) : srcD sz y (hsnoc h z) κ := by
  unfold srcD at hd ⊢
  split at hd
  · exact hd
  · exact hd
  · exact hd
  · split at hd
    · rename_i hc; simp only [hget_snoc hc]; exact hd
    · exact hd.elim
  · exact hd.elim
theorem sliceD_snoc {t : Nat} {x z : V} {lo hi mx : Option V} {h : Heap} {κ : V → Prop} (hd : sliceD Γ.tb t x lo hi mx h κ) : sliceD Γ.tb t x lo hi mx (hsnoc h z) κ := by
  unfold sliceD at hd ⊢
  split at hd
  · exact hd.elim
  · unfold cutAt at hd ⊢
    split at hd <;> first | exact hd.elim | skip
    all_goals (
      split at hd
      · exact hd
      · exact hd
      · split at hd
        · split at hd
          · split at hd
            · exact hd.elim
            · rename_i hc; simp only [hget_snoc hc]; exact hd
          · exact hd
          · exact hd.elim
        · exact hd.elim
      · exact hd.elim)
theorem pD_snoc (hΓ : CtxOk P Γ) {ev : Operand → V} {z : V} {h : Heap} {o : Op} {κ : V → Prop} (hd : pD Γ o ev h κ) : pD Γ o ev (hsnoc h z) κ := by
  unfold pD at hd ⊢
  split at hd
  all_goals try exact hd
  · exact loadD_snoc hd
  · unfold convP at hd ⊢
    split at hd
    · exact hd
    · rename_i h1 h2
      unfold convBS at hd ⊢
      simp only [h1, h2] at hd ⊢
      split at hd
      · split at hd
        · exact hd.elim
        · exact srcD_snoc hd
      · exact hd.elim
    · exact hd
  · exact sliceD_snoc hd
  · unfold callP at hd ⊢
    split at hd
    · split at hd
      · rename_i s hs
        exact (hΓ.fs _ (lookup_mem hs)).2.2 _ _ _ _ hd
      · exact hd.elim
    · exact hd.elim
theorem stepV_snoc (hΓ : CtxOk P Γ) {l : List Oper} {o : Oper} {t : Nat → V} {h : Heap} {z : V} {κ : V → Heap → Prop} (hw : isW Γ o.op = false) (hd : stepV Γ l o t h (fun v _ => κ v (hsnoc h z))) : stepV Γ l o t (hsnoc h z) κ := by
  unfold stepV at *
  split at hd
  · split at hd
    · unfold opD at *
      simp only [hw] at hd ⊢
      exact pD_snoc hΓ hd
    · exact hd
    · exact hd
  · exact hd
theorem stepV_new {l : List Oper} {o : Oper} {t : Nat → V} {h : Heap} {κ : V → Heap → Prop} (ha : isA o.op = true) (hd : stepV Γ l o t h κ) : stepV Γ l o t h (fun v k => (k = h ∨ ∃ z, k = hsnoc h z) ∧ κ v k) := by
  unfold stepV at *
  split at hd
  · split at hd
    · have hw := isA_W (Γ := Γ) ha
      unfold opD at *
      simp only [hw, frcH_eq] at hd ⊢
      unfold isA at ha
      split at ha
      · rename_i ho
        rw [ho] at hd ⊢
        simp only [wD, allocD] at hd ⊢
        split at hd
        · exact fin_iff.2 (by have h1 := fin_iff.1 hd; rw [frc_eq] at h1 ⊢; exact ⟨.inr ⟨_, rfl⟩, h1⟩)
        · exact hd.elim
      · rename_i ho
        rw [ho] at hd ⊢
        simp only [wD, boxD] at hd ⊢
        split at hd
        · exact fin_iff.2 (by have h1 := fin_iff.1 hd; rw [frc_eq] at h1 ⊢; exact ⟨.inr ⟨_, rfl⟩, h1⟩)
        · exact hd.elim
      · rename_i ho
        rw [ho] at hd ⊢
        simp only [wD, buildSliceD] at hd ⊢
        split at hd
        · split at hd
          · split at hd
            · exact fin_iff.2 (by have h1 := fin_iff.1 hd; rw [frc_eq] at h1 ⊢; exact ⟨.inr ⟨_, rfl⟩, h1⟩)
            · exact hd.elim
          · exact hd.elim
        · exact hd.elim
      · cases ha
    · exact ⟨.inl rfl, hd⟩
    · exact hd
  · exact hd
def compat (Γ : Ctx) (x y : Op) : Bool := !isDem Γ x && !(isW Γ x && (isW Γ y || isR Γ y)) && !(isW Γ y && isR Γ x && !isA y)

theorem stepD_swap (hΓ : CtxOk P Γ) {ops : Array Oper} {oi oj : Oper} (hap : oi.apart ops oj = true) (hc : compat Γ oi.op oj.op = true) {K : St → Prop} {σ : St}
    (hd : stepD Γ ops.toList oi (stepD Γ ops.toList oj K) σ) : stepD Γ ops.toList oj (stepD Γ ops.toList oi K) σ := by
  obtain ⟨h1, h2, h3⟩ := Oper.apart_spec hap
  simp only [compat, Bool.and_eq_true, Bool.not_eq_true', Bool.and_eq_false_iff, Bool.or_eq_false_iff, Bool.not_eq_false'] at hc
  obtain ⟨⟨hdem, hc1⟩, hc2⟩ := hc
  obtain ⟨t, h⟩ := σ
  unfold stepD at hd ⊢
  simp only at hd ⊢
  obtain ⟨v, k, hj, hO, hk⟩ := stepV_sng hΓ hdem hd
  have back : ∀ {κ : V → Heap → Prop} {m : Heap}, stepV Γ ops.toList oj (putT t oi.dst v) m κ → stepV Γ ops.toList oj t m κ := fun hx =>
    stepV_congr (fun q hq => (putT_ne fun x hx e => h1 x hx (e ▸ hq)).symm) hx
  have fwd : ∀ {κ : V → Heap → Prop} {u : V} {m : Heap}, stepV Γ ops.toList oi t m κ → stepV Γ ops.toList oi (putT t oj.dst u) m κ := fun hx =>
    stepV_congr (fun q hq => putT_ne fun x hx e => h3 x hx (e ▸ hq)) hx
  by_cases hwi : isW Γ oi.op = true
  · have hwj : isW Γ oj.op = false ∧ isR Γ oj.op = false := by
      rcases hc1 with h | h
      · rw [hwi] at h; cases h
      · exact h
    have hj' := back hj
    have := stepV_heap (Γ := Γ) (h := k) (h' := h) (κ := fun u _ => K ⟨putT (putT t oi.dst v) oj.dst u, k⟩) hwj.1 hwj.2 (stepV_mono hΓ (fun u m hm hK => by rw [hm hwj.1] at hK; exact hK) hj')
    refine stepV_mono hΓ (fun u m hm hK => ?_) this
    rw [hm hwj.1]
    refine fwd (hO _ ?_)
    rw [← putT_comm h2]
    exact hK
  · have hwi : isW Γ oi.op = false := by simpa using hwi
    have hk' := hk hwi
    subst hk'
    by_cases haj : isA oj.op = true
    · refine stepV_mono hΓ (fun u m hm hK => ?_) (stepV_new haj (back hj))
      obtain ⟨rfl | ⟨z, rfl⟩, hK⟩ := hK
      · refine fwd (hO _ ?_)
        rw [← putT_comm h2]
        exact hK
      · refine fwd (stepV_snoc hΓ hwi (hO _ ?_))
        rw [← putT_comm h2]
        exact hK
    refine stepV_mono hΓ (fun u m hm hK => ?_) (back hj)
    by_cases hwj : isW Γ oj.op = true
    · have hri : isR Γ oi.op = false := by
        rcases hc2 with (h | h) | h
        · rw [hwj] at h; cases h
        · exact h
        · exact absurd h haj
      refine fwd (stepV_heap hwi hri (hO _ ?_))
      rw [← putT_comm h2]
      exact hK
    · have := hm (by simpa using hwj)
      subst this
      refine fwd (hO _ ?_)
      rw [← putT_comm h2]
      exact hK

theorem stepD_mono (hΓ : CtxOk P Γ) {l : List Oper} {o : Oper} {K K' : St → Prop} {σ : St} (hk : ∀ σ, K σ → K' σ) (hd : stepD Γ l o K σ) : stepD Γ l o K' σ :=
  stepV_mono hΓ (fun _ _ _ h => hk _ h) hd

theorem notAfter {ops : Array Oper} {listed : Array Bool} {i : Nat} {oj : Oper} (hr : i ∈ Region.ready .any ops listed) (hall : ∀ e ∈ oj.after, Region.binds .any e = true → listed.getD e.on false = true) : ∀ e ∈ oj.after, Region.binds .any e = true → e.on ≠ i := fun e he hb heq => by
  have h1 := hall e he hb
  have h0 := (mem_ready.1 hr).1
  rw [heq] at h1
  rcases Nat.lt_or_ge i listed.size with h' | h'
  · simp [h'] at h0 h1; rw [h0] at h1; cases h1
  · simp [Array.getElem?_eq_none h'] at h1
def Closed (ops : Array Oper) (listed : Array Bool) : Prop := ∀ k ok, ops[k]? = some ok → listed.getD k false = true → ∀ e ∈ ok.after, Region.binds .any e = true → listed.getD e.on false = true
/-- Which ones must come ahead of each: rows of bits. -/
def nthM : List Nat → Nat → Nat | [], _ => 0 | m :: _, 0 => m | _ :: l, k + 1 => nthM l k
def rowM (ms : List Nat) : List Edge → Nat → Nat
  | [], acc => acc
  | e :: l, acc => rowM ms l (match Region.binds .any e with | true => (acc ||| (1 <<< e.on)) ||| nthM ms e.on | false => acc)
def stepM (ms : List Nat) : List Oper → List Nat | [] => [] | o :: l => rowM ms o.after.toList 0 :: stepM ms l
def forceN {α : Type} (m : Nat) (k : Nat → α) : α := match m with | 0 => k 0 | n + 1 => k (n + 1)
def forceL {α : Type} : List Nat → (List Nat → α) → α | [], k => k [] | m :: l, k => forceN m fun m => forceL l fun l => k (m :: l)
def eqM : List Nat → List Nat → Bool | [], [] => true | m :: l, m' :: l' => Nat.beq m m' && eqM l l' | _, _ => false
def closeM (ops : List Oper) : Nat → List Nat → (List Nat → Bool) → Bool
  | 0, ms, k => k ms
  | n + 1, ms, k => forceL (stepM ms ops) fun ms' => match eqM ms' ms with | true => k ms | false => closeM ops n ms' k
def zeroM : List Oper → List Nat | [] => [] | _ :: l => 0 :: zeroM l
theorem forceL_eq {α : Type} : ∀ (l : List Nat) (k : List Nat → α), forceL l k = k l
  | [], k => rfl
  | 0 :: l, k => by simp only [forceL, forceN]; exact forceL_eq l _
  | (m + 1) :: l, k => by simp only [forceL, forceN]; exact forceL_eq l _
def Must (ops : Array Oper) (i j : Nat) : Prop := ∃ oj, ops[j]? = some oj ∧ ∀ listed, Closed ops listed → (∀ e ∈ oj.after, Region.binds .any e = true → listed.getD e.on false = true) → listed.getD i false = true
def GoodM (ops : Array Oper) (ms : List Nat) : Prop := ∀ j i, (nthM ms j).testBit i = true → Must ops i j
theorem rowM_bit {ms : List Nat} {i : Nat} : ∀ (l : List Edge) (acc : Nat), (rowM ms l acc).testBit i = true → acc.testBit i = true ∨ ∃ e ∈ l, Region.binds .any e = true ∧ (e.on = i ∨ (nthM ms e.on).testBit i = true)
  | [], acc, h => .inl h
  | e :: l, acc, h => by
    simp only [rowM] at h
    rcases rowM_bit l _ h with h1 | ⟨e', he', h1⟩
    · split at h1
      · rename_i hb
        rw [Nat.testBit_or, Nat.testBit_or, Nat.one_shiftLeft, Nat.testBit_two_pow] at h1
        simp only [Bool.or_eq_true, decide_eq_true_eq] at h1
        rcases h1 with (h1 | h1) | h1
        · exact .inl h1
        · exact .inr ⟨e, .head _, hb, .inl h1⟩
        · exact .inr ⟨e, .head _, hb, .inr h1⟩
      · exact .inl h1
    · exact .inr ⟨e', .tail _ he', h1⟩
theorem stepM_nth {ms : List Nat} : ∀ (l : List Oper) (j : Nat), nthM (stepM ms l) j = match l[j]? with | some o => rowM ms o.after.toList 0 | none => 0
  | [], j => by simp [stepM, nthM]
  | o :: l, 0 => by simp [stepM, nthM]
  | o :: l, j + 1 => by simpa [stepM, nthM] using stepM_nth l j
theorem zeroM_nth : ∀ (l : List Oper) (j : Nat), nthM (zeroM l) j = 0
  | [], j => rfl
  | _ :: l, 0 => rfl
  | _ :: l, j + 1 => zeroM_nth l j
theorem GoodM.step {ops : Array Oper} {ms : List Nat} (h : GoodM ops ms) : GoodM ops (stepM ms ops.toList) := fun j i hb => by
  rw [stepM_nth, Array.getElem?_toList] at hb
  split at hb
  · rename_i o ho
    refine ⟨o, ho, fun listed hc hall => ?_⟩
    rcases rowM_bit _ _ hb with h1 | ⟨e, he, h1, h2⟩
    · simp at h1
    · have h3 := hall e (by simpa using he) h1
      rcases h2 with rfl | h2
      · exact h3
      · obtain ⟨oe, hoe, hm⟩ := h e.on i h2
        exact hm listed hc (hc e.on oe hoe h3)
  · simp at hb
theorem closeM_good {ops : Array Oper} : ∀ (n : Nat) (ms : List Nat) (k : List Nat → Bool), GoodM ops ms → closeM ops.toList n ms k = true → ∃ ms', GoodM ops ms' ∧ k ms' = true
  | 0, ms, k, hg, h => ⟨ms, hg, h⟩
  | n + 1, ms, k, hg, h => by
    simp only [closeM, forceL_eq] at h
    split at h
    · exact ⟨ms, hg, h⟩
    · exact closeM_good n _ k hg.step h
def reachM (ms : List Nat) (i j : Nat) : Bool := (nthM ms j).testBit i
theorem Closed.set {ops : Array Oper} {listed : Array Bool} {j : Nat} (hc : Closed ops listed) (hj : j ∈ Region.ready .any ops listed) : Closed ops (listed.setIfInBounds j true) := by
  intro k ok hk hl e he hb
  by_cases hjk : j = k
  · subst hjk
    obtain ⟨_, oj, hoj, hall⟩ := mem_ready.1 hj
    rw [hk] at hoj; cases hoj
    exact getD_set_true (hall e he hb)
  · rw [getD_set_ne false hjk] at hl
    exact getD_set_true (hc k ok hk hl e he hb)
theorem unlisted {listed : Array Bool} {i : Nat} (h : listed.getD i true = false) : listed.getD i false = false := by
  rcases Nat.lt_or_ge i listed.size with h' | h'
  · simp [h'] at h ⊢; exact h
  · simp [Array.getElem?_eq_none h'] at h
theorem AnyD_first (hΓ : CtxOk P Γ) {ops : Array Oper} {ms : List Nat} (hms : GoodM ops ms) {Q : St → Prop} {i : Nat} {oi : Oper} (hi : ops[i]? = some oi) :
    ∀ (fuel : Nat) (listed : Array Bool) (σ : St),
      (∀ j oj, ops[j]? = some oj → j ≠ i → listed.getD j true = false → reachM ms i j = false → oi.apart ops oj = true ∧ compat Γ oi.op oj.op = true) → Closed ops listed →
      i ∈ Region.ready .any ops listed → stepD Γ ops.toList oi (AnyD Γ ops Q fuel (listed.setIfInBounds i true)) σ → AnyD Γ ops Q (fuel + 1) listed σ := by
  intro fuel
  induction fuel with
  | zero =>
    intro listed σ hfree hcl hr H
    refine ⟨fun h => (by rw [h] at hr; cases hr), fun j hj => ?_⟩
    obtain ⟨hjun, oj, hoj, hall⟩ := mem_ready.1 hj
    simp only [hoj]
    by_cases hji : j = i
    · subst hji
      rw [hi] at hoj; cases hoj
      exact H
    · have hm := ready_mono hj hji
      have hnot : reachM ms i j = false := by
        cases hre : reachM ms i j with
        | false => rfl
        | true =>
          have h1 : listed.getD i false = true := by
            obtain ⟨oj', hoj', hm'⟩ := hms j i hre
            rw [hoj] at hoj'; cases hoj'
            exact hm' listed hcl hall
          rw [unlisted (mem_ready.1 hr).1] at h1; cases h1
      obtain ⟨_, hcm⟩ := hfree j oj hoj hji hjun hnot
      have hdem : isDem Γ oi.op = false := by
        simp only [compat, Bool.and_eq_true, Bool.not_eq_true'] at hcm
        exact hcm.1.1
      obtain ⟨v, k, h', _⟩ := stepV_sng hΓ hdem H
      rw [h'.1] at hm
      cases hm
  | succ fuel ih =>
    intro listed σ hfree hcl hr H
    refine ⟨fun h => (by rw [h] at hr; cases hr), fun j hj => ?_⟩
    obtain ⟨hjun, oj, hoj, hall⟩ := mem_ready.1 hj
    simp only [hoj]
    by_cases hji : j = i
    · subst hji
      rw [hi] at hoj; cases hoj
      exact H
    · have h1 : stepD Γ ops.toList oi (stepD Γ ops.toList oj (AnyD Γ ops Q fuel ((listed.setIfInBounds i true).setIfInBounds j true))) σ :=
        stepD_mono hΓ (fun σ' h' => by have := h'.2 j (ready_mono hj hji); simpa only [hoj] using this) H
      have hnot : reachM ms i j = false := by
        cases hre : reachM ms i j with
        | false => rfl
        | true =>
          have h1 : listed.getD i false = true := by
            obtain ⟨oj', hoj', hm'⟩ := hms j i hre
            rw [hoj] at hoj'; cases hoj'
            exact hm' listed hcl hall
          rw [unlisted (mem_ready.1 hr).1] at h1; cases h1
      obtain ⟨hap, hcm⟩ := hfree j oj hoj hji hjun hnot
      have h2 := stepD_swap hΓ hap hcm h1
      have hfree' : ∀ k ok, ops[k]? = some ok → k ≠ i → (listed.setIfInBounds j true).getD k true = false →
          reachM ms i k = false → oi.apart ops ok = true ∧ compat Γ oi.op ok.op = true := fun k ok hk hki hun hno => by
        refine hfree k ok hk hki ?_ hno
        by_cases hjk : j = k
        · subst hjk; exact hjun
        · rw [getD_set_ne true hjk] at hun; exact hun
      refine stepD_mono hΓ (fun σ' h3 => ih (listed.setIfInBounds j true) σ' hfree' (hcl.set hj) (ready_mono hr (Ne.symm hji)) ?_) h2
      rw [Array.setIfInBounds_comm _ _ hji]
      exact h3
end
end Go.DD

/- One abstract state seen as another, coarser one: with fewer slots, other numbers of the local variables. -/
namespace Go.DD
set_option linter.unusedVariables false
set_option linter.unusedSimpArgs false
open Go.RowKit

def getM : List (Option Nat) → Nat → Option (Option Nat) | [], _ => none | x :: _, 0 => some x | _ :: l, k + 1 => getM l k
def toOld (m : List (Option Nat)) (i : Nat) : Nat := match getM m i with | some (some j) => j | _ => 0
def isVt (m : List (Option Nat)) (i : Nat) : Bool := match getM m i with | some none => true | _ => false

mutual
def leV (m : List (Option Nat)) : V → V → Prop
  | v, .any => v.isAgg = false ∧ v.isTup = false
  | v, .ref i p => match getM m i with | some (some j) => v = .ref j p | _ => False
  | v, .rref i p sz lo n => match getM m i with | some (some j) => v = .rref j p sz lo n | _ => False
  | v, .sl i p sz lo len cap => match getM m i with
    | some (some j) => v = .sl j p sz lo len cap
    | some none => v = .emp ∧ len = 0 ∧ cap = 0
    | none => False
  | v, .slx i sz lo len cap => match getM m i with
    | some (some j) => v = .slx j sz lo len cap
    | some none => v = .emp ∧ len = 0 ∧ cap = 0
    | none => False
  | v, .imm l sz n f => (v = .emp ∧ n = 0) ∨ ∃ g, v = .imm l sz n g ∧ ∀ k, k < n → g k = f k
  | v, .row sz n f => ∃ g, v = .row sz n g ∧ ∀ k, k < n → leV m (g k) (f k)
  | v, .st l' => ∃ l, v = .st l ∧ leVs m l l'
  | v, .fn f caps => ∃ c0, v = .fn f c0 ∧ leVs m c0 caps
  | v, .iface t u => ∃ u0, v = .iface t u0 ∧ leV m u0 u
  | v, .tup l => v = .tup .nil ∧ l = .nil
  | v, .bool b => vb v = some b
  | v, .int k n => v = .int k n
  | v, .tt => v = .tt
  | v, .ff => v = .ff
  | v, .str s => v = .str s
  | v, .nilp => v = .nilp
  | v, .pim l u => v = .pim l u
  | v, .emp => v = .emp
  | v, .nilf => v = .nilf
  | v, .nili => v = .nili
def leVs (m : List (Option Nat)) : Vs → Vs → Prop
  | .nil, .nil => True
  | .cons v l, .cons v' l' => leV m v v' ∧ leVs m l l'
  | _, _ => False
end

theorem vb_agg {v : V} {b : Bool} (h : vb v = some b) : v.isAgg = false ∧ v.isTup = false := by cases v <;> simp_all [vb, V.isAgg, V.isTup]
mutual
theorem leV_size {m : List (Option Nat)} : ∀ (v v' : V), leV m v v' → v.isAgg = v'.isAgg ∧ vsize v = vsize v' ∧ v.isTup = v'.isTup
  | v, .any, h => by simp only [leV] at h; exact ⟨by rw [h.1]; rfl, by rw [vsize_scalar h.1]; rfl, by rw [h.2]; rfl⟩
  | v, .ref i p, h => by simp only [leV] at h; split at h <;> first | exact h.elim | (subst h; exact ⟨rfl, rfl, rfl⟩)
  | v, .rref .., h => by simp only [leV] at h; split at h <;> first | exact h.elim | (subst h; exact ⟨rfl, rfl, rfl⟩)
  | v, .sl .., h => by
    simp only [leV] at h
    split at h
    · subst h; exact ⟨rfl, rfl, rfl⟩
    · rw [h.1]; exact ⟨rfl, rfl, rfl⟩
    · exact h.elim
  | v, .slx .., h => by
    simp only [leV] at h
    split at h
    · subst h; exact ⟨rfl, rfl, rfl⟩
    · rw [h.1]; exact ⟨rfl, rfl, rfl⟩
    · exact h.elim
  | v, .imm .., h => by
    simp only [leV] at h
    rcases h with ⟨rfl, _⟩ | ⟨g, rfl, _⟩ <;> exact ⟨rfl, rfl, rfl⟩
  | v, .row .., h => by
    simp only [leV] at h
    obtain ⟨g, rfl, _⟩ := h
    exact ⟨rfl, rfl, rfl⟩
  | v, .st l', h => by
    simp only [leV] at h
    obtain ⟨l, rfl, h⟩ := h
    exact ⟨rfl, by simp only [vsize]; exact (leVs_size l l' h).1, rfl⟩
  | v, .fn .., h => by simp only [leV] at h; obtain ⟨c, rfl, _⟩ := h; exact ⟨rfl, rfl, rfl⟩
  | v, .iface .., h => by simp only [leV] at h; obtain ⟨c, rfl, _⟩ := h; exact ⟨rfl, rfl, rfl⟩
  | v, .tup _, h => by simp only [leV] at h; rw [h.1]; exact ⟨rfl, rfl, rfl⟩
  | v, .bool b, h => by
    simp only [leV] at h
    obtain ⟨h1, h2⟩ := vb_agg h
    exact ⟨by rw [h1]; rfl, by rw [vsize_scalar h1]; rfl, by rw [h2]; rfl⟩
  | v, .int .., h | v, .tt, h | v, .ff, h | v, .str _, h | v, .nilp, h | v, .pim .., h | v, .emp, h | v, .nilf, h | v, .nili, h => by
    simp only [leV] at h; subst h; exact ⟨rfl, rfl, rfl⟩
theorem leVs_size {m : List (Option Nat)} : ∀ (l l' : Vs), leVs m l l' → vsizes l = vsizes l' ∧ l.flat = l'.flat
  | .nil, .nil, _ => ⟨rfl, rfl⟩
  | .cons v l, .cons v' l', h => by
    simp only [leVs] at h
    obtain ⟨h1, h2, h3⟩ := leV_size v v' h.1
    obtain ⟨h4, h5⟩ := leVs_size l l' h.2
    exact ⟨by simp only [vsizes, h2, h4], by simp only [Vs.flat, h1, h3, h5]⟩
  | .nil, .cons _ _, h => by simp [leVs] at h
  | .cons _ _, .nil, h => by simp [leVs] at h
end

def Env.ren (E : Env) (m : List (Option Nat)) : Env := { E with ρ := fun i => E.ρ (toOld m i), vt := fun i => isVt m i || E.vt (toOld m i), N := m.length }
theorem getM_lt : ∀ {m : List (Option Nat)} {i : Nat} {x : Option Nat}, getM m i = some x → i < m.length
  | [], _, _, h => by simp [getM] at h
  | _ :: _, 0, _, _ => by simp
  | _ :: l, k + 1, x, h => by simp only [getM] at h; have := getM_lt h; simp; omega
theorem getM_eq : ∀ (m : List (Option Nat)) (i : Nat), getM m i = m[i]? | [], _ => by simp [getM] | _ :: _, 0 => by simp [getM] | _ :: l, k + 1 => by simp [getM, getM_eq l k]
theorem Env.ren_old {E : Env} {m : List (Option Nat)} {i j : Nat} (h : getM m i = some (some j)) : (E.ren m).ρ i = E.ρ j ∧ (E.ren m).vt i = E.vt j ∧ i < (E.ren m).N := by
  simp [Env.ren, toOld, isVt, h, getM_lt h]

mutual
theorem leV_R {E : Env} {m : List (Option Nat)} : ∀ (v v' : V) (c : Nat → Option Value) (o : Nat), leV m v v' → R E v c o → R (E.ren m) v' c o
  | v, .any, c, o, h, hr => by
    simp only [leV] at h
    simp only [R]
    obtain ⟨x, h1, h2⟩ := R_one v c o 0 hr (by rw [vsize_scalar h.1]; omega)
    exact ⟨x, h1, h2⟩
  | v, .ref i p, c, o, h, hr => by
    simp only [leV] at h
    split at h
    · rename_i j hj
      subst h
      obtain ⟨e1, e2, e3⟩ := Env.ren_old (E := E) hj
      simp only [R] at hr ⊢
      exact ⟨e3, by rw [e1]; exact hr.2⟩
    · exact h.elim
  | v, .rref i p sz lo n, c, o, h, hr => by
    simp only [leV] at h
    split at h
    · rename_i j hj
      subst h
      obtain ⟨e1, e2, e3⟩ := Env.ren_old (E := E) hj
      simp only [R] at hr ⊢
      exact ⟨e3, by rw [e1]; exact hr.2⟩
    · exact h.elim
  | v, .sl i p sz lo len cap, c, o, h, hr => by
    simp only [leV] at h
    split at h
    · rename_i j hj
      subst h
      obtain ⟨e1, e2, e3⟩ := Env.ren_old (E := E) hj
      simp only [R] at hr ⊢
      exact ⟨e3, by rw [e1, e2]; exact hr.2⟩
    · rename_i hj
      obtain ⟨rfl, rfl, rfl⟩ := h
      simp only [R] at hr ⊢
      obtain ⟨a, ha⟩ := hr
      exact ⟨getM_lt hj, a, 0, ha, Nat.le_refl _, Nat.le_refl _, .inl rfl⟩
    · exact h.elim
  | v, .slx i sz lo len cap, c, o, h, hr => by
    simp only [leV] at h
    split at h
    · rename_i j hj
      subst h
      obtain ⟨e1, e2, e3⟩ := Env.ren_old (E := E) hj
      simp only [R] at hr ⊢
      exact ⟨e3, by rw [e1, e2]; exact hr.2⟩
    · rename_i hj
      obtain ⟨rfl, rfl, rfl⟩ := h
      simp only [R] at hr ⊢
      obtain ⟨a, ha⟩ := hr
      exact ⟨getM_lt hj, a, ha, Nat.le_refl _, .inl trivial⟩
    · exact h.elim
  | v, .imm l sz n f, c, o, h, hr => by
    simp only [leV] at h
    rcases h with ⟨rfl, rfl⟩ | ⟨g, rfl, hg⟩
    · simp only [R] at hr ⊢
      obtain ⟨a, ha⟩ := hr
      exact ⟨a, 0, ha, Nat.le_refl _, .inl trivial⟩
    · simp only [R] at hr ⊢
      obtain ⟨a, cp, h1, h2, h3⟩ := hr
      exact ⟨a, cp, h1, h2, h3.imp id fun ⟨b, off, h4, h5, h6⟩ => ⟨b, off, h4, h5, fun k hk => by rw [← hg k hk]; exact h6 k hk⟩⟩
  | v, .row sz n f, c, o, h, hr => by
    simp only [leV] at h
    obtain ⟨g, rfl, hg⟩ := h
    simp only [R] at hr ⊢
    exact fun k hk => ⟨by rw [← (leV_size _ _ (hg k hk)).2.1]; exact (hr k hk).1, leV_R (g k) (f k) _ _ (hg k hk) (hr k hk).2⟩
  | v, .st l', c, o, h, hr => by
    simp only [leV] at h
    obtain ⟨l, rfl, h⟩ := h
    simp only [R] at hr ⊢
    exact leVs_R l l' c o h hr
  | v, .fn f caps, c, o, h, hr => by
    simp only [leV] at h
    obtain ⟨c0, rfl, h⟩ := h
    simp only [R] at hr ⊢
    obtain ⟨xs, h1, h2, h3, h4⟩ := hr
    obtain ⟨h5, h6⟩ := leVs_size _ _ h
    exact ⟨xs, h1, by rw [← h5]; exact h2, by rw [← h6]; exact h3, leVs_R c0 caps _ _ h h4⟩
  | v, .iface t u, c, o, h, hr => by
    simp only [leV] at h
    obtain ⟨u0, rfl, h⟩ := h
    simp only [R] at hr ⊢
    obtain ⟨x, h1, h2, h3⟩ := hr
    obtain ⟨h5, h6, _⟩ := leV_size _ _ h
    exact ⟨x, h1, by unfold aggOk at h2 ⊢; rw [← h5, ← h6]; exact h2, leV_R u0 u _ _ h h3⟩
  | v, .tup l, c, o, h, hr => by
    simp only [leV] at h
    obtain ⟨rfl, rfl⟩ := h
    simp only [R] at hr
  | v, .bool b, c, o, h, hr => by
    simp only [leV] at h
    cases v <;> simp [vb] at h
    · subst h; simpa only [R] using hr
    · subst h; simpa only [R] using hr
    · subst h; simpa only [R] using hr
  | v, .pim l u, c, o, h, hr => by
    simp only [leV] at h; subst h; simp only [R] at hr ⊢; exact hr
  | v, .int .., c, o, h, hr | v, .tt, c, o, h, hr | v, .ff, c, o, h, hr | v, .str _, c, o, h, hr | v, .nilp, c, o, h, hr | v, .emp, c, o, h, hr | v, .nilf, c, o, h, hr | v, .nili, c, o, h, hr => by
    simp only [leV] at h; subst h; simpa only [R] using hr
theorem leVs_R {E : Env} {m : List (Option Nat)} : ∀ (l l' : Vs) (c : Nat → Option Value) (o : Nat), leVs m l l' → RL E l c o → RL (E.ren m) l' c o
  | .nil, .nil, c, o, _, _ => by simp only [RL]
  | .cons v l, .cons v' l', c, o, h, hr => by
    simp only [leVs] at h
    simp only [RL] at hr ⊢
    exact ⟨leV_R v v' c o h.1 hr.1, by rw [← (leV_size _ _ h.1).2.1]; exact leVs_R l l' c _ h.2 hr.2⟩
  | .nil, .cons _ _, _, _, h, _ => by simp [leVs] at h
  | .cons _ _, .nil, _, _, h, _ => by simp [leVs] at h
end
def leS (m : List (Option Nat)) (v v' : V) : Prop := match v' with | .any => True | v' => leV m v v'
theorem leS_T {E : Env} {m : List (Option Nat)} {v v' : V} {x : Value} (h : leS m v v') (ht : T E v x) : T (E.ren m) v' x := by
  by_cases ha : v' = .any
  · subst ha; trivial
  have h : leV m v v' := by cases v' <;> first | exact absurd rfl ha | exact h
  by_cases htu : v'.isTup = true
  · cases v' <;> simp [V.isTup] at htu
    simp only [leV] at h
    obtain ⟨rfl, rfl⟩ := h
    obtain ⟨xs, h1, h2, _⟩ := ht
    have hx : xs = #[] := by simpa [Vs.len] using h2
    subst hx
    exact ⟨#[], h1, rfl, fun k y hk => by simp at hk⟩
  obtain ⟨h1, h2, h3⟩ := leV_size _ _ h
  have hv : aggOk v x ∧ R E v (fun q => x.cells[q]?) 0 := by
    have h3 : v.isTup = false := by rw [h3]; simpa using htu
    have hany : v ≠ .any := by
      rintro rfl
      cases v' <;> simp only [leV] at h <;> first
        | exact absurd rfl ha
        | (split at h <;> simp at h; done)
        | (simp [vb] at h; done)
        | simp at htu
    cases v <;> first | exact ht | exact absurd rfl hany | simp [V.isTup] at h3
  have : aggOk v' x ∧ R (E.ren m) v' (fun q => x.cells[q]?) 0 := ⟨by have := hv.1; unfold aggOk at this ⊢; rw [← h1, ← h2]; exact this, leV_R _ _ _ _ h hv.2⟩
  cases v' <;> first | exact this | exact absurd rfl ha | simp [V.isTup] at htu
end Go.DD

/- Code: what must hold so that it ends as said. -/
namespace Go.DD
set_option linter.unusedVariables false
set_option linter.unusedSimpArgs false
open Go.RowKit

structure Xt (n0 : Nat) (E E' : Env) : Prop where
  os : E'.w.os = E.w.os
  tape : E'.w.tape = E.w.tape
  output : E'.w.output = E.w.output
  size : E.w.heap.size ≤ E'.w.heap.size
  N : n0 ≤ E'.N
  ρ : ∀ i, i < n0 → E'.ρ i = E.ρ i
  vt : ∀ i, i < n0 → E'.vt i = E.vt i
  S : ∀ b, E.S b → E'.S b
  S' : ∀ b, E'.S b → E.S b ∨ ¬ E.K b
  L : ∀ b, E'.L b ↔ E.L b
  K : ∀ b, E.K b → E'.K b
  kept : ∀ b, E.K b → E'.w.heap[b]? = E.w.heap[b]?
  cells : ∀ (b : Nat) (cs : Array Value) (t : TypeId) (fr : Nat × Nat), E.w.heap[b]? = some (.cells cs t fr) → ∃ (cs' : Array Value) (fr' : Nat × Nat), E'.w.heap[b]? = some (Obj.cells cs' t fr') ∧ cs'.size = cs.size
theorem Ext.xt {n0 : Nat} {E E' : Env} (h : Ext E E') (hn : n0 ≤ E.N) : Xt n0 E E' where
  os := h.os
  tape := h.tape
  output := h.output
  size := h.size
  N := Nat.le_trans hn h.N
  ρ := fun i hi => h.ρ i (Nat.lt_of_lt_of_le hi hn)
  vt := fun i hi => h.vt i (Nat.lt_of_lt_of_le hi hn)
  S := h.S
  S' := h.S'
  L := h.L
  K := h.K
  kept := h.kept
  cells := h.cells
theorem Xt.trans {n0 : Nat} {E E' E'' : Env} (h : Xt n0 E E') (k : Xt n0 E' E'') : Xt n0 E E'' where
  os := k.os.trans h.os
  tape := k.tape.trans h.tape
  output := k.output.trans h.output
  size := Nat.le_trans h.size k.size
  N := k.N
  ρ := fun i hi => (k.ρ i hi).trans (h.ρ i hi)
  vt := fun i hi => (k.vt i hi).trans (h.vt i hi)
  S := fun b hb => k.S b (h.S b hb)
  S' := fun b hb => (k.S' b hb).elim (fun h' => h.S' b h') (fun h' => .inr fun hk => h' (h.K b hk))
  L := fun b => (k.L b).trans (h.L b)
  K := fun b hb => k.K b (h.K b hb)
  kept := fun b hb => (k.kept b (h.K b hb)).trans (h.kept b hb)
  cells := fun b cs t fr hb => by
    obtain ⟨cs', fr', h1, h2⟩ := h.cells b cs t fr hb
    obtain ⟨cs'', fr'', h3, h4⟩ := k.cells b cs' t fr' h1
    exact ⟨cs'', fr'', h3, h4.trans h2⟩

structure OK (P : Program) (Γ : Ctx) (c : Code) (Q : Exit → St → Prop) (σ : St) : Prop where
  out : ∀ E a, Γ.n0 ≤ E.N → Sim Γ E σ a → c.wp P (fun e a' w' => ∃ E' σ', w' = E'.w ∧ Xt Γ.n0 E E' ∧ Sim Γ E' σ' a' ∧ Q e σ') a E.w

/-! ### A template: some slots, some variables -/
def tmpl (tl : List (Nat × V)) (h : Heap) : St := ⟨fun k => match lookV tl k with | some v => v | none => .any, h⟩
def leT (m : List (Option Nat)) (t : Nat → V) : List (Nat × V) → Prop
  | [] => True
  | (k, v) :: l => leS m (t k) v ∧ leT m t l
def leH (mm : List (Option Nat)) (h : Heap) : List (Option Nat) → Heap → Prop
  | [], [] => True
  | none :: m, v :: l => (match v with | some (.row _ 0 _) => True | none => True | _ => False) ∧ leH mm h m l
  | some _ :: m, none :: l => leH mm h m l
  | some j :: m, some v :: l => (match hget h j with | some u => leV mm u v | none => False) ∧ leH mm h m l
  | _, _ => False
def noDup : List (Option Nat) → Bool
  | [] => true
  | none :: l => noDup l
  | some j :: l => l.all (fun x => match x with | some i => !Nat.beq i j | none => true) && noDup l
def idOn : Nat → Nat → List (Option Nat) → Bool
  | 0, _, _ => true
  | n + 1, k, some j :: l => Nat.beq j k && idOn n (k + 1) l
  | _, _, _ => false
/-- 'σ' fits the template; 'm' tells of each of the template's variables which one it is. -/
structure Le (n0 : Nat) (m : List (Option Nat)) (σ : St) (tl : List (Nat × V)) (h : Heap) : Prop where
  t : leT m σ.t tl
  h : leH m σ.h m h
  s : (noDup m && idOn n0 0 m) = true

theorem leT_get {m : List (Option Nat)} {t : Nat → V} : ∀ {tl : List (Nat × V)} {k : Nat} {v : V}, leT m t tl → lookV tl k = some v → leS m (t k) v
  | [], _, _, _, h => by simp [lookV] at h
  | (k', u) :: l, k, v, hl, h => by
    simp only [leT] at hl
    simp only [lookV] at h
    split at h
    · rename_i hb
      simp only [Nat.beq_eq] at hb
      cases h
      rw [← hb]; exact hl.1
    · exact leT_get hl.2 h
theorem leH_get {mm : List (Option Nat)} {h : Heap} : ∀ {m : List (Option Nat)} {l : Heap}, leH mm h m l → m.length = l.length ∧ ∀ (i : Nat) v, l[i]? = some (some v) → (m[i]? = some none ∧ ∃ sz f, v = .row sz 0 f) ∨ ∃ j u, m[i]? = some (some j) ∧ h[j]? = some (some u) ∧ leV mm u v
  | [], [], _ => ⟨rfl, fun i v h => by simp at h⟩
  | none :: m, v :: l, hl => by
    simp only [leH] at hl
    obtain ⟨h1, h2⟩ := leH_get hl.2
    refine ⟨by simp [h1], fun i u hi => ?_⟩
    cases i with
    | zero =>
      simp at hi
      subst hi
      have := hl.1
      split at this
      · rename_i he; cases he; exact .inl ⟨rfl, _, _, rfl⟩
      · rename_i he; cases he
      · exact this.elim
    | succ i => exact h2 i u (by simpa using hi)
  | some j :: m, none :: l, hl => by
    simp only [leH] at hl
    obtain ⟨h1, h2⟩ := leH_get hl
    refine ⟨by simp [h1], fun i u hi => ?_⟩
    cases i with
    | zero => simp at hi
    | succ i => exact h2 i u (by simpa using hi)
  | some j :: m, some v :: l, hl => by
    simp only [leH] at hl
    obtain ⟨h1, h2⟩ := leH_get hl.2
    refine ⟨by simp [h1], fun i u hi => ?_⟩
    cases i with
    | zero =>
      simp at hi
      subst hi
      have := hl.1
      split at this
      · rename_i w hw
        exact .inr ⟨j, w, rfl, (hget_eq _ _ _).1 hw, this⟩
      · exact this.elim
    | succ i => exact h2 i u (by simpa using hi)
  | [], _ :: _, hl => by simp [leH] at hl
  | some _ :: _, [], hl => by simp [leH] at hl
  | none :: _, [], hl => by simp [leH] at hl
theorem noDup_ne : ∀ {m : List (Option Nat)} {i k j : Nat}, noDup m = true → m[i]? = some (some j) → m[k]? = some (some j) → i = k
  | [], i, _, _, _, hi, _ => by simp at hi
  | none :: l, i, k, j, h, hi, hk => by
    cases i with
    | zero => simp at hi
    | succ i => cases k with
      | zero => simp at hk
      | succ k => exact congrArg _ (noDup_ne (m := l) (by simpa [noDup] using h) (by simpa using hi) (by simpa using hk))
  | some x :: l, i, k, j, h, hi, hk => by
    simp only [noDup, Bool.and_eq_true, List.all_eq_true] at h
    have hx : ∀ q, l[q]? ≠ some (some x) := fun q hq => by
      have := h.1 _ (List.mem_of_getElem? hq)
      simp at this
    cases i with
    | zero =>
      cases k with
      | zero => rfl
      | succ k =>
        simp at hi hk
        subst hi
        exact absurd hk (hx k)
    | succ i =>
      cases k with
      | zero =>
        simp at hi hk
        subst hk
        exact absurd hi (hx i)
      | succ k => exact congrArg _ (noDup_ne (m := l) h.2 (by simpa using hi) (by simpa using hk))
theorem idOn_get : ∀ {n k : Nat} {m : List (Option Nat)}, idOn n k m = true → n ≤ m.length ∧ ∀ i, i < n → m[i]? = some (some (k + i))
  | 0, _, _, _ => ⟨Nat.zero_le _, fun i hi => absurd hi (Nat.not_lt_zero i)⟩
  | n + 1, k, some j :: l, h => by
    simp only [idOn, Bool.and_eq_true, Nat.beq_eq] at h
    obtain ⟨h1, h2⟩ := idOn_get h.2
    refine ⟨by simp; omega, fun i hi => ?_⟩
    cases i with
    | zero => simp [h.1]
    | succ i => have := h2 i (by omega); simp only [List.getElem?_cons_succ]; rw [this]; congr 2; omega
  | n + 1, k, none :: l, h => by simp [idOn] at h
  | n + 1, k, [], h => by simp [idOn] at h

section
variable {P : Program} {Γ : Ctx}
theorem Le.sim {E : Env} {σ : St} {a : Act} {m : List (Option Nat)} {tl : List (Nat × V)} {h : Heap} (hl : Le Γ.n0 m σ tl h) (hs : Sim Γ E σ a) (_hn : Γ.n0 ≤ E.N) : Xt Γ.n0 E (E.ren m) ∧ Sim Γ (E.ren m) (tmpl tl h) a := by
  obtain ⟨ht, hh, hm⟩ := hl
  simp only [Bool.and_eq_true] at hm
  obtain ⟨hlen, hget⟩ := leH_get hh
  obtain ⟨hid1, hid2⟩ := idOn_get hm.2
  have hold : ∀ {i j : Nat}, m[i]? = some (some j) → (E.ren m).ρ i = E.ρ j ∧ (E.ren m).vt i = E.vt j := fun hij => by
    have := Env.ren_old (E := E) (m := m) (by rw [getM_eq]; exact hij)
    exact ⟨this.1, this.2.1⟩
  have hwf : Wf (E.ren m) := ⟨hs.wf.S, hs.wf.L, hs.wf.K⟩
  constructor
  · exact {
      os := rfl, tape := rfl, output := rfl, size := Nat.le_refl _, N := hid1
      ρ := fun i hi => by have := (hold (hid2 i hi)).1; simpa using this
      vt := fun i hi => by have := (hold (hid2 i hi)).2; simpa using this
      S := fun _ h => h, S' := fun _ h => .inl h, L := fun _ => Iff.rfl, K := fun _ h => h, kept := fun _ _ => rfl
      cells := fun b cs t fr hb => ⟨cs, fr, hb, rfl⟩ }
  · refine { wf := hwf, heap := ⟨?_, fun i v hi => ?_, fun i j v v' hi hj hne h1 h2 => ?_⟩, tmp := fun k => ?_, size := hs.size, defers := hs.defers, gl := fun p hp => hs.gl p hp }
    · simp only [tmpl, Env.ren]; exact hlen.symm
    · rcases hget i v hi with ⟨h1, sz, f, rfl⟩ | ⟨j, u, h1, h2, h3⟩
      · exact .inl ⟨by simp [Env.ren, isVt, getM_eq, h1], sz, f, rfl⟩
      · obtain ⟨e1, e2⟩ := hold h1
        rcases hs.heap.live j u h2 with ⟨h4, sz, f, rfl⟩ | ⟨h4, h5, cs, t, h6, h7, h8⟩
        · refine .inl ⟨e2.trans h4, ?_⟩
          cases v <;> simp only [leV] at h3
          case row sz' n' f' =>
            obtain ⟨g, hg, _⟩ := h3
            cases hg
            exact ⟨_, _, rfl⟩
          all_goals first
            | (cases h3; done)
            | (exact absurd h3.1 (by simp [V.isAgg]))
            | (obtain ⟨x, hx, _⟩ := h3; cases hx; done)
            | (rcases h3 with ⟨hx, _⟩ | ⟨x, hx, _⟩ <;> cases hx; done)
            | (split at h3 <;> first | (cases h3; done) | (cases h3.1; done))
            | (simp [vb] at h3; done)
        · refine .inr ⟨e2.trans h4, by rw [e1]; exact h5, cs, t, by rw [e1]; exact h6, by rw [← (leV_size _ _ h3).2.1]; exact h7, leV_R _ _ _ _ h3 h8⟩
    · rcases hget i v hi with ⟨h3, _⟩ | ⟨i', u, h3, h4, _⟩
      · exfalso
        simp [Env.ren, isVt, getM_eq, h3] at h1
      · rcases hget j v' hj with ⟨h5, _⟩ | ⟨j', u', h5, h6, _⟩
        · exfalso
          simp [Env.ren, isVt, getM_eq, h5] at h2
        · rw [(hold h3).1, (hold h5).1]
          rw [(hold h3).2] at h1
          rw [(hold h5).2] at h2
          exact hs.heap.inj i' j' u u' h4 h6 (fun e => hne (noDup_ne hm.1 h3 (e ▸ h5))) h1 h2
    · simp only [tmpl]
      split
      · rename_i v hv
        exact leS_T (leT_get ht hv) (hs.tmp k)
      · trivial

theorem OK.mono {c : Code} {Q Q' : Exit → St → Prop} {σ : St} (h : OK P Γ c Q σ) (hq : ∀ e σ, Q e σ → Q' e σ) : OK P Γ c Q' σ :=
  ⟨fun E a hn hs => wp_mono (h.out E a hn hs) fun _ _ _ ⟨E', σ', h1, h2, h3, h4⟩ => ⟨E', σ', h1, h2, h3, hq _ _ h4⟩⟩
theorem OK_weak {c : Code} {Q : Exit → St → Prop} {σ : St} (m : List (Option Nat)) {tl : List (Nat × V)} {h : Heap} (hl : Le Γ.n0 m σ tl h) (hk : OK P Γ c Q (tmpl tl h)) : OK P Γ c Q σ :=
  ⟨fun E a hn hs => by
    obtain ⟨h1, h2⟩ := hl.sim hs hn
    exact wp_mono (hk.out (E.ren m) a h1.N h2) fun _ _ _ ⟨E', σ', e1, e2, e3, e4⟩ => ⟨E', σ', e1, h1.trans e2, e3, e4⟩⟩

def seqQ (K : St → Prop) (Q : Exit → St → Prop) : Exit → St → Prop := fun e σ => match e with | .normal => K σ | e => Q e σ
theorem OK_seq {a b : Code} {Q : Exit → St → Prop} {σ : St} (h : OK P Γ a (seqQ (OK P Γ b Q) Q) σ) : OK P Γ (.seq a b) Q σ :=
  ⟨fun E ac hn hs => wp_seq (wp_mono (h.out E ac hn hs) fun e a' w' ⟨E', σ', h1, h2, h3, h4⟩ => by
    cases e with
    | normal =>
      subst h1
      exact wp_mono (h4.out E' a' h2.N h3) fun _ _ _ ⟨E'', σ'', e1, e2, e3, e4⟩ => ⟨E'', σ'', e1, h2.trans e2, e3, e4⟩
    | _ => exact ⟨E', σ', h1, h2, h3, h4⟩)⟩
/-- A cut between two codes. -/
theorem OK_cut {ι : Type} {a b : Code} {Q : Exit → St → Prop} {σ : St} (tl : ι → List (Nat × V)) (hp : ι → Heap) (p : ι → Prop)
    (h : OK P Γ a (seqQ (fun σ' => ∃ x m, Le Γ.n0 m σ' (tl x) (hp x) ∧ p x) Q) σ) (hb : ∀ x, p x → OK P Γ b Q (tmpl (tl x) (hp x))) : OK P Γ (.seq a b) Q σ :=
  OK_seq (h.mono fun e σ' hq => by
    cases e with
    | normal => obtain ⟨x, m, hl, hx⟩ := hq; exact OK_weak m hl (hb x hx)
    | _ => exact hq)

theorem wp_loop_ix {ι : Type} {c : Code} {Q : Exit → Act → World → Prop} (I : ι → Act → World → Prop) (μ : ι → Nat)
    (round : ∀ x a w, I x a w → c.wp P (Exit.then (fun a' w' => ∃ y, I y a' w' ∧ μ y < μ x) Q) a w) {x : ι} {a : Act} {w : World} (h₀ : I x a w) : (Code.loop c).wp P Q a w := by
  intro b k cs
  have key : ∀ n x a w, μ x = n → I x a w →
      ∃ e a' w', Q e a' w' ∧ Arrives P (lone (b.at a (.code c :: .inLoop c :: k)) cs w) b k cs e a' w' := by
    intro n
    induction n using Nat.strongRecOn with
    | _ n ih =>
      intro x a w hn hI
      obtain ⟨e, a₁, w₁, hq, harr⟩ := round x a w hI b (.inLoop c :: k) cs
      cases e with
      | normal =>
        obtain ⟨y, hI₁, hlt⟩ := hq
        obtain ⟨e₂, a₂, w₂, hq₂, harr₂⟩ := ih (μ y) (hn ▸ hlt) y a₁ w₁ rfl hI₁
        exact ⟨e₂, a₂, w₂, hq₂, .of_steps (Steps.trans harr (.one step_inLoop)) harr₂⟩
      | exit id => exact ⟨_, a₁, w₁, hq, .pass (x := .inLoop c) rfl (fun _ _ => .inl (by simp)) harr⟩
      | goto l => exact ⟨_, a₁, w₁, hq, .pass (x := .inLoop c) rfl (fun _ _ => .inl (by simp)) harr⟩
      | ret => exact ⟨_, a₁, w₁, hq, .pass (x := .inLoop c) rfl (fun _ _ => .inl (by simp)) harr⟩
      | panic ch => exact ⟨_, a₁, w₁, hq, .pass (x := .inLoop c) rfl (fun _ _ => .inl (by simp)) harr⟩
      | outgrown => exact ⟨_, a₁, w₁, hq, .pass (x := .inLoop c) rfl (fun _ _ => .inl (by simp)) harr⟩
  obtain ⟨e, a', w', hq, harr⟩ := key _ x a w rfl h₀
  exact ⟨e, a', w', hq, .of_steps (.one step_loop) harr⟩

theorem OK_loop {ι : Type} {b : Code} {Q : Exit → St → Prop} {σ : St} (tl : ι → List (Nat × V)) (hp : ι → Heap) (p : ι → Prop) (μ : ι → Nat) (x0 : ι) (m0 : List (Option Nat)) (h0 : Le Γ.n0 m0 σ (tl x0) (hp x0)) (hp0 : p x0)
    (round : ∀ x, p x → OK P Γ b (seqQ (fun σ' => ∃ y m, Le Γ.n0 m σ' (tl y) (hp y) ∧ p y ∧ μ y < μ x) Q) (tmpl (tl x) (hp x))) : OK P Γ (.loop b) Q σ :=
  ⟨fun E a hn hs => by
    obtain ⟨h1, h2⟩ := h0.sim hs hn
    refine wp_loop_ix (P := P) (fun x a w => p x ∧ ∃ E', w = E'.w ∧ Xt Γ.n0 E E' ∧ Sim Γ E' (tmpl (tl x) (hp x)) a) μ (fun x a' w' ⟨hx, E', e1, e2, e3⟩ => ?_) (x := x0) ⟨hp0, E.ren m0, rfl, h1, h2⟩
    subst e1
    refine wp_mono ((round x hx).out E' a' e2.N e3) fun e a'' w'' ⟨E'', σ'', k1, k2, k3, k4⟩ => ?_
    cases e with
    | normal =>
      obtain ⟨y, m, k5, k6, k7⟩ := k4
      obtain ⟨k8, k9⟩ := k5.sim k3 k2.N
      exact ⟨y, ⟨k6, E''.ren m, k1, (e2.trans k2).trans k8, k9⟩, k7⟩
    | _ => exact ⟨E'', σ'', k1, e2.trans k2, k3, k4⟩⟩
end
end Go.DD

/- The condition of a code, reckoned; and that it is enough. -/
namespace Go.DD
set_option linter.unusedVariables false
set_option linter.unusedSimpArgs false
open Go.RowKit

/-! ### Regions -/
def memN : Nat → List Nat → Bool | _, [] => false | n, k :: l => Nat.beq n k || memN n l
def freeD (Γ : Ctx) (ops : Array Oper) (ms : List Nat) (listed : Array Bool) (i : Nat) : Bool :=
  match ops[i]? with
  | none => false
  | some oi => (List.range ops.size).all fun j => j == i || listed.getD j true || match ops[j]? with
      | some oj => (oi.apart ops oj && compat Γ oi.op oj.op) || reachM ms i j
      | none => true
def lexFrom (Γ : Ctx) (ops : Array Oper) (ms : List Nat) : Nat → Nat → Array Bool → Bool
  | 0, _, listed => (Region.ready .any ops listed).isEmpty
  | fuel + 1, k, listed => (Region.ready .any ops listed).contains k && freeD Γ ops ms listed k && lexFrom Γ ops ms fuel (k + 1) (listed.setIfInBounds k true)
mutual
def runP (Γ : Ctx) (ops : Array Oper) (Q : St → Prop) : Plan → St → Prop
  | .done, σ => Q σ
  | .one i p, σ => match nth ops.toList i with
    | none => False
    | some o => stepD Γ ops.toList o (runP Γ ops Q p) σ
  | .many l, σ => runPs Γ ops Q l σ
def runPs (Γ : Ctx) (ops : Array Oper) (Q : St → Prop) : Plans → St → Prop
  | .nil, _ => True
  | .cons i p l, σ => (match nth ops.toList i with
    | none => False
    | some o => stepD Γ ops.toList o (runP Γ ops Q p) σ) ∧ runPs Γ ops Q l σ
end
def Plans.has : Plans → Nat → Bool | .nil, _ => false | .cons i _ l, k => Nat.beq i k || l.has k
mutual
/-- Is it a plan of this region, from here on? -/
def chkP (Γ : Ctx) (ops : Array Oper) (ms : List Nat) : Nat → Array Bool → Plan → Bool
  | _, listed, .done => (Region.ready .any ops listed).isEmpty
  | fuel + 1, listed, .one i p => (Region.ready .any ops listed).contains i && freeD Γ ops ms listed i && chkP Γ ops ms fuel (listed.setIfInBounds i true) p
  | fuel + 1, listed, .many l => (!(Region.ready .any ops listed).isEmpty) && (Region.ready .any ops listed).all (fun i => l.has i) && chkPs Γ ops ms fuel listed l
  | 0, _, _ => false
  termination_by structural _ _ p => p
def chkPs (Γ : Ctx) (ops : Array Oper) (ms : List Nat) : Nat → Array Bool → Plans → Bool
  | _, _, .nil => true
  | fuel, listed, .cons i p l => (Region.ready .any ops listed).contains i && chkP Γ ops ms fuel (listed.setIfInBounds i true) p && chkPs Γ ops ms fuel listed l
  termination_by structural _ _ l => l
end
def lookP : List (Nat × Plan) → Nat → Option Plan | [], _ => none | (k, p) :: l, n => match Nat.beq k n with | true => some p | false => lookP l n
def okPlan (Γ : Ctx) (ops : Array Oper) (p : Plan) : Bool := closeM ops.toList ops.size (zeroM ops.toList) fun ms => chkP Γ ops ms ops.size (Array.replicate ops.size false) p
def okDraw (Γ : Ctx) (ops : Array Oper) : Bool := closeM ops.toList ops.size (zeroM ops.toList) fun ms => lexFrom Γ ops ms ops.size 0 (Array.replicate ops.size false)

section
variable {P : Program} {Γ : Ctx}
theorem freeD_spec {ops : Array Oper} {ms : List Nat} {i : Nat} {oi : Oper} {listed : Array Bool} (hi : ops[i]? = some oi) (h : freeD Γ ops ms listed i = true) (j : Nat) (oj : Oper)
    (hj : ops[j]? = some oj) (hne : j ≠ i) (hun : listed.getD j true = false) (hno : reachM ms i j = false) : oi.apart ops oj = true ∧ compat Γ oi.op oj.op = true := by
  simp only [freeD, hi, List.all_eq_true, List.mem_range] at h
  have h1 := h j (Array.getElem?_eq_some_iff.1 hj).1
  simpa only [hj, Bool.or_eq_true, beq_iff_eq, hne, false_or, hun, Bool.false_eq_true, Bool.and_eq_true, hno, or_false] using h1
theorem AnyD_lex (hΓ : CtxOk P Γ) {ops : Array Oper} {ms : List Nat} (hms : GoodM ops ms) {Q : St → Prop} : ∀ (l : List Oper) (k : Nat) (listed : Array Bool) (σ : St), (∀ j, l[j]? = ops[k + j]?) → Closed ops listed →
    lexFrom Γ ops ms l.length k listed = true → opsD Γ ops.toList l Q σ → AnyD Γ ops Q l.length listed σ
  | [], _, _, _, _, _, hB, h => ⟨by simpa [lexFrom] using hB, h⟩
  | o :: l, k, listed, σ, hl, hcl, hB, h => by
    have h0 : ops[k]? = some o := by simpa using (hl 0).symm
    simp only [List.length_cons, lexFrom, Bool.and_eq_true] at hB
    obtain ⟨⟨hr, hf⟩, hB'⟩ := hB
    refine AnyD_first hΓ hms h0 l.length listed σ (freeD_spec h0 hf) hcl (by simpa using hr) (stepD_mono hΓ (fun σ' h' => ?_) h)
    exact AnyD_lex hΓ hms l (k + 1) _ σ' (fun j => by have := hl (j + 1); simpa [Nat.add_assoc, Nat.add_comm 1 j] using this) (hcl.set (by simpa using hr)) hB' h'

mutual
theorem runP_ok (hΓ : CtxOk P Γ) {ops : Array Oper} {ms : List Nat} (hms : GoodM ops ms) {Q : St → Prop} : ∀ (p : Plan) (fuel : Nat) (listed : Array Bool) (σ : St), Closed ops listed → chkP Γ ops ms fuel listed p = true → runP Γ ops Q p σ → AnyD Γ ops Q fuel listed σ
  | .done, fuel, listed, σ, hcl, hc, h => by
    simp only [runP] at h
    have hr : Region.ready .any ops listed = [] := by
      cases fuel <;> simpa [chkP] using hc
    cases fuel with
    | zero => exact ⟨hr, h⟩
    | succ fuel => exact ⟨fun _ => h, fun i hi => by rw [hr] at hi; cases hi⟩
  | .one i p, 0, listed, σ, hcl, hc, h => by simp [chkP] at hc
  | .one i p, fuel + 1, listed, σ, hcl, hc, h => by
    simp only [chkP, Bool.and_eq_true] at hc
    obtain ⟨⟨hr, hf⟩, hc⟩ := hc
    replace hr : i ∈ Region.ready .any ops listed := by simpa using hr
    simp only [runP] at h
    split at h
    · exact h.elim
    · rename_i o ho
      rw [nth_eq, Array.getElem?_toList] at ho
      exact AnyD_first hΓ hms ho fuel listed σ (freeD_spec ho hf) hcl hr (stepD_mono hΓ (fun σ' h' => runP_ok hΓ hms p fuel _ σ' (hcl.set hr) hc h') h)
  | .many l, 0, listed, σ, hcl, hc, h => by simp [chkP] at hc
  | .many l, fuel + 1, listed, σ, hcl, hc, h => by
    simp only [chkP, Bool.and_eq_true] at hc
    obtain ⟨⟨hne, hall⟩, hc⟩ := hc
    simp only [runP] at h
    refine ⟨fun he => ?_, fun i hi => ?_⟩
    · rw [he] at hne; simp at hne
    · have hh : l.has i = true := by
        rw [List.all_eq_true] at hall
        exact hall i hi
      exact runPs_ok hΓ hms l fuel listed σ hcl hc h i hh
theorem runPs_ok (hΓ : CtxOk P Γ) {ops : Array Oper} {ms : List Nat} (hms : GoodM ops ms) {Q : St → Prop} : ∀ (l : Plans) (fuel : Nat) (listed : Array Bool) (σ : St), Closed ops listed → chkPs Γ ops ms fuel listed l = true → runPs Γ ops Q l σ → ∀ i, l.has i = true → match ops[i]? with
      | none => AnyD Γ ops Q fuel (listed.setIfInBounds i true) σ
      | some o => stepD Γ ops.toList o (AnyD Γ ops Q fuel (listed.setIfInBounds i true)) σ
  | .nil, fuel, listed, σ, hcl, hc, h, i, hi => by simp [Plans.has] at hi
  | .cons j p l, fuel, listed, σ, hcl, hc, h, i, hi => by
    simp only [chkPs, Bool.and_eq_true] at hc
    obtain ⟨⟨hr, hcp⟩, hcl'⟩ := hc
    replace hr : j ∈ Region.ready .any ops listed := by simpa using hr
    simp only [runPs] at h
    simp only [Plans.has, Bool.or_eq_true, Nat.beq_eq] at hi
    by_cases hij : j = i
    · subst hij
      have h1 := h.1
      split at h1
      · exact h1.elim
      · rename_i o ho
        rw [nth_eq, Array.getElem?_toList] at ho
        simp only [ho]
        exact stepD_mono hΓ (fun σ' h' => runP_ok hΓ hms p fuel _ σ' (hcl.set hr) hcp h') h1
    · exact runPs_ok hΓ hms l fuel listed σ hcl hcl' h.2 i (hi.resolve_left hij)
end
theorem okPlan_ok (hΓ : CtxOk P Γ) {ops : Array Oper} {p : Plan} {Q : St → Prop} {σ : St} (hc : okPlan Γ ops p = true) (h : runP Γ ops Q p σ) : AnyD Γ ops Q ops.size (Array.replicate ops.size false) σ := by
  obtain ⟨ms, hms, hk⟩ := closeM_good (ops := ops) _ _ _ (fun j i hb => by rw [zeroM_nth] at hb; simp at hb) hc
  exact runP_ok hΓ hms p _ _ _ (fun k ok hk hl => by simp [Array.getElem?_replicate] at hl; split at hl <;> simp at hl) hk h
theorem Sim.drew {E : Env} {σ : St} {a : Act} (h : Sim Γ E σ a) : Sim Γ E.drew σ a :=
  ⟨Env.wf_drew h.wf, drew_ok h.wf h.heap, fun k => T_ext h.wf E.ext_drew (h.tmp k), h.size, h.defers, h.gl.ext h.wf E.ext_drew⟩
theorem OK_region {id : Nat} {ops : Array Oper} {Q : Exit → St → Prop} {σ : St} (hΓ : CtxOk P Γ) (h : opsD Γ ops.toList ops.toList (Q .normal) σ) : OK P Γ (.region id ops false) Q σ :=
  ⟨fun E a hn hs => wp_region (by
    have := opsD_ok (P := P) hΓ (Q' := fun e a' w' => ∃ E' σ', w' = E'.w ∧ Xt Γ.n0 E E' ∧ Sim Γ E' σ' a' ∧ Q e σ') ops.toList 0 E σ a (fun j => by simp) hs h fun E' _ σ' hx hs' hq => ⟨E', σ', rfl, hx.xt hn, hs', hq⟩
    rw [List.range_eq_range']
    simpa using this)⟩
theorem OK_any {id : Nat} {ops : Array Oper} {Q : Exit → St → Prop} {σ : St} (hΓ : CtxOk P Γ) (hm : P.follows .mixedOrders = true) (h : AnyD Γ ops (Q .normal) ops.size (Array.replicate ops.size false) σ) : OK P Γ (.region id ops true) Q σ :=
  ⟨fun E a hn hs => wp_region_any hm (AnyD_ok (P := P) hΓ ops.size _ E.drew σ a hs.drew h fun E' _ σ' hx hs' hq => ⟨E', σ', rfl, ((E.ext_drew).trans hx).xt hn, hs', hq⟩)⟩
theorem OK_drawn {id : Nat} {ops : Array Oper} {Q : Exit → St → Prop} {σ : St} (hΓ : CtxOk P Γ) (hm : P.follows .mixedOrders = true) (hB : okDraw Γ ops = true) (h : opsD Γ ops.toList ops.toList (Q .normal) σ) : OK P Γ (.region id ops true) Q σ :=
  OK_any hΓ hm (by
    obtain ⟨ms, hms, hk⟩ := closeM_good (ops := ops) _ _ _ (fun j i hb => by rw [zeroM_nth] at hb; simp at hb) hB
    have := AnyD_lex hΓ hms ops.toList 0 (Array.replicate ops.size false) σ (fun j => by simp) (fun k ok hk hl => by simp [Array.getElem?_replicate] at hl; split at hl <;> simp at hl) (by simpa using hk) h
    simpa using this)
end

/-! ### Code -/
def chk (Γ : Ctx) : Code → Bool
  | .region id ops true => match lookP Γ.ex id with | some p => okPlan Γ ops p | none => okDraw Γ ops
  | .seq a b => chk Γ a && chk Γ b
  | .cond _ a b => chk Γ a && chk Γ b
  | .block _ b => chk Γ b
  | .loop b => chk Γ b
  | _ => true
def setSlot (c : Operand) (v : V) (σ : St) : St := match c with | .tmp k => ⟨putT σ.t (some k) v, σ.h⟩ | _ => σ
def blockQ (id : Nat) (Q : Exit → St → Prop) : Exit → St → Prop := fun e σ => match e with | .exit j => (match Nat.beq j id with | true => Q .normal σ | false => Q (.exit j) σ) | e => Q e σ
/-- What is still to be done behind a code. -/
inductive Fr where
  | seq (b : Code)
  | block (id : Nat)
def behind (P : Program) (Γ : Ctx) (Q : Exit → St → Prop) : List Fr → Exit → St → Prop
  | [], e, σ => Q e σ
  | .seq b :: k, e, σ => seqQ (OK P Γ b (behind P Γ Q k)) (behind P Γ Q k) e σ
  | .block id :: k, e, σ => blockQ id (behind P Γ Q k) e σ
def leave (P : Program) (Γ : Ctx) (Q : Exit → St → Prop) (run : Code → List Fr → St → Prop) : Exit → List Fr → St → Prop
  | e, [], σ => Q e σ
  | .normal, .seq b :: k, σ => run b k σ
  | .exit i, .block id :: k, σ => match Nat.beq i id with | true => leave P Γ Q run .normal k σ | false => leave P Γ Q run (.exit i) k σ
  | e, _ :: k, σ => leave P Γ Q run e k σ
def vc (P : Program) (Γ : Ctx) (Q : Exit → St → Prop) : Nat → Code → List Fr → St → Prop
  | 0, _, _, _ => False
  | n + 1, c, k, σ =>
    match c with
    | .skip => leave P Γ Q (vc P Γ Q n) .normal k σ
    | .label _ => leave P Γ Q (vc P Γ Q n) .normal k σ
    | .region _ ops false => opsD Γ ops.toList ops.toList (fun σ => leave P Γ Q (vc P Γ Q n) .normal k σ) σ
    | .region id ops true => match lookP Γ.ex id with
      | some p => runP Γ ops (fun σ => leave P Γ Q (vc P Γ Q n) .normal k σ) p σ
      | none => opsD Γ ops.toList ops.toList (fun σ => leave P Γ Q (vc P Γ Q n) .normal k σ) σ
    | .seq a b => vc P Γ Q n a (.seq b :: k) σ
    | .cond c a b => match σ with
      | ⟨t, h⟩ => match St.ev Γ ⟨t, h⟩ c with
        | .tt => vc P Γ Q n a k ⟨t, h⟩
        | .ff => vc P Γ Q n b k ⟨t, h⟩
        | .bool x => (x = true → vc P Γ Q n a k (setSlot c .tt ⟨t, h⟩)) ∧ (x = false → vc P Γ Q n b k (setSlot c .ff ⟨t, h⟩))
        | _ => False
    | .block id b => vc P Γ Q n b (.block id :: k) σ
    | .loop b => OK P Γ (.loop b) (behind P Γ Q k) σ
    | .exit i => leave P Γ Q (vc P Γ Q n) (.exit i) k σ
    | .ret => leave P Γ Q (vc P Γ Q n) .ret k σ
    | _ => False
def chkK (Γ : Ctx) : List Fr → Bool
  | [] => true
  | .seq b :: k => chk Γ b && chkK Γ k
  | .block _ :: k => chkK Γ k

section
variable {P : Program} {Γ : Ctx}
theorem Sim.slot {E : Env} {σ : St} {a : Act} (h : Sim Γ E σ a) {c : Operand} {v : V} (ht : T E v (a.eval c)) : Sim Γ E (setSlot c v σ) a := by
  unfold setSlot
  split
  · refine ⟨h.wf, h.heap, fun k => ?_, h.size, h.defers, h.gl⟩
    simp only [putT]
    split
    · rename_i hb
      simp only [Nat.beq_eq] at hb
      subst hb; exact ht
    · exact h.tmp k
  · exact h
theorem OK_block {id : Nat} {b : Code} {Q : Exit → St → Prop} {σ : St} (h : OK P Γ b (blockQ id Q) σ) : OK P Γ (.block id b) Q σ :=
  ⟨fun E a hn hs => wp_block (wp_mono (h.out E a hn hs) fun e a' w' ⟨E', σ', h1, h2, h3, h4⟩ => by
    cases e with
    | exit j =>
      simp only [Exit.inBlock]
      simp only [blockQ] at h4
      split at h4
      · rename_i hb
        rw [Nat.beq_eq] at hb
        rw [if_pos hb]
        exact ⟨E', σ', h1, h2, h3, h4⟩
      · rename_i hb
        rw [if_neg (fun e => by rw [e] at hb; simp at hb)]
        exact ⟨E', σ', h1, h2, h3, h4⟩
    | _ => exact ⟨E', σ', h1, h2, h3, h4⟩)⟩
theorem OK_cond {c : Operand} {x y : Code} {Q : Exit → St → Prop} {σ : St} {b : Bool} (hb : ∀ E a, Sim Γ E σ a → a.eval c = .bool b) (ht : b = true → OK P Γ x Q (setSlot c .tt σ)) (hf : b = false → OK P Γ y Q (setSlot c .ff σ)) : OK P Γ (.cond c x y) Q σ :=
  ⟨fun E a hn hs => wp_cond_split (hb E a hs) (fun h => (ht h).out E a hn (hs.slot (T_tt.2 (by rw [hb E a hs, h])))) (fun h => (hf h).out E a hn (hs.slot (T_ff.2 (by rw [hb E a hs, h]))))⟩

theorem leave_ok {Q : Exit → St → Prop} {run : Code → List Fr → St → Prop} (hr : ∀ c k σ, chk Γ c = true → chkK Γ k = true → run c k σ → OK P Γ c (behind P Γ Q k) σ) :
    ∀ (k : List Fr) (e : Exit) (σ : St), chkK Γ k = true → leave P Γ Q run e k σ → behind P Γ Q k e σ
  | [], e, σ, _, h => by cases e <;> exact h
  | .seq b :: k, e, σ, hc, h => by
    simp only [chkK, Bool.and_eq_true] at hc
    cases e with
    | normal => exact hr b k σ hc.1 hc.2 h
    | _ => exact leave_ok hr k _ σ hc.2 h
  | .block id :: k, e, σ, hc, h => by
    simp only [chkK] at hc
    cases e with
    | exit i =>
      simp only [leave] at h
      simp only [behind, blockQ]
      split at h
      · exact leave_ok hr k _ σ hc h
      · exact leave_ok hr k _ σ hc h
    | _ => exact leave_ok hr k _ σ hc h

theorem vc_ok (hΓ : CtxOk P Γ) (hm : P.follows .mixedOrders = true) {Q : Exit → St → Prop} : ∀ (n : Nat) (c : Code) (k : List Fr) (σ : St), chk Γ c = true → chkK Γ k = true → vc P Γ Q n c k σ → OK P Γ c (behind P Γ Q k) σ
  | 0, _, _, _, _, _, h => h.elim
  | n + 1, c, k, σ, hc, hk, h => by
    have lv : ∀ (e : Exit) (σ : St), leave P Γ Q (vc P Γ Q n) e k σ → behind P Γ Q k e σ := fun e σ h => leave_ok (fun c k σ h1 h2 h3 => vc_ok hΓ hm n c k σ h1 h2 h3) k e σ hk h
    cases c with
    | skip => exact ⟨fun E a hn hs => wp_skip ⟨E, σ, rfl, (Ext.refl E).xt hn, hs, lv _ _ h⟩⟩
    | label l => exact ⟨fun E a hn hs => wp_label ⟨E, σ, rfl, (Ext.refl E).xt hn, hs, lv _ _ h⟩⟩
    | exit i => exact ⟨fun E a hn hs => wp_exit ⟨E, σ, rfl, (Ext.refl E).xt hn, hs, lv _ _ h⟩⟩
    | ret => exact ⟨fun E a hn hs => wp_ret ⟨E, σ, rfl, (Ext.refl E).xt hn, hs, lv _ _ h⟩⟩
    | region id ops draw =>
      have mono : ∀ {Q' : Exit → St → Prop} {c : Code} {σ : St}, OK P Γ c Q' σ → (∀ e σ, Q' e σ → behind P Γ Q k e σ) → OK P Γ c (behind P Γ Q k) σ := fun h hq => h.mono hq
      let Q' : Exit → St → Prop := fun e σ => match e with | .normal => leave P Γ Q (vc P Γ Q n) .normal k σ | _ => False
      have hQ' : ∀ e σ, Q' e σ → behind P Γ Q k e σ := fun e σ hq => by
        cases e <;> first | exact lv _ _ hq | exact hq.elim
      cases draw with
      | false => exact mono (OK_region (Q := Q') hΓ h) hQ'
      | true =>
        simp only [vc] at h
        simp only [chk] at hc
        split at h
        · rename_i p hx
          rw [hx] at hc
          exact mono (OK_any (Q := Q') hΓ hm (okPlan_ok hΓ hc h)) hQ'
        · rename_i hx
          rw [hx] at hc
          exact mono (OK_drawn (Q := Q') hΓ hm hc h) hQ'
    | seq x y =>
      simp only [chk, Bool.and_eq_true] at hc
      refine OK_seq ((vc_ok hΓ hm n x (.seq y :: k) σ hc.1 (by simp [chkK, hc.2, hk]) h).mono fun e σ' hq => ?_)
      simpa only [behind] using hq
    | cond c x y =>
      simp only [chk, Bool.and_eq_true] at hc
      obtain ⟨t, hh⟩ := σ
      simp only [vc] at h
      split at h
      · rename_i he
        refine ⟨fun E a hn hs => wp_cond_true ?_ ((vc_ok hΓ hm n x k _ hc.1 hk h).out E a hn hs)⟩
        have := ev_ok hs.gl hs.tmp c
        rw [he] at this
        exact T_tt.1 this
      · rename_i he
        refine ⟨fun E a hn hs => wp_cond_false ?_ ((vc_ok hΓ hm n y k _ hc.2 hk h).out E a hn hs)⟩
        have := ev_ok hs.gl hs.tmp c
        rw [he] at this
        exact T_ff.1 this
      · rename_i b he
        refine OK_cond (b := b) (fun E a hs => ?_) (fun hb => vc_ok hΓ hm n x k _ hc.1 hk (h.1 hb)) (fun hb => vc_ok hΓ hm n y k _ hc.2 hk (h.2 hb))
        have := ev_ok hs.gl hs.tmp c
        rw [he] at this
        exact T_bool.1 this
      · exact h.elim
    | block id b =>
      refine OK_block ((vc_ok hΓ hm n b (.block id :: k) σ (by simpa [chk] using hc) (by simpa [chkK] using hk) h).mono fun e σ' hq => ?_)
      simpa only [behind] using hq
    | loop b => exact h
    | rangeFunc => exact h.elim
    | scope => exact h.elim
    | goto => exact h.elim
    | refuse => exact h.elim
end
end Go.DD

/- Calls: what goes in, what comes out. -/
namespace Go.DD
set_option linter.unusedVariables false
set_option linter.unusedSimpArgs false
open Go.RowKit

mutual
/-- Names no local variable. -/
def noref : V → Prop
  | .ref .. | .rref .. | .sl .. | .slx .. => False
  | .row _ n f => ∀ k, k < n → noref (f k)
  | .st l => norefs l
  | .fn _ l => norefs l
  | .iface _ v => noref v
  | .tup l => norefs l
  | _ => True
def norefs : Vs → Prop
  | .nil => True
  | .cons v l => noref v ∧ norefs l
end
mutual
/-- Names neither a local variable nor lent memory. -/
def own : V → Prop
  | .ref .. | .rref .. | .sl .. | .slx .. => False
  | .row _ n f => ∀ k, k < n → own (f k)
  | .imm l _ n f => match l with | true => False | false => ∀ k, k < n → own (f k)
  | .pim l v => match l with | true => False | false => own v
  | .st l => owns l
  | .fn _ l => owns l
  | .iface _ v => own v
  | .tup l => owns l
  | _ => True
def owns : Vs → Prop
  | .nil => True
  | .cons v l => own v ∧ owns l
end
mutual
theorem own_noref : ∀ v, own v → noref v
  | .row _ n f, h => by simp only [own] at h; simp only [noref]; exact fun k hk => own_noref (f k) (h k hk)
  | .st l, h => by simp only [own] at h; simp only [noref]; exact owns_norefs l h
  | .fn _ l, h => by simp only [own] at h; simp only [noref]; exact owns_norefs l h
  | .iface _ v, h => by simp only [own] at h; simp only [noref]; exact own_noref v h
  | .tup l, h => by simp only [own] at h; simp only [noref]; exact owns_norefs l h
  | .ref .., h | .rref .., h | .sl .., h | .slx .., h => by simp only [own] at h
  | .int .., _ | .tt, _ | .ff, _ | .bool _, _ | .str _, _ | .nilp, _ | .pim .., _ | .emp, _ | .imm .., _ | .nilf, _ | .nili, _ | .any, _ => by simp only [noref]
theorem owns_norefs : ∀ l, owns l → norefs l
  | .nil, _ => by simp only [norefs]
  | .cons v l, h => by simp only [owns] at h; simp only [norefs]; exact ⟨own_noref v h.1, owns_norefs l h.2⟩
end

/-- Environments alike in the world, the first with less to say. -/
structure Lee (own? : Bool) (E E' : Env) : Prop where
  w : E'.w = E.w
  S : ∀ b, E.S b → E'.S b
  L : own? = false → ∀ b, E.L b → E'.L b
theorem Lee.bare {o : Bool} {E E' : Env} (h : Lee o E E') : Lee o E.bare E'.bare := ⟨h.w, h.S, h.L⟩
mutual
theorem R_noref {E E' : Env} (h : Lee false E E') : ∀ (v : V) (c : Nat → Option Value) (o : Nat), noref v → R E v c o → R E' v c o
  | .ref .., _, _, hn, _ | .rref .., _, _, hn, _ | .sl .., _, _, hn, _ | .slx .., _, _, hn, _ => by simp only [noref] at hn
  | .row sz n f, c, o, hn, hr => by
    simp only [noref] at hn
    simp only [R] at hr ⊢
    exact fun k hk => ⟨(hr k hk).1, R_noref h (f k) _ _ (hn k hk) (hr k hk).2⟩
  | .st l, c, o, hn, hr => by
    simp only [noref] at hn
    simp only [R] at hr ⊢
    exact RL_noref h l c o hn hr
  | .fn f l, c, o, hn, hr => by
    simp only [noref] at hn
    simp only [R] at hr ⊢
    obtain ⟨xs, h1, h2, h3, h4⟩ := hr
    exact ⟨xs, h1, h2, h3, RL_noref h l _ _ hn h4⟩
  | .iface t v, c, o, hn, hr => by
    simp only [noref] at hn
    simp only [R] at hr ⊢
    obtain ⟨x, h1, h2, h3⟩ := hr
    exact ⟨x, h1, h2, R_noref h v _ _ hn h3⟩
  | .pim l v, c, o, _, hr => by
    simp only [R] at hr ⊢
    obtain ⟨b, off, h1, h2, h3⟩ := hr
    exact ⟨b, off, h1, by cases l <;> first | exact h.S b h2 | exact h.L rfl b h2, by rw [h.w]; exact R_bareL h v _ _ h3⟩
  | .imm l sz n f, c, o, _, hr => by
    simp only [R] at hr ⊢
    obtain ⟨a, cp, h1, h2, h3⟩ := hr
    exact ⟨a, cp, h1, h2, h3.imp id fun ⟨b, off, h4, h5, h6⟩ => ⟨b, off, h4, by cases l <;> first | exact h.S b h5 | exact h.L rfl b h5, fun k hk => ⟨(h6 k hk).1, by rw [h.w]; exact R_bareL h (f k) _ _ (h6 k hk).2⟩⟩⟩
  | .tup _, c, o, _, hr => by simp only [R] at hr
  | .int .., c, o, _, hr | .tt, c, o, _, hr | .ff, c, o, _, hr | .bool _, c, o, _, hr | .str _, c, o, _, hr | .nilp, c, o, _, hr | .emp, c, o, _, hr | .nilf, c, o, _, hr | .nili, c, o, _, hr | .any, c, o, _, hr => by simpa only [R] using hr
theorem RL_noref {E E' : Env} (h : Lee false E E') : ∀ (l : Vs) (c : Nat → Option Value) (o : Nat), norefs l → RL E l c o → RL E' l c o
  | .nil, c, o, _, _ => by simp only [RL]
  | .cons v l, c, o, hn, hr => by
    simp only [norefs] at hn
    simp only [RL] at hr ⊢
    exact ⟨R_noref h v c o hn.1 hr.1, RL_noref h l c _ hn.2 hr.2⟩
theorem R_bareL {E E' : Env} (h : Lee false E E') : ∀ (v : V) (c : Nat → Option Value) (o : Nat), R E.bare v c o → R E'.bare v c o
  | .ref .., c, o, hr => by simp only [R] at hr; exact absurd hr.1 (Nat.not_lt_zero _)
  | .rref .., c, o, hr => by simp only [R] at hr; exact absurd hr.1 (Nat.not_lt_zero _)
  | .sl .., c, o, hr => by simp only [R] at hr; exact absurd hr.1 (Nat.not_lt_zero _)
  | .slx .., c, o, hr => by simp only [R] at hr; exact absurd hr.1 (Nat.not_lt_zero _)
  | .row sz n f, c, o, hr => by
    simp only [R] at hr ⊢
    exact fun k hk => ⟨(hr k hk).1, R_bareL h (f k) _ _ (hr k hk).2⟩
  | .st l, c, o, hr => by
    simp only [R] at hr ⊢
    exact RL_bareL h l c o hr
  | .fn f l, c, o, hr => by
    simp only [R] at hr ⊢
    obtain ⟨xs, h1, h2, h3, h4⟩ := hr
    exact ⟨xs, h1, h2, h3, RL_bareL h l _ _ h4⟩
  | .iface t v, c, o, hr => by
    simp only [R] at hr ⊢
    obtain ⟨x, h1, h2, h3⟩ := hr
    exact ⟨x, h1, h2, R_bareL h v _ _ h3⟩
  | .pim l v, c, o, hr => by
    simp only [R] at hr ⊢
    obtain ⟨b, off, h1, h2, h3⟩ := hr
    exact ⟨b, off, h1, by cases l <;> first | exact h.S b h2 | exact h.L rfl b h2, by show R E'.bare v (cellsAt E'.w b) off; rw [h.w]; exact R_bareL h v _ _ h3⟩
  | .imm l sz n f, c, o, hr => by
    simp only [R] at hr ⊢
    obtain ⟨a, cp, h1, h2, h3⟩ := hr
    exact ⟨a, cp, h1, h2, h3.imp id fun ⟨b, off, h4, h5, h6⟩ => ⟨b, off, h4, by cases l <;> first | exact h.S b h5 | exact h.L rfl b h5, fun k hk => ⟨(h6 k hk).1, by show R E'.bare (f k) (cellsAt E'.w b) (off + k * sz); rw [h.w]; exact R_bareL h (f k) _ _ (h6 k hk).2⟩⟩⟩
  | .tup _, c, o, hr => by simp only [R] at hr
  | .int .., c, o, hr | .tt, c, o, hr | .ff, c, o, hr | .bool _, c, o, hr | .str _, c, o, hr | .nilp, c, o, hr | .emp, c, o, hr | .nilf, c, o, hr | .nili, c, o, hr | .any, c, o, hr => by simpa only [R] using hr
theorem RL_bareL {E E' : Env} (h : Lee false E E') : ∀ (l : Vs) (c : Nat → Option Value) (o : Nat), RL E.bare l c o → RL E'.bare l c o
  | .nil, c, o, _ => by simp only [RL]
  | .cons v l, c, o, hr => by
    simp only [RL] at hr ⊢
    exact ⟨R_bareL h v c o hr.1, RL_bareL h l c _ hr.2⟩
end
mutual
theorem R_own {E E' : Env} (h : Lee true E E') : ∀ (v : V) (c : Nat → Option Value) (o : Nat), own v → R E v c o → R E' v c o
  | .ref .., _, _, hn, _ | .rref .., _, _, hn, _ | .sl .., _, _, hn, _ | .slx .., _, _, hn, _ => by simp only [own] at hn
  | .row sz n f, c, o, hn, hr => by
    simp only [own] at hn
    simp only [R] at hr ⊢
    exact fun k hk => ⟨(hr k hk).1, R_own h (f k) _ _ (hn k hk) (hr k hk).2⟩
  | .st l, c, o, hn, hr => by
    simp only [own] at hn
    simp only [R] at hr ⊢
    exact RL_own h l c o hn hr
  | .fn f l, c, o, hn, hr => by
    simp only [own] at hn
    simp only [R] at hr ⊢
    obtain ⟨xs, h1, h2, h3, h4⟩ := hr
    exact ⟨xs, h1, h2, h3, RL_own h l _ _ hn h4⟩
  | .iface t v, c, o, hn, hr => by
    simp only [own] at hn
    simp only [R] at hr ⊢
    obtain ⟨x, h1, h2, h3⟩ := hr
    exact ⟨x, h1, h2, R_own h v _ _ hn h3⟩
  | .pim l v, c, o, hn, hr => by
    cases l
    · simp only [own] at hn
      simp only [R] at hr ⊢
      obtain ⟨b, off, h1, h2, h3⟩ := hr
      exact ⟨b, off, h1, h.S b h2, by rw [h.w]; exact R_own h.bare v _ _ hn h3⟩
    · simp only [own] at hn
  | .imm l sz n f, c, o, hn, hr => by
    cases l
    · simp only [own] at hn
      simp only [R] at hr ⊢
      obtain ⟨a, cp, h1, h2, h3⟩ := hr
      exact ⟨a, cp, h1, h2, h3.imp id fun ⟨b, off, h4, h5, h6⟩ => ⟨b, off, h4, h.S b h5, fun k hk => ⟨(h6 k hk).1, by rw [h.w]; exact R_own h.bare (f k) _ _ (hn k hk) (h6 k hk).2⟩⟩⟩
    · simp only [own] at hn
  | .tup _, c, o, _, hr => by simp only [R] at hr
  | .int .., c, o, _, hr | .tt, c, o, _, hr | .ff, c, o, _, hr | .bool _, c, o, _, hr | .str _, c, o, _, hr | .nilp, c, o, _, hr | .emp, c, o, _, hr | .nilf, c, o, _, hr | .nili, c, o, _, hr | .any, c, o, _, hr => by simpa only [R] using hr
theorem RL_own {E E' : Env} (h : Lee true E E') : ∀ (l : Vs) (c : Nat → Option Value) (o : Nat), owns l → RL E l c o → RL E' l c o
  | .nil, c, o, _, _ => by simp only [RL]
  | .cons v l, c, o, hn, hr => by
    simp only [owns] at hn
    simp only [RL] at hr ⊢
    exact ⟨R_own h v c o hn.1 hr.1, RL_own h l c _ hn.2 hr.2⟩
end
theorem norefs_get : ∀ {l : Vs} {k : Nat}, norefs l → noref (l.get k)
  | .nil, _, _ => by simp [Vs.get, noref]
  | .cons v l, 0, h => by simp only [norefs] at h; exact h.1
  | .cons v l, k + 1, h => by simp only [norefs] at h; exact norefs_get (l := l) h.2
theorem owns_get : ∀ {l : Vs} {k : Nat}, owns l → own (l.get k)
  | .nil, _, _ => by simp [Vs.get, own]
  | .cons v l, 0, h => by simp only [owns] at h; exact h.1
  | .cons v l, k + 1, h => by simp only [owns] at h; exact owns_get (l := l) h.2
theorem T_noref {E E' : Env} (h : Lee false E E') {v : V} {x : Value} (hn : noref v) (ht : T E v x) : T E' v x := by
  cases v
  case any => trivial
  case tup l =>
    simp only [noref] at hn
    obtain ⟨xs, h1, h2, h3⟩ := ht
    refine ⟨xs, h1, h2, fun k y hk => ?_⟩
    have h4 := h3 k y hk
    have h5 := norefs_get (k := k) hn
    generalize l.get k = u at h4 h5 ⊢
    cases u <;> first | trivial | exact ⟨h4.1, h4.2.1, R_noref h _ _ _ h5 h4.2.2⟩
  all_goals exact ⟨ht.1, R_noref h _ _ _ hn ht.2⟩
theorem T_own {E E' : Env} (h : Lee true E E') {v : V} {x : Value} (hn : own v) (ht : T E v x) : T E' v x := by
  cases v
  case any => trivial
  case tup l =>
    simp only [own] at hn
    obtain ⟨xs, h1, h2, h3⟩ := ht
    refine ⟨xs, h1, h2, fun k y hk => ?_⟩
    have h4 := h3 k y hk
    have h5 := owns_get (k := k) hn
    generalize l.get k = u at h4 h5 ⊢
    cases u <;> first | trivial | exact ⟨h4.1, h4.2.1, R_own h _ _ _ h5 h4.2.2⟩
  all_goals exact ⟨ht.1, R_own h _ _ _ hn ht.2⟩
end Go.DD

/- A call: what its arguments are to the callee, what its result is to the caller. -/
namespace Go.DD
set_option linter.unusedVariables false
set_option linter.unusedSimpArgs false
open Go.RowKit

mutual
/-- Does it tell of variables (but in rows)? -/
def hasRef : V → Bool
  | .ref .. | .rref .. | .sl .. | .slx .. => true
  | .st l => hasRefs l
  | _ => false
def hasRefs : Vs → Bool
  | .nil => false
  | .cons v l => hasRef v || hasRefs l
end
/-- One of the first elements? -/
def anyRef (f : Nat → V) (lo : Nat) : Nat → Bool
  | 0 => false
  | n + 1 => hasRef (f lo) || anyRef f (lo + 1) n
def sl1 (h : Heap) (i : Nat) (p : List Step) (sz lo len : Nat) : V :=
  match hget h i with
  | some c => (match sub c p with | .row _ _ f => .imm true sz len fun k => f (lo + k) | _ => .emp)
  | none => .emp
mutual
/-- An element of a row that is handed over: rows that it tells of are lent. -/
def exV (h : Heap) : V → V
  | .sl i p sz lo len _ => sl1 h i p sz lo len
  | .slx .. => .any
  | .st l => .st (exVs h l)
  | .ref i p => .ref i p
  | .rref i p sz lo n => .rref i p sz lo n
  | .row sz n g => .row sz n g
  | .fn g l => .fn g l
  | .iface t v => .iface t v
  | .tup l => .tup l
  | .pim l v => .pim l v
  | .imm l sz n g => .imm l sz n g
  | .int k n => .int k n
  | .tt => .tt
  | .ff => .ff
  | .bool b => .bool b
  | .str s => .str s
  | .nilp => .nilp
  | .emp => .emp
  | .nilf => .nilf
  | .nili => .nili
  | .any => .any
def exVs (h : Heap) : Vs → Vs
  | .nil => .nil
  | .cons v l => .cons (exV h v) (exVs h l)
end
mutual
def exOk (h : Heap) : V → Prop
  | .sl i p sz lo len _ => match hget h i with
    | some c => okq c p (match sub c p with
      | .row sz' n f => Ob (sz = sz' ∧ lo + len ≤ n) ∧ Ob (∀ k, k < len → noref (f (lo + k)))
      | _ => False)
    | none => False
  | .st l => exOks h l
  | .ref .. | .rref .. | .slx .. => False
  | .row _ n f => ∀ k, k < n → noref (f k)
  | .fn _ l => norefs l
  | .iface _ v => noref v
  | .tup l => False
  | _ => True
def exOks (h : Heap) : Vs → Prop
  | .nil => True
  | .cons v l => exOk h v ∧ exOks h l
end
mutual
/-- What a value of the caller's is to a callee that changes nothing of the caller's. -/
def expV (h : Heap) : V → (V → Prop) → Prop
  | .sl i p sz lo len _, κ => match hget h i with
    | some c => okq c p (match sub c p with
      | .row sz' n f => match Nat.beq sz sz' with
        | true => match anyRef f lo 8 with
          | false => Ob (lo + len ≤ n) ∧ Ob (∀ k, k < len → noref (f (lo + k))) ∧ κ (.imm true sz len fun k => f (lo + k))
          | true => Ob (lo + len ≤ n) ∧ Ob (∀ k, k < len → exOk h (f (lo + k))) ∧ κ (.imm true sz len fun k => if k < len then exV h (f (lo + k)) else .any)
        | false => False
      | _ => False)
    | none => False
  | .ref i p, κ => match hget h i with
    | some c => okq c p (Ob (noref (sub c p) ∧ vsize (sub c p) ≠ 0) ∧ κ (.pim true (sub c p)))
    | none => False
  | .rref i p sz lo n, κ => match hget h i with
    | some c => okq c p (match sub c p with
      | .row sz' m f => match Nat.beq sz sz' with
        | true => Ob (lo + n ≤ m ∧ n ≠ 0) ∧ Ob (∀ k, k < n → noref (f (lo + k))) ∧ κ (.pim true (.row sz n fun k => f (lo + k)))
        | false => False
      | _ => False)
    | none => False
  | .row sz n f, κ => Ob (∀ k, k < n → noref (f k)) ∧ κ (.row sz n f)
  | .st l, κ => expVs h l fun l' => κ (.st l')
  | .fn g l, κ => expVs h l fun l' => κ (.fn g l')
  | .iface t v, κ => expV h v fun v' => κ (.iface t v')
  | .tup _, _ | .slx .., _ => False
  | .pim l v, κ => κ (.pim l v)
  | .int k n, κ => κ (.int k n)
  | .tt, κ => κ .tt
  | .ff, κ => κ .ff
  | .bool b, κ => κ (.bool b)
  | .str s, κ => κ (.str s)
  | .nilp, κ => κ .nilp
  | .emp, κ => κ .emp
  | .imm l sz n f, κ => κ (.imm l sz n f)
  | .nilf, κ => κ .nilf
  | .nili, κ => κ .nili
  | .any, κ => κ .any
def expVs (h : Heap) : Vs → (Vs → Prop) → Prop
  | .nil, κ => κ .nil
  | .cons v l, κ => expV h v fun v' => expVs h l fun l' => κ (.cons v' l')
end
def expL (h : Heap) : List V → (List V → Prop) → Prop
  | [], κ => κ []
  | v :: l, κ => expV h v fun v' => expL h l fun l' => κ (v' :: l')

mutual
theorem expV_sng {h : Heap} : ∀ (v : V) (κ : V → Prop), expV h v κ → ∃ v', κ v' ∧ ∀ κ' : V → Prop, κ' v' → expV h v κ'
  | .sl i p sz lo len cap, κ, hd => by
    simp only [expV] at hd ⊢
    split at hd
    · obtain ⟨h1, h2⟩ := okq_sng _ _ _ hd
      split at h1
      · split at h1
        · split at h1
          · exact ⟨_, h1.2.2, fun κ' h' => by simp only [*]; exact h2 _ ⟨trivial, trivial, trivial⟩⟩
          · exact ⟨_, h1.2.2, fun κ' h' => by simp only [*]; exact h2 _ ⟨trivial, trivial, trivial⟩⟩
        · exact h1.elim
      · exact h1.elim
    · exact hd.elim
  | .ref i p, κ, hd => by
    simp only [expV] at hd ⊢
    split at hd
    · obtain ⟨h1, h2⟩ := okq_sng _ _ _ hd
      exact ⟨_, h1.2, fun κ' h' => by simp only [*]; exact h2 _ ⟨trivial, trivial⟩⟩
    · exact hd.elim
  | .rref i p sz lo n, κ, hd => by
    simp only [expV] at hd ⊢
    split at hd
    · obtain ⟨h1, h2⟩ := okq_sng _ _ _ hd
      split at h1
      · split at h1
        · exact ⟨_, h1.2.2, fun κ' h' => by simp only [*]; exact h2 _ ⟨trivial, trivial, trivial⟩⟩
        · exact h1.elim
      · exact h1.elim
    · exact hd.elim
  | .row sz n f, κ, hd => by simp only [expV] at hd ⊢; exact ⟨_, hd.2, fun κ' h' => ⟨hd.1, h'⟩⟩
  | .st l, κ, hd => by
    simp only [expV] at hd ⊢
    obtain ⟨l', h1, h2⟩ := expVs_sng l _ hd
    exact ⟨_, h1, fun κ' h' => h2 _ h'⟩
  | .fn g l, κ, hd => by
    simp only [expV] at hd ⊢
    obtain ⟨l', h1, h2⟩ := expVs_sng l _ hd
    exact ⟨_, h1, fun κ' h' => h2 _ h'⟩
  | .iface t v, κ, hd => by
    simp only [expV] at hd ⊢
    obtain ⟨l', h1, h2⟩ := expV_sng v _ hd
    exact ⟨_, h1, fun κ' h' => h2 _ h'⟩
  | .tup _, κ, hd | .slx .., κ, hd => by simp only [expV] at hd
  | .int .., κ, hd | .tt, κ, hd | .ff, κ, hd | .bool _, κ, hd | .str _, κ, hd | .nilp, κ, hd | .pim .., κ, hd | .emp, κ, hd | .imm .., κ, hd | .nilf, κ, hd | .nili, κ, hd | .any, κ, hd => by
    simp only [expV] at hd ⊢; exact ⟨_, hd, fun κ' h' => h'⟩
theorem expVs_sng {h : Heap} : ∀ (l : Vs) (κ : Vs → Prop), expVs h l κ → ∃ l', κ l' ∧ ∀ κ' : Vs → Prop, κ' l' → expVs h l κ'
  | .nil, κ, hd => by simp only [expVs] at hd ⊢; exact ⟨_, hd, fun κ' h' => h'⟩
  | .cons v l, κ, hd => by
    simp only [expVs] at hd ⊢
    obtain ⟨v', h1, h2⟩ := expV_sng v _ hd
    obtain ⟨l', h3, h4⟩ := expVs_sng l _ h1
    exact ⟨_, h3, fun κ' h' => h2 _ (h4 _ h')⟩
end
theorem expL_sng {h : Heap} : ∀ (l : List V) (κ : List V → Prop), expL h l κ → ∃ l', κ l' ∧ ∀ κ' : List V → Prop, κ' l' → expL h l κ'
  | [], κ, hd => ⟨_, hd, fun κ' h' => h'⟩
  | v :: l, κ, hd => by
    simp only [expL] at hd ⊢
    obtain ⟨v', h1, h2⟩ := expV_sng v _ hd
    obtain ⟨l', h3, h4⟩ := expL_sng l _ h1
    exact ⟨_, h3, fun κ' h' => h2 _ (h4 _ h')⟩
theorem sl1_snoc {h : Heap} {z c : V} {i : Nat} (hc : hget h i = some c) (p : List Step) (sz lo len : Nat) : sl1 (hsnoc h z) i p sz lo len = sl1 h i p sz lo len := by
  simp only [sl1, hget_snoc hc, hc]
mutual
theorem exV_snoc {h : Heap} {z : V} : ∀ v, exOk h v → exV (hsnoc h z) v = exV h v ∧ exOk (hsnoc h z) v
  | .sl i p sz lo len cap, hk => by
    simp only [exOk, exV] at hk ⊢
    split at hk
    · rename_i c hc
      refine ⟨sl1_snoc hc .., ?_⟩
      simp only [hget_snoc hc]
      exact hk
    · exact hk.elim
  | .st l, hk => by
    simp only [exOk, exV] at hk ⊢
    obtain ⟨h1, h2⟩ := exVs_snoc l hk
    exact ⟨by rw [h1], h2⟩
  | .ref .., hk | .rref .., hk | .tup _, hk | .slx .., hk => by simp only [exOk] at hk
  | .row .., hk | .fn .., hk | .iface .., hk | .pim .., hk | .imm .., hk | .int .., hk | .tt, hk | .ff, hk | .bool _, hk | .str _, hk | .nilp, hk | .emp, hk | .nilf, hk | .nili, hk | .any, hk => by
    simp only [exOk, exV] at hk ⊢
    exact ⟨trivial, hk⟩
theorem exVs_snoc {h : Heap} {z : V} : ∀ l, exOks h l → exVs (hsnoc h z) l = exVs h l ∧ exOks (hsnoc h z) l
  | .nil, _ => by simp only [exVs, exOks]; exact ⟨trivial, trivial⟩
  | .cons v l, hk => by
    simp only [exVs, exOks] at hk ⊢
    obtain ⟨h1, h2⟩ := exV_snoc v hk.1
    obtain ⟨h3, h4⟩ := exVs_snoc l hk.2
    exact ⟨by rw [h1, h3], h2, h4⟩
end
mutual
/-- The same beside one variable more. -/
theorem expV_snoc {h : Heap} {z : V} : ∀ (v : V) (κ : V → Prop), expV h v κ → expV (hsnoc h z) v κ
  | .sl i p sz lo len cap, κ, hd => by
    simp only [expV] at hd ⊢
    split at hd
    · rename_i c hc
      rw [hget_snoc hc]
      obtain ⟨h2, h1⟩ := okq_sng _ _ _ hd
      refine h1 _ ?_
      split at h2
      · split at h2
        · split at h2
          · exact h2
          · obtain ⟨h3, ⟨h4⟩, h5⟩ := h2
            refine ⟨h3, ⟨fun k hk => (exV_snoc _ (h4 k hk)).2⟩, ?_⟩
            refine cast (congrArg κ (congrArg (V.imm true _ len) (funext fun k => ?_))) h5
            by_cases hk : k < len
            · rw [if_pos hk, if_pos hk, (exV_snoc _ (h4 k hk)).1]
            · rw [if_neg hk, if_neg hk]
        · exact h2.elim
      · exact h2.elim
    · exact hd.elim
  | .ref i p, κ, hd => by
    simp only [expV] at hd ⊢
    split at hd
    · rename_i c hc
      rw [hget_snoc hc]
      exact hd
    · exact hd.elim
  | .rref i p sz lo n, κ, hd => by
    simp only [expV] at hd ⊢
    split at hd
    · rename_i c hc
      rw [hget_snoc hc]
      exact hd
    · exact hd.elim
  | .row sz n f, κ, hd => by simp only [expV] at hd ⊢; exact hd
  | .st l, κ, hd => by simp only [expV] at hd ⊢; exact expVs_snoc l _ hd
  | .fn g l, κ, hd => by simp only [expV] at hd ⊢; exact expVs_snoc l _ hd
  | .iface t v, κ, hd => by simp only [expV] at hd ⊢; exact expV_snoc v _ hd
  | .tup _, κ, hd | .slx .., κ, hd => by simp only [expV] at hd
  | .int .., κ, hd | .tt, κ, hd | .ff, κ, hd | .bool _, κ, hd | .str _, κ, hd | .nilp, κ, hd | .pim .., κ, hd | .emp, κ, hd | .imm .., κ, hd | .nilf, κ, hd | .nili, κ, hd | .any, κ, hd => by
    simp only [expV] at hd ⊢; exact hd
theorem expVs_snoc {h : Heap} {z : V} : ∀ (l : Vs) (κ : Vs → Prop), expVs h l κ → expVs (hsnoc h z) l κ
  | .nil, κ, hd => by simp only [expVs] at hd ⊢; exact hd
  | .cons v l, κ, hd => by
    simp only [expVs] at hd ⊢
    obtain ⟨v', h1, h2⟩ := expV_sng v _ hd
    exact expV_snoc v _ (h2 _ (expVs_snoc l _ h1))
end
theorem expL_snoc {h : Heap} {z : V} : ∀ (l : List V) (κ : List V → Prop), expL h l κ → expL (hsnoc h z) l κ
  | [], κ, hd => hd
  | v :: l, κ, hd => by
    simp only [expL] at hd ⊢
    obtain ⟨v', h1, h2⟩ := expV_sng v _ hd
    exact expV_snoc v _ (h2 _ (expL_snoc l _ h1))

/-- The callee's environment: all that there is is kept. -/
def Env.callee (E : Env) : Env := { w := E.w, ρ := fun _ => 0, vt := fun _ => false, N := 0, S := E.S, L := fun b => b < E.w.heap.size, K := fun b => b < E.w.heap.size }
theorem Env.callee_wf {E : Env} (hw : Wf E) : Wf E.callee := ⟨fun b hb => hw.K b (hw.S b hb), fun _ h => h, fun _ h => h⟩
theorem Env.callee_lee {E : Env} (hw : Wf E) : Lee false E E.callee := ⟨rfl, fun _ h => h, fun _ b hb => hw.K b (hw.L b hb)⟩

theorem live_cells {E : Env} {h : Heap} (hs : SimH E h) {i : Nat} {c : V} (hc : hget h i = some c) :
    (E.vt i = true ∧ ∃ sz f, c = .row sz 0 f) ∨ (E.vt i = false ∧ E.ρ i < E.w.heap.size ∧ ¬ E.K (E.ρ i) ∧ R E c (cellsAt E.w (E.ρ i)) 0) := by
  rcases hs.live i c ((hget_eq h i c).1 hc) with h1 | ⟨h1, h2, cs, t, h3, h4, h5⟩
  · exact .inl h1
  · refine .inr ⟨h1, (Array.getElem?_eq_some_iff.1 h3).1, h2, ?_⟩
    have : cellsAt E.w (E.ρ i) = fun q => cs[q]? := by funext q; simp [cellsAt, World.cell?, h3]
    rw [this]; exact h5
theorem okp_virtual {sz : Nat} {f : Nat → V} {p : List Step} (h : okp (.row sz 0 f) p) : p = [] := by
  cases p with
  | nil => rfl
  | cons s p =>
    rcases okp_cases h with ⟨l, k, off, he, _⟩ | ⟨sz', n, f', k, he, _, hkn, _⟩
    · cases he
    · cases he; omega

section
variable {E : Env} {h : Heap}
mutual
theorem exV_ok (hw : Wf E) (hs : SimH E h) : ∀ (v : V), exOk h v → ∀ c o, R E v c o → vsize (exV h v) = vsize v ∧ R E.callee.bare (exV h v) c o
  | .sl i p sz lo len cap, hk, c, o, hr => by
    simp only [exOk] at hk
    split at hk
    · rename_i cc hc
      obtain ⟨hp, hk⟩ := okq_okp _ _ _ hk
      split at hk
      · rename_i sz' n f hsub
        obtain ⟨⟨rfl, h1⟩, ⟨h2⟩⟩ := hk
        simp only [exV, sl1, hc, hsub]
        refine ⟨rfl, ?_⟩
        simp only [R] at hr ⊢
        obtain ⟨hi, a, cp, h3, h4, h5, h6⟩ := hr
        refine ⟨a, cp, h3, by omega, ?_⟩
        by_cases hlen : len = 0
        · exact .inl hlen
        refine .inr ?_
        rcases h6 with h6 | ⟨h6, h7, _⟩
        · omega
        rcases live_cells hs hc with ⟨h8, _⟩ | ⟨_, h8, _, h9⟩
        · rw [h6] at h8; cases h8
        refine ⟨E.ρ i, poff p + lo * sz, h7, h8, fun k hk => ?_⟩
        have h10 := R_sub p cc _ 0 hp h9
        rw [hsub] at h10
        simp only [R] at h10
        have h11 := h10 (lo + k) (by omega)
        refine ⟨h11.1, ?_⟩
        have h12 := R_noref (E := E) (E' := E.callee.bare) ⟨rfl, fun _ h => h, fun _ b hb => hw.K b (hw.L b hb)⟩ _ _ _ (h2 k hk) h11.2
        rw [Nat.zero_add, Nat.add_mul, ← Nat.add_assoc] at h12
        exact h12
      · exact hk.elim
    · exact hk.elim
  | .st l, hk, c, o, hr => by
    simp only [exOk, R] at hk hr
    simp only [exV, vsize, R]
    exact exVs_ok hw hs l hk c o hr
  | .ref .., hk, c, o, hr | .rref .., hk, c, o, hr | .tup _, hk, c, o, hr | .slx .., hk, c, o, hr => by simp only [exOk] at hk
  | .row .., hk, c, o, hr | .fn .., hk, c, o, hr | .iface .., hk, c, o, hr | .pim .., hk, c, o, hr | .imm .., hk, c, o, hr | .int .., hk, c, o, hr | .tt, hk, c, o, hr | .ff, hk, c, o, hr | .bool _, hk, c, o, hr | .str _, hk, c, o, hr | .nilp, hk, c, o, hr | .emp, hk, c, o, hr | .nilf, hk, c, o, hr | .nili, hk, c, o, hr | .any, hk, c, o, hr => by
    simp only [exOk] at hk
    simp only [exV]
    exact ⟨trivial, R_noref (E := E) (E' := E.callee.bare) ⟨rfl, fun _ h => h, fun _ b hb => hw.K b (hw.L b hb)⟩ _ _ _ (by first | (simp only [noref]; done) | (simp only [noref]; exact hk)) hr⟩
theorem exVs_ok (hw : Wf E) (hs : SimH E h) : ∀ (l : Vs), exOks h l → ∀ c o, RL E l c o → vsizes (exVs h l) = vsizes l ∧ RL E.callee.bare (exVs h l) c o
  | .nil, _, c, o, _ => by simp only [exVs, RL]; exact ⟨trivial, trivial⟩
  | .cons v l, hk, c, o, hr => by
    simp only [exOks, RL] at hk hr
    obtain ⟨h1, h2⟩ := exV_ok hw hs v hk.1 c o hr.1
    obtain ⟨h3, h4⟩ := exVs_ok hw hs l hk.2 c _ hr.2
    simp only [exVs, RL, vsizes, h1, h3]
    exact ⟨trivial, h2, h4⟩
end
mutual
theorem expV_ok (hw : Wf E) (hs : SimH E h) : ∀ (v : V) (κ : V → Prop), expV h v κ → ∃ v', κ v' ∧ v'.isAgg = v.isAgg ∧ v'.isTup = false ∧ vsize v' = vsize v ∧ (v = .any → v' = .any) ∧ ∀ c o, R E v c o → R E.callee v' c o
  | .sl i p sz lo len cap, κ, hd => by
    simp only [expV] at hd
    split at hd
    · rename_i cc hc
      obtain ⟨hp, hk⟩ := okq_okp _ _ _ hd
      split at hk
      · rename_i sz' n f hsub
        split at hk
        · rename_i hb
          rw [Nat.beq_eq] at hb
          subst hb
          split at hk
          · obtain ⟨⟨h1⟩, ⟨h2⟩, hk⟩ := hk
            refine ⟨_, hk, rfl, rfl, rfl, fun e => (by cases e), fun c o hr => ?_⟩
            simp only [R] at hr ⊢
            obtain ⟨hi, a, cp, h3, h4, h5, h6⟩ := hr
            refine ⟨a, cp, h3, by omega, ?_⟩
            by_cases hlen : len = 0
            · exact .inl hlen
            refine .inr ?_
            rcases h6 with h6 | ⟨h6, h7, _⟩
            · omega
            rcases live_cells hs hc with ⟨h8, _⟩ | ⟨_, h8, _, h9⟩
            · rw [h6] at h8; cases h8
            refine ⟨E.ρ i, poff p + lo * sz, h7, h8, fun k hk => ?_⟩
            have h10 := R_sub p cc _ 0 hp h9
            rw [hsub] at h10
            simp only [R] at h10
            have h11 := h10 (lo + k) (by omega)
            refine ⟨h11.1, ?_⟩
            have h12 := R_noref (E := E) (E' := E.callee.bare) ⟨rfl, fun _ h => h, fun _ b hb => hw.K b (hw.L b hb)⟩ _ _ _ (h2 k hk) h11.2
            rw [Nat.zero_add, Nat.add_mul, ← Nat.add_assoc] at h12
            exact h12
          · obtain ⟨⟨h1⟩, ⟨h2⟩, hk⟩ := hk
            refine ⟨_, hk, rfl, rfl, rfl, fun e => (by cases e), fun c o hr => ?_⟩
            simp only [R] at hr ⊢
            obtain ⟨hi, a, cp, h3, h4, h5, h6⟩ := hr
            refine ⟨a, cp, h3, by omega, ?_⟩
            by_cases hlen : len = 0
            · exact .inl hlen
            refine .inr ?_
            rcases h6 with h6 | ⟨h6, h7, _⟩
            · omega
            rcases live_cells hs hc with ⟨h8, _⟩ | ⟨_, h8, _, h9⟩
            · rw [h6] at h8; cases h8
            refine ⟨E.ρ i, poff p + lo * sz, h7, h8, fun k hk => ?_⟩
            have h10 := R_sub p cc _ 0 hp h9
            rw [hsub] at h10
            simp only [R] at h10
            have h11 := h10 (lo + k) (by omega)
            rw [if_pos hk]
            refine ⟨(exV_ok hw hs _ (h2 k hk) _ _ h11.2).1.trans h11.1, ?_⟩
            have h13 := exV_ok hw hs _ (h2 k hk) _ _ h11.2
            have h12 := h13.2
            rw [Nat.zero_add, Nat.add_mul, ← Nat.add_assoc] at h12
            exact h12
        · exact hk.elim
      · exact hk.elim
    · exact hd.elim
  | .ref i p, κ, hd => by
    simp only [expV] at hd
    split at hd
    · rename_i cc hc
      obtain ⟨hp, hk⟩ := okq_okp _ _ _ hd
      obtain ⟨⟨h1, h2⟩, hk⟩ := hk
      refine ⟨_, hk, rfl, rfl, rfl, fun e => (by cases e), fun c o hr => ?_⟩
      simp only [R] at hr ⊢
      rcases live_cells hs hc with ⟨_, sz, f, rfl⟩ | ⟨_, h8, _, h9⟩
      · rw [okp_virtual hp] at h2
        simp [sub, vsize] at h2
      · have h10 := R_sub p cc _ 0 hp h9
        rw [Nat.zero_add] at h10
        exact ⟨E.ρ i, poff p, hr.2, h8, R_noref (E := E) (E' := E.callee.bare) ⟨rfl, fun _ h => h, fun _ b hb => hw.K b (hw.L b hb)⟩ _ _ _ h1 h10⟩
    · exact hd.elim
  | .rref i p sz lo n, κ, hd => by
    simp only [expV] at hd
    split at hd
    · rename_i cc hc
      obtain ⟨hp, hk⟩ := okq_okp _ _ _ hd
      split at hk
      · rename_i sz' m f hsub
        split at hk
        · rename_i hb
          rw [Nat.beq_eq] at hb
          subst hb
          obtain ⟨⟨h1, h0⟩, ⟨h2⟩, hk⟩ := hk
          refine ⟨_, hk, rfl, rfl, rfl, fun e => (by cases e), fun c o hr => ?_⟩
          simp only [R] at hr ⊢
          rcases live_cells hs hc with ⟨_, sz', f', rfl⟩ | ⟨_, h8, _, h9⟩
          · rw [okp_virtual hp] at hsub
            simp only [sub, V.row.injEq] at hsub
            omega
          · have h10 := R_sub p cc _ 0 hp h9
            rw [hsub] at h10
            simp only [R] at h10
            refine ⟨E.ρ i, poff p + lo * sz, hr.2, h8, fun k hk => ?_⟩
            have h11 := h10 (lo + k) (by omega)
            refine ⟨h11.1, ?_⟩
            have h12 := R_noref (E := E) (E' := E.callee.bare) ⟨rfl, fun _ h => h, fun _ b hb => hw.K b (hw.L b hb)⟩ _ _ _ (h2 k hk) h11.2
            rw [Nat.zero_add, Nat.add_mul, ← Nat.add_assoc] at h12
            exact h12
        · exact hk.elim
      · exact hk.elim
    · exact hd.elim
  | .row sz n f, κ, hd => by
    simp only [expV] at hd
    exact ⟨_, hd.2, rfl, rfl, rfl, fun e => (by cases e), fun c o hr => R_noref (Env.callee_lee hw) (.row sz n f) c o (by simp only [noref]; exact hd.1.out) hr⟩
  | .st l, κ, hd => by
    simp only [expV] at hd
    obtain ⟨l', h1, h2, _, h4⟩ := expVs_ok hw hs l _ hd
    exact ⟨_, h1, rfl, rfl, by simp only [vsize, h2], fun e => (by cases e), fun c o hr => by simp only [R] at hr ⊢; exact h4 c o hr⟩
  | .fn g l, κ, hd => by
    simp only [expV] at hd
    obtain ⟨l', h1, h2, h3, h4⟩ := expVs_ok hw hs l _ hd
    exact ⟨_, h1, rfl, rfl, rfl, fun e => (by cases e), fun c o hr => by
      simp only [R] at hr ⊢
      obtain ⟨xs, h5, h6, h7, h8⟩ := hr
      exact ⟨xs, h5, by rw [h2]; exact h6, h3 h7, h4 _ _ h8⟩⟩
  | .iface t v, κ, hd => by
    simp only [expV] at hd
    obtain ⟨v', h1, h2, h3, h4, _, h5⟩ := expV_ok hw hs v _ hd
    exact ⟨_, h1, rfl, rfl, rfl, fun e => (by cases e), fun c o hr => by
      simp only [R] at hr ⊢
      obtain ⟨x, h6, h7, h8⟩ := hr
      exact ⟨x, h6, by unfold aggOk at h7 ⊢; rw [h2, h4]; exact h7, h5 _ _ h8⟩⟩
  | .tup _, κ, hd | .slx .., κ, hd => by simp only [expV] at hd
  | .int k n, κ, hd | .tt, κ, hd | .ff, κ, hd | .bool _, κ, hd | .str _, κ, hd | .nilp, κ, hd | .pim .., κ, hd | .emp, κ, hd | .imm .., κ, hd | .nilf, κ, hd | .nili, κ, hd | .any, κ, hd => by
    simp only [expV] at hd
    exact ⟨_, hd, rfl, rfl, rfl, fun e => e, fun c o hr => R_noref (Env.callee_lee hw) _ c o (by simp only [noref]) hr⟩
theorem expVs_ok (hw : Wf E) (hs : SimH E h) : ∀ (l : Vs) (κ : Vs → Prop), expVs h l κ → ∃ l', κ l' ∧ vsizes l' = vsizes l ∧ (l.flat = true → l'.flat = true) ∧ ∀ c o, RL E l c o → RL E.callee l' c o
  | .nil, κ, hd => by simp only [expVs] at hd; exact ⟨_, hd, rfl, fun h => h, fun c o _ => by simp only [RL]⟩
  | .cons v l, κ, hd => by
    simp only [expVs] at hd
    obtain ⟨v', h1, h2, h3, h4, _, h5⟩ := expV_ok hw hs v _ hd
    obtain ⟨l', h6, h7, h8, h9⟩ := expVs_ok hw hs l _ h1
    refine ⟨_, h6, by simp only [vsizes, h4, h7], fun hf => ?_, fun c o hr => ?_⟩
    · simp only [Vs.flat, Bool.and_eq_true, Bool.not_eq_true'] at hf ⊢
      exact ⟨⟨by rw [h2]; exact hf.1.1, h3⟩, h8 hf.2⟩
    · simp only [RL] at hr ⊢
      exact ⟨h5 _ _ hr.1, by rw [h4]; exact h9 _ _ hr.2⟩
end
end
end Go.DD

/- Contracts of functions that change nothing of their caller's. -/
namespace Go.DD
set_option linter.unusedVariables false
set_option linter.unusedSimpArgs false
open Go.RowKit

theorem expV_T {E : Env} {h : Heap} (hw : Wf E) (hs : SimH E h) {v : V} {κ : V → Prop} (hd : expV h v κ) : ∃ v', κ v' ∧ ∀ x, T E v x → T E.callee v' x := by
  obtain ⟨v', h1, h2, h3, h4, h5, h6⟩ := expV_ok hw hs v κ hd
  refine ⟨v', h1, fun x ht => ?_⟩
  by_cases hany : v = .any
  · rw [h5 hany]; trivial
  · have hnt : v.isTup = false := by
      cases v <;> first | rfl | (simp only [expV] at hd)
    have ht' : aggOk v x ∧ R E v (fun q => x.cells[q]?) 0 := by
      cases v <;> first | exact ht | exact absurd rfl hany | simp [V.isTup] at hnt
    have : aggOk v' x ∧ R E.callee v' (fun q => x.cells[q]?) 0 := ⟨by have := ht'.1; unfold aggOk at this ⊢; rw [h2, h4]; exact this, h6 _ _ ht'.2⟩
    cases v' <;> first | exact this | trivial | simp [V.isTup] at h3
theorem expL_T {E : Env} {h : Heap} (hw : Wf E) (hs : SimH E h) : ∀ (l : List V) (xs : List Value) (κ : List V → Prop), Ts E l xs → expL h l κ → ∃ l', κ l' ∧ Ts E.callee l' xs
  | [], [], κ, _, hd => ⟨[], hd, trivial⟩
  | v :: l, x :: xs, κ, ht, hd => by
    simp only [expL] at hd
    obtain ⟨v', h1, h2⟩ := expV_T hw hs hd
    obtain ⟨l', h3, h4⟩ := expL_T hw hs l xs _ ht.2 h1
    exact ⟨_, h3, h2 x ht.1, h4⟩
  | [], _ :: _, _, ht, _ => ht.elim
  | _ :: _, [], _, ht, _ => ht.elim

/-- What a function is known to do: for arguments like these, a result of which Φ holds; nothing that was there has changed. -/
def CP (P : Program) (gl : List (Nat × V)) (f : Nat) (as : List V) (Φ : V → Prop) : Prop :=
  ∀ (E : Env) (args : Array Value), Wf E → E.N = 0 → (∀ b, b < E.w.heap.size → E.K b) → GlOk gl E → Ts E as args.toList →
    UponV P (fun x w' => ∃ E' v, w' = E'.w ∧ Xt 0 E E' ∧ Wf E' ∧ T E' v x ∧ own v ∧ Φ v) ((callFunc f args).run P E.w)
/-- A contract: which arguments it takes, what it says of the result. -/
abbrev FSpec := List V → (V → Prop) → Prop
structure FOk (P : Program) (gl : List (Nat × V)) (f : Nat) (F : FSpec) : Prop where
  sng : ∀ as Φ, F as Φ → ∃ v, Φ v ∧ ∀ Φ' : V → Prop, Φ' v → F as Φ'
  ok : ∀ as Φ, F as Φ → CP P gl f as Φ
def callS (F : FSpec) : SpecP := fun as h κ => expL h as fun cs => F cs κ

theorem FOk.spec {P : Program} {gl : List (Nat × V)} {f : Nat} {F : FSpec} (hF : FOk P gl f F) : SpecPOk P gl f (callS F) := by
  refine ⟨?_, ?_, fun as h z κ hd => expL_snoc _ _ hd⟩
  · intro as h κ hd
    obtain ⟨cs, h1, h2⟩ := expL_sng _ _ hd
    obtain ⟨v, h3, h4⟩ := hF.sng _ _ h1
    exact ⟨v, h3, fun κ' h' => h2 _ (h4 _ h')⟩
  · intro E h as args κ hw hs hgl hts hd
    obtain ⟨cs, h1, h2⟩ := expL_T hw hs _ _ _ hts hd
    refine UponV.mono (hF.ok _ _ h1 E.callee args (Env.callee_wf hw) rfl (fun _ h => h) (fun p hp => ⟨(hgl p hp).1, R_bareL (Env.callee_lee hw) _ _ _ (hgl p hp).2⟩) h2) fun x w' ⟨E', v, e1, e2, e3, e4, e5, e6⟩ => ?_
    subst e1
    have hx : Ext E { E with w := E'.w, S := E'.S, K := fun b => E.K b ∨ E'.S b } := {
      os := e2.os, tape := e2.tape, output := e2.output, size := e2.size, N := Nat.le_refl _, ρ := fun _ _ => rfl, vt := fun _ _ => rfl
      S := e2.S, S' := fun b hb => (e2.S' b hb).imp id fun h hk => h (hw.K b hk), L := fun _ => Iff.rfl, K := fun _ h => .inl h
      kept := fun b hb => e2.kept b (hw.K b hb)
      cells := e2.cells }
    have hT : T { E with w := E'.w, S := E'.S, K := fun b => E.K b ∨ E'.S b } v x := T_own (E := E') (E' := { E with w := E'.w, S := E'.S, K := fun b => E.K b ∨ E'.S b }) ⟨rfl, fun _ h => h, fun h => (by cases h)⟩ e5 e4
    have hold : ∀ b, E'.S b → b < E.w.heap.size → E.S b := fun b hb hlt => (e2.S' b hb).elim id fun h => absurd hlt h
    refine ⟨{ E with w := E'.w, S := E'.S, K := fun b => E.K b ∨ E'.S b }, v, h, rfl, hx, ⟨fun b hb => .inr hb, fun b hb => .inl (hw.L b hb), fun b hb => ?_⟩, ⟨hs.len, fun i u hi => ?_, hs.inj⟩, hT, rfl, e6⟩
    · rcases hb with hb | hb
      · exact Nat.lt_of_lt_of_le (hw.K b hb) e2.size
      · exact e3.K b (e3.S b hb)
    · have hlt : E.vt i = false → E.ρ i < E.w.heap.size := fun hv => by
        rcases hs.live i u hi with ⟨h1, _⟩ | ⟨_, _, cs', t', h3, _⟩
        · rw [h1] at hv; cases hv
        · exact (Array.getElem?_eq_some_iff.1 h3).1
      refine (hs.live i u hi).ext hw hx (hs.lt hi) (fun hk hv hk' => ?_) (fun hv => e2.kept _ (hlt hv))
      rcases hk' with hk' | hk'
      · exact hk hk'
      · exact hk (hw.S _ (hold _ hk' (hlt hv)))

/-! ### A result -/
mutual
def outV (h : Heap) : V → (V → Prop) → Prop
  | .sl i p sz lo len _, κ => match hget h i with
    | some c => okq c p (match sub c p with
      | .row sz' n f => match Nat.beq sz sz' with
        | true => Ob (lo + len ≤ n) ∧ Ob (∀ k, k < len → own (f (lo + k))) ∧ κ (.imm false sz len fun k => f (lo + k))
        | false => False
      | _ => False)
    | none => False
  | .ref i p, κ => match hget h i with
    | some c => okq c p (Ob (own (sub c p) ∧ vsize (sub c p) ≠ 0) ∧ κ (.pim false (sub c p)))
    | none => False
  | .rref .., _ => False
  | .row sz n f, κ => Ob (∀ k, k < n → own (f k)) ∧ κ (.row sz n f)
  | .imm l sz n f, κ => match l with
    | true => False
    | false => Ob (∀ k, k < n → own (f k)) ∧ κ (.imm false sz n f)
  | .pim l v, κ => match l with
    | true => False
    | false => Ob (own v) ∧ κ (.pim false v)
  | .st l, κ => outVs h l fun l' => κ (.st l')
  | .fn g l, κ => outVs h l fun l' => κ (.fn g l')
  | .iface t v, κ => outV h v fun v' => κ (.iface t v')
  | .tup _, _ | .slx .., _ => False
  | .tt, κ => κ (.bool true)
  | .ff, κ => κ (.bool false)
  | .int k n, κ => κ (.int k n)
  | .bool b, κ => κ (.bool b)
  | .str s, κ => κ (.str s)
  | .nilp, κ => κ .nilp
  | .emp, κ => κ .emp
  | .nilf, κ => κ .nilf
  | .nili, κ => κ .nili
  | .any, κ => κ .any
def outVs (h : Heap) : Vs → (Vs → Prop) → Prop
  | .nil, κ => κ .nil
  | .cons v l, κ => outV h v fun v' => outVs h l fun l' => κ (.cons v' l')
end
/-- The environment in which a result stands: what was local is so no more. -/
def Env.out (E : Env) (h : Heap) : Env :=
  { E with N := 0, S := fun b => E.S b ∨ ∃ i v, h[i]? = some (some v) ∧ E.vt i = false ∧ E.ρ i = b, K := fun b => E.K b ∨ ∃ i v, h[i]? = some (some v) ∧ E.vt i = false ∧ E.ρ i = b }
theorem Env.out_lee {E : Env} {h : Heap} : Lee true E (E.out h) := ⟨rfl, fun _ h => .inl h, fun h => by cases h⟩
theorem Env.out_wf {E : Env} {h : Heap} (hw : Wf E) (hs : SimH E h) : Wf (E.out h) :=
  ⟨fun b hb => hb.imp (hw.S b) id, fun b hb => .inl (hw.L b hb), fun b hb => by
    rcases hb with hb | ⟨i, v, h1, h2, rfl⟩
    · exact hw.K b hb
    · rcases hs.live i v h1 with ⟨h3, _⟩ | ⟨_, _, cs', t', h3, _⟩
      · rw [h3] at h2; cases h2
      · exact (Array.getElem?_eq_some_iff.1 h3).1⟩
section
variable {E : Env} {h : Heap}
mutual
theorem outV_ok (hs : SimH E h) : ∀ (v : V) (κ : V → Prop), outV h v κ → ∃ v', κ v' ∧ own v' ∧ v'.isAgg = v.isAgg ∧ v'.isTup = false ∧ vsize v' = vsize v ∧ (v = .any → v' = .any) ∧ ∀ c o, R E v c o → R (E.out h) v' c o
  | .sl i p sz lo len cap, κ, hd => by
    simp only [outV] at hd
    split at hd
    · rename_i cc hc
      obtain ⟨hp, hk⟩ := okq_okp _ _ _ hd
      split at hk
      · rename_i sz' n f hsub
        split at hk
        · rename_i hb
          rw [Nat.beq_eq] at hb
          subst hb
          obtain ⟨⟨h1⟩, ⟨h2⟩, hk⟩ := hk
          refine ⟨_, hk, by simp only [own]; exact h2, rfl, rfl, rfl, fun e => (by cases e), fun c o hr => ?_⟩
          simp only [R] at hr ⊢
          obtain ⟨hi, a, cp, h3, h4, h5, h6⟩ := hr
          refine ⟨a, cp, h3, by omega, ?_⟩
          by_cases hlen : len = 0
          · exact .inl hlen
          refine .inr ?_
          rcases h6 with h6 | ⟨h6, h7, _⟩
          · omega
          rcases live_cells hs hc with ⟨h8, _⟩ | ⟨_, h8, _, h9⟩
          · rw [h6] at h8; cases h8
          refine ⟨E.ρ i, poff p + lo * sz, h7, .inr ⟨i, cc, (hget_eq h i cc).1 hc, h6, rfl⟩, fun k hk => ?_⟩
          have h10 := R_sub p cc _ 0 hp h9
          rw [hsub] at h10
          simp only [R] at h10
          have h11 := h10 (lo + k) (by omega)
          refine ⟨h11.1, ?_⟩
          have h12 := R_own (E := E) (E' := (E.out h).bare) ⟨rfl, fun _ h => .inl h, fun h => by cases h⟩ _ _ _ (h2 k hk) h11.2
          rw [Nat.zero_add, Nat.add_mul, ← Nat.add_assoc] at h12
          exact h12
        · exact hk.elim
      · exact hk.elim
    · exact hd.elim
  | .ref i p, κ, hd => by
    simp only [outV] at hd
    split at hd
    · rename_i cc hc
      obtain ⟨hp, hk⟩ := okq_okp _ _ _ hd
      obtain ⟨⟨h1, h2⟩, hk⟩ := hk
      refine ⟨_, hk, by simp only [own]; exact h1, rfl, rfl, rfl, fun e => (by cases e), fun c o hr => ?_⟩
      simp only [R] at hr ⊢
      rcases live_cells hs hc with ⟨_, sz, f, rfl⟩ | ⟨h6, h8, _, h9⟩
      · rw [okp_virtual hp] at h2
        simp [sub, vsize] at h2
      · have h10 := R_sub p cc _ 0 hp h9
        rw [Nat.zero_add] at h10
        exact ⟨E.ρ i, poff p, hr.2, .inr ⟨i, cc, (hget_eq h i cc).1 hc, h6, rfl⟩, R_own (E := E) (E' := (E.out h).bare) ⟨rfl, fun _ h => .inl h, fun h => by cases h⟩ _ _ _ h1 h10⟩
    · exact hd.elim
  | .rref i p sz lo n, κ, hd => by simp only [outV] at hd
  | .row sz n f, κ, hd => by
    simp only [outV] at hd
    have : own (.row sz n f) := by simp only [own]; exact hd.1.out
    exact ⟨_, hd.2, this, rfl, rfl, rfl, fun e => (by cases e), fun c o hr => R_own Env.out_lee _ c o this hr⟩
  | .imm l sz n f, κ, hd => by
    simp only [outV] at hd
    cases l
    · have : own (.imm false sz n f) := by simp only [own]; exact hd.1.out
      exact ⟨_, hd.2, this, rfl, rfl, rfl, fun e => (by cases e), fun c o hr => R_own Env.out_lee _ c o this hr⟩
    · exact hd.elim
  | .pim l v, κ, hd => by
    simp only [outV] at hd
    cases l
    · have : own (.pim false v) := by simp only [own]; exact hd.1.out
      exact ⟨_, hd.2, this, rfl, rfl, rfl, fun e => (by cases e), fun c o hr => R_own Env.out_lee _ c o this hr⟩
    · exact hd.elim
  | .st l, κ, hd => by
    simp only [outV] at hd
    obtain ⟨l', h1, h2, h3, _, h4⟩ := outVs_ok hs l _ hd
    exact ⟨_, h1, by simp only [own]; exact h3, rfl, rfl, by simp only [vsize, h2], fun e => (by cases e), fun c o hr => by simp only [R] at hr ⊢; exact h4 c o hr⟩
  | .fn g l, κ, hd => by
    simp only [outV] at hd
    obtain ⟨l', h1, h2, h3, h3', h4⟩ := outVs_ok hs l _ hd
    exact ⟨_, h1, by simp only [own]; exact h3, rfl, rfl, rfl, fun e => (by cases e), fun c o hr => by
      simp only [R] at hr ⊢
      obtain ⟨xs, h5, h6, h7, h8⟩ := hr
      exact ⟨xs, h5, by rw [h2]; exact h6, h3' h7, h4 _ _ h8⟩⟩
  | .iface t v, κ, hd => by
    simp only [outV] at hd
    obtain ⟨v', h1, h1', h2, h3, h4, _, h5⟩ := outV_ok hs v _ hd
    exact ⟨_, h1, by simp only [own]; exact h1', rfl, rfl, rfl, fun e => (by cases e), fun c o hr => by
      simp only [R] at hr ⊢
      obtain ⟨x, h6, h7, h8⟩ := hr
      exact ⟨x, h6, by unfold aggOk at h7 ⊢; rw [h2, h4]; exact h7, h5 _ _ h8⟩⟩
  | .tup _, κ, hd | .slx .., κ, hd => by simp only [outV] at hd
  | .tt, κ, hd | .ff, κ, hd => by
    simp only [outV] at hd
    exact ⟨_, hd, by simp only [own], rfl, rfl, rfl, fun e => (by cases e), fun c o hr => by simp only [R] at hr ⊢; exact hr⟩
  | .int k n, κ, hd | .bool _, κ, hd | .str _, κ, hd | .nilp, κ, hd | .emp, κ, hd | .nilf, κ, hd | .nili, κ, hd | .any, κ, hd => by
    simp only [outV] at hd
    exact ⟨_, hd, by simp only [own], rfl, rfl, rfl, fun e => e, fun c o hr => R_own Env.out_lee _ c o (by simp only [own]) hr⟩
theorem outVs_ok (hs : SimH E h) : ∀ (l : Vs) (κ : Vs → Prop), outVs h l κ → ∃ l', κ l' ∧ vsizes l' = vsizes l ∧ owns l' ∧ (l.flat = true → l'.flat = true) ∧ ∀ c o, RL E l c o → RL (E.out h) l' c o
  | .nil, κ, hd => by simp only [outVs] at hd; exact ⟨_, hd, rfl, by simp only [owns], fun h => h, fun c o _ => by simp only [RL]⟩
  | .cons v l, κ, hd => by
    simp only [outVs] at hd
    obtain ⟨v', h1, h1', h2, h3, h4, _, h5⟩ := outV_ok hs v _ hd
    obtain ⟨l', h6, h7, h7', h8, h9⟩ := outVs_ok hs l _ h1
    refine ⟨_, h6, by simp only [vsizes, h4, h7], by simp only [owns]; exact ⟨h1', h7'⟩, fun hf => ?_, fun c o hr => ?_⟩
    · simp only [Vs.flat, Bool.and_eq_true, Bool.not_eq_true'] at hf ⊢
      exact ⟨⟨by rw [h2]; exact hf.1.1, h3⟩, h8 hf.2⟩
    · simp only [RL] at hr ⊢
      exact ⟨h5 _ _ hr.1, by rw [h4]; exact h9 _ _ hr.2⟩
end
theorem outV_T (hs : SimH E h) {v : V} {κ : V → Prop} (hd : outV h v κ) : ∃ v', κ v' ∧ own v' ∧ v'.isTup = false ∧ ∀ x, T E v x → T (E.out h) v' x := by
  obtain ⟨v', h1, h1', h2, h3, h4, h5, h6⟩ := outV_ok hs v κ hd
  refine ⟨v', h1, h1', h3, fun x ht => ?_⟩
  by_cases hany : v = .any
  · rw [h5 hany]; trivial
  · have hnt : v.isTup = false := by
      cases v <;> first | rfl | (simp only [outV] at hd)
    have ht' : aggOk v x ∧ R E v (fun q => x.cells[q]?) 0 := by
      cases v <;> first | exact ht | exact absurd rfl hany | simp [V.isTup] at hnt
    have : aggOk v' x ∧ R (E.out h) v' (fun q => x.cells[q]?) 0 := ⟨by have := ht'.1; unfold aggOk at this ⊢; rw [h2, h4]; exact this, h6 _ _ ht'.2⟩
    cases v' <;> first | exact this | trivial | simp [V.isTup] at h3
end
end Go.DD

/- From a function's body to its contract. -/
namespace Go.DD
set_option linter.unusedVariables false
set_option linter.unusedSimpArgs false
open Go.RowKit

def resL (tb : List (Option TI)) (σ : St) : List ResultVar → (List V → Prop) → Prop
  | [], κ => κ []
  | .tmp t :: l, κ => resL tb σ l fun vs => κ (σ.t t :: vs)
  | .cell a t :: l, κ => loadD tb t (σ.t a) σ.h fun v => resL tb σ l fun vs => κ (v :: vs)
def outL (h : Heap) : List V → (List V → Prop) → Prop
  | [], κ => κ []
  | v :: l, κ => outV h (unx v) fun v' => outL h l fun l' => κ (v' :: l')
def oneOf : List V → (V → Prop) → Prop
  | [v], Φ => frc v Φ
  | os, Φ => frc (.tup (Vs.of os)) Φ
def finQ (Γ : Ctx) (rs : List ResultVar) (Φ : V → Prop) : Exit → St → Prop := fun e σ => match e with
  | .normal | .ret => resL Γ.tb σ rs fun vs => outL σ.h vs fun os => oneOf os Φ
  | _ => False
def nthV : List V → Nat → V | [], _ => .tup .nil | v :: _, 0 => v | _ :: l, k + 1 => nthV l k
def entry (as : List V) : St := ⟨fun k => nthV as k, []⟩

section
variable {P : Program} {Γ : Ctx}
theorem nthV_T {E : Env} : ∀ (as : List V) (xs : List Value) (m k : Nat), Ts E as xs → T E (nthV as k) ((xs ++ List.replicate m undef)[k]?.getD undef)
  | [], [], m, k, _ => by
    have : ((([] : List Value) ++ List.replicate m undef)[k]?.getD undef) = undef := by
      simp only [List.nil_append, List.getElem?_replicate]
      split <;> rfl
    rw [this]
    exact ⟨#[], rfl, rfl, fun k y h => by simp at h⟩
  | v :: l, x :: xs, m, 0, h => by simpa [nthV] using h.1
  | v :: l, x :: xs, m, k + 1, h => by simpa [nthV] using nthV_T l xs m k h.2
  | [], _ :: _, _, _, h => h.elim
  | _ :: _, [], _, _, h => h.elim
theorem Ts_len {E : Env} : ∀ {as : List V} {xs : List Value}, Ts E as xs → as.length = xs.length
  | [], [], _ => rfl
  | _ :: _, _ :: _, h => by simp [Ts_len h.2]
  | [], _ :: _, h => h.elim
  | _ :: _, [], h => h.elim

theorem entry_sim {E : Env} (hw : Wf E) (hN : E.N = 0) (hgl : GlOk Γ.gl E) {as : List V} {args : Array Value} (hts : Ts E as args.toList) {n : Nat} (hn : Γ.n = n) (hle : as.length ≤ n) :
    Sim Γ E (entry as) { tmps := args ++ Array.replicate (n - args.size) undef, defers := [] } where
  wf := hw
  heap := ⟨by simp [entry, hN], fun i v h => by simp [entry] at h, fun i j v v' h => by simp [entry] at h⟩
  tmp := fun k => by
    have := nthV_T as args.toList (n - args.size) k hts
    simp only [Act.eval, entry, Array.getD_eq_getD_getElem?]
    rw [← Array.getElem?_toList]
    simpa using this
  size := by
    have := Ts_len hts
    simp at this ⊢
    omega
  defers := rfl
  gl := hgl

theorem asAddr_load {t : Nat} {X : Value} {E : Env} {v : V} {h : Heap} {κ : V → Prop} {tb : List (Option TI)} (hd : loadD tb t v h κ) (hT : T E v X) (w : World) : (do loadVar t (← asAddr X) : Sem Value).run P w = (Instr.loadAt t X).run P w := by
  have : ∃ a, X = .pointer (some a) := by
    unfold loadD at hd
    split at hd
    · exact hd.elim
    · split at hd
      · exact ⟨_, (T_ref.1 hT).2⟩
      · exact ⟨_, (T_rref.1 hT).2⟩
      · obtain ⟨b, off, h1, _⟩ := T_pim.1 hT; exact ⟨_, h1⟩
      · exact hd.elim
  obtain ⟨a, rfl⟩ := this
  simp [asAddr, Instr.loadAt, Instr.sureAddr]
theorem resL_ok (hΓ : CtxOk P Γ) {E : Env} {σ : St} {a : Act} (hs : Sim Γ E σ a) :
    ∀ (rs : List ResultVar) (κ : List V → Prop), resL Γ.tb σ rs κ → ∃ vs xs, κ vs ∧ Ts E vs xs ∧ ∀ f : ResultVar → Sem Value, (∀ u, f (.tmp u) = pure (a.tmps.getD u undef)) → (∀ p t, f (.cell p t) = (do loadVar t (← asAddr (a.tmps.getD p undef)))) → (rs.mapM f).run P E.w = .ok xs E.w
  | [], κ, hd => ⟨[], [], hd, trivial, fun _ _ _ => by simp⟩
  | .tmp t :: l, κ, hd => by
    simp only [resL] at hd
    obtain ⟨vs, xs, h1, h2, h3⟩ := resL_ok hΓ hs l _ hd
    exact ⟨_, a.eval (.tmp t) :: xs, h1, ⟨hs.tmp t, h2⟩, fun f hf hc => by simp [List.mapM_cons, hf, h3 f hf hc, Act.eval]⟩
  | .cell p t :: l, κ, hd => by
    simp only [resL] at hd
    obtain ⟨x, v, h1, h2, h3⟩ := loadD_ok hΓ.tb hs.wf hs.heap hd (hs.tmp p)
    obtain ⟨vs, xs, h4, h5, h6⟩ := resL_ok hΓ hs l _ h3
    refine ⟨_, x :: xs, h4, ⟨h2, h5⟩, fun f hf hc => ?_⟩
    have h7 := (asAddr_load (P := P) hd (hs.tmp p) E.w).trans h1
    rw [List.mapM_cons, hc]
    have h7' : (do loadVar t (← asAddr (a.tmps.getD p undef)) : Sem Value).run P E.w = .ok x E.w := h7
    rw [Sem.run_bind, h7']
    simp [h6 f hf hc]
theorem outL_ok {E : Env} {h : Heap} (hs : SimH E h) : ∀ (vs : List V) (xs : List Value) (κ : List V → Prop), Ts E vs xs → outL h vs κ → ∃ os, κ os ∧ Ts (E.out h) os xs ∧ (∀ o ∈ os, own o ∧ o.isTup = false) ∧ os.length = xs.length
  | [], [], κ, _, hd => ⟨[], hd, trivial, fun _ h => by simp at h, rfl⟩
  | v :: l, x :: xs, κ, ht, hd => by
    simp only [outL] at hd
    obtain ⟨v', h1, h2, h3, h4⟩ := outV_T hs hd
    obtain ⟨os, h5, h6, h7, h8⟩ := outL_ok hs l xs _ ht.2 h1
    refine ⟨_, h5, ⟨h4 x (T_unx ht.1), h6⟩, fun o ho => ?_, by simp [h8]⟩
    rcases List.mem_cons.1 ho with rfl | ho
    · exact ⟨h2, h3⟩
    · exact h7 o ho
  | [], _ :: _, _, h, _ => h.elim
  | _ :: _, [], _, h, _ => h.elim
theorem owns_of : ∀ {os : List V}, (∀ o ∈ os, own o ∧ o.isTup = false) → owns (Vs.of os)
  | [], _ => by simp [Vs.of, owns]
  | o :: os, h => by simp only [Vs.of, owns]; exact ⟨(h o (.head _)).1, owns_of fun u hu => h u (.tail _ hu)⟩
theorem Vs.len_of : ∀ (os : List V), (Vs.of os).len = os.length
  | [] => rfl
  | o :: os => by simp [Vs.of, Vs.len, Vs.len_of os]
theorem tup_T {E : Env} : ∀ {os : List V} {xs : List Value}, Ts E os xs → (∀ o ∈ os, own o ∧ o.isTup = false) → ∀ k y, xs[k]? = some y → match (Vs.of os).get k with
      | .any => True
      | u => u.isTup = false ∧ aggOk u y ∧ R E u (fun q => y.cells[q]?) 0
  | [], [], _, _, k, y, h => by simp at h
  | o :: os, x :: xs, ht, ho, 0, y, h => by
    simp at h; subst h
    have h1 := ht.1
    have h2 := (ho o (.head _)).2
    simp only [Vs.of, Vs.get]
    cases o <;> first | trivial | exact ⟨rfl, h1⟩ | simp [V.isTup] at h2
  | o :: os, x :: xs, ht, ho, k + 1, y, h => tup_T ht.2 (fun u hu => ho u (.tail _ hu)) k y (by simpa using h)
  | [], _ :: _, h, _, _, _, _ => h.elim
  | _ :: _, [], h, _, _, _, _ => h.elim

theorem CP_of_OK {f : Nat} {fn : Func} {c : Code} {as : List V} {Φ : V → Prop} (hΓ : CtxOk P Γ) (hf : P.funcs[f]? = some fn) (hb : fn.body = some c) (hname : (fn.name == "runtime.NumGoroutine") = false)
    (hn : Γ.n = fn.ntmps) (hn0 : Γ.n0 = 0) (hle : as.length ≤ fn.ntmps) (h : OK P Γ c (finQ Γ fn.results.toList Φ) (entry as)) : CP P Γ.gl f as Φ := by
  intro E args hw hN hall hgl hts
  have hcall : (callFunc f args).run P E.w = .ok (.enter f args) E.w := by
    have hname' : ¬ fn.name = "runtime.NumGoroutine" := by simpa using hname
    simp [callFunc, hf, hname', hb]
  rw [hcall]
  refine calls_of_wp hf hb (wp_mono (h.out E _ (by omega) (entry_sim hw hN hgl hts hn hle)) fun e a' w' ⟨E', σ', e1, e2, e3, e4⟩ => ?_)
  subst e1
  have key : resL Γ.tb σ' fn.results.toList (fun vs => outL σ'.h vs fun os => oneOf os Φ) → a'.defers = [] ∧ ∃ v, (results fn a'.tmps).run P E'.w = .ok v E'.w ∧ ∃ E'' u, E'.w = E''.w ∧ Xt 0 E E'' ∧ Wf E'' ∧ T E'' u v ∧ own u ∧ Φ u := fun hd => by
    refine ⟨e3.defers, ?_⟩
    obtain ⟨vs, xs, h1, h2, h3⟩ := resL_ok hΓ e3 _ _ hd
    obtain ⟨os, h4, h5, h6, h7⟩ := outL_ok e3.heap vs xs _ h2 h1
    have hrun : (results fn a'.tmps).run P E'.w = .ok (if h : xs.toArray.size = 1 then xs.toArray[0] else .tuple xs.toArray) E'.w := by
      unfold results
      rw [show fn.results = fn.results.toList.toArray by simp, List.mapM_toArray]
      simp only [Sem.run_bind, Sem.run_map]
      rw [h3]
      · simp
      · intro u; rfl
      · intro p t; rfl
    have hxt : Xt 0 E (E'.out σ'.h) := by
      have e2' : Xt 0 E E' := { e2 with N := Nat.zero_le _, ρ := fun i hi => absurd hi (Nat.not_lt_zero i), vt := fun i hi => absurd hi (Nat.not_lt_zero i) }
      exact { e2' with
        N := Nat.le_refl _
        ρ := fun i hi => absurd hi (Nat.not_lt_zero i)
        vt := fun i hi => absurd hi (Nat.not_lt_zero i)
        S := fun b hb => .inl (e2.S b hb)
        S' := fun b hb => by
          rcases hb with hb | ⟨i, v, k1, k2, rfl⟩
          · exact e2.S' b hb
          · refine .inr fun hk => ?_
            rcases e3.heap.live i v k1 with ⟨k3, _⟩ | ⟨_, k3, _⟩
            · rw [k3] at k2; cases k2
            · exact k3 (e2.K _ hk)
        L := e2.L
        K := fun b hb => .inl (e2.K b hb) }
    by_cases h1 : ∃ o, os = [o]
    · obtain ⟨o, rfl⟩ := h1
      cases xs with
      | nil => simp at h7
      | cons x xs =>
        cases xs with
        | cons y ys => simp at h7
        | nil =>
          refine ⟨x, by simpa using hrun, E'.out σ'.h, o, rfl, hxt, Env.out_wf e3.wf e3.heap, h5.1, (h6 o (.head _)).1, by have h4' : frc o Φ := h4; rwa [frc_eq] at h4'⟩
    · have hlen : xs.length ≠ 1 := fun hl => by
        rw [hl] at h7
        obtain ⟨o, ho⟩ := List.length_eq_one_iff.1 h7
        exact h1 ⟨o, ho⟩
      have h4' : Φ (.tup (Vs.of os)) := by
        unfold oneOf at h4
        split at h4
        · exact absurd ⟨_, rfl⟩ h1
        · rwa [frc_eq] at h4
      refine ⟨.tuple xs.toArray, by rw [hrun]; simp [hlen], E'.out σ'.h, .tup (Vs.of os), rfl, hxt, Env.out_wf e3.wf e3.heap, ⟨xs.toArray, rfl, ?_, fun k y hk => tup_T h5 h6 k y (by simpa using hk)⟩, by simp only [own]; exact owns_of h6, h4'⟩
      simp [Vs.len_of, h7]
  unfold bodyPost
  cases e with
  | normal => exact key e4
  | ret => exact key e4
  | _ => exact e4.elim
end
end Go.DD

/- The same, reckoned: what is left to show that a state fits a template. -/
namespace Go.DD
set_option linter.unusedVariables false
set_option linter.unusedSimpArgs false
open Go.RowKit

mutual
def leC (m : List (Option Nat)) : V → V → Prop → Prop
  | v, .any, K => match v.isAgg || v.isTup with | true => False | false => K
  | v, .int k n, K => match v with | .int k' n' => Ob (k' = k) ∧ Ob (n' = n) ∧ K | _ => False
  | v, .tt, K => match v with | .tt => K | .bool b => Ob (b = true) ∧ False | _ => False
  | v, .ff, K => match v with | .ff => K | .bool b => Ob (b = false) ∧ False | _ => False
  | v, .bool b, K => match v with | .tt => Ob (true = b) ∧ K | .ff => Ob (false = b) ∧ K | .bool b' => Ob (b' = b) ∧ K | _ => False
  | v, .str s, K => match v with | .str s' => Ob (s' = s) ∧ K | _ => False
  | v, .nilp, K => match v with | .nilp => K | _ => False
  | v, .emp, K => match v with | .emp => K | _ => False
  | v, .nilf, K => match v with | .nilf => K | _ => False
  | v, .nili, K => match v with | .nili => K | _ => False
  | v, .ref i p, K => match getM m i with
    | some (some j) => (match v with | .ref j' p' => Ob (j' = j ∧ p' = p) ∧ K | _ => False)
    | _ => False
  | v, .rref i p sz lo n, K => match getM m i with
    | some (some j) => (match v with | .rref j' p' sz' lo' n' => Ob (j' = j ∧ p' = p ∧ sz' = sz) ∧ Ob (lo' = lo ∧ n' = n) ∧ K | _ => False)
    | _ => False
  | v, .sl i p sz lo len cap, K => match getM m i with
    | some (some j) => (match v with | .sl j' p' sz' lo' len' cap' => Ob (j' = j ∧ p' = p ∧ sz' = sz) ∧ Ob (lo' = lo ∧ len' = len ∧ cap' = cap) ∧ K | _ => False)
    | some none => (match v with | .emp => Ob (len = 0 ∧ cap = 0) ∧ K | _ => False)
    | none => False
  | v, .slx i sz lo len cap, K => match getM m i with
    | some (some j) => (match v with | .slx j' sz' lo' len' cap' => Ob (j' = j ∧ sz' = sz) ∧ Ob (lo' = lo ∧ len' = len ∧ cap' = cap) ∧ K | _ => False)
    | some none => (match v with | .emp => Ob (len = 0 ∧ cap = 0) ∧ K | _ => False)
    | none => False
  | v, .imm l sz n f, K => match v with
    | .emp => Ob (n = 0) ∧ K
    | .imm l' sz' n' g => Ob (l' = l ∧ sz' = sz) ∧ Ob (n' = n) ∧ Ob (∀ k, k < n → g k = f k) ∧ K
    | _ => False
  | v, .pim l u, K => match v with | .pim l' u' => Ob (V.pim l' u' = V.pim l u) ∧ K | _ => False
  | v, .row sz n f, K => match v with | .row sz' n' g => Ob (sz' = sz) ∧ Ob (n' = n) ∧ Ob (∀ k, k < n → leV m (g k) (f k)) ∧ K | _ => False
  | v, .st l', K => match v with | .st l => leCs m l l' K | _ => False
  | v, .fn f c, K => match v with | .fn f' c' => Ob (f' = f) ∧ leCs m c' c K | _ => False
  | v, .iface t u, K => match v with | .iface t' u' => Ob (t' = t) ∧ leC m u' u K | _ => False
  | v, .tup l, K => match v, l with | .tup .nil, .nil => K | _, _ => False
  termination_by structural _ x => x
def leCs (m : List (Option Nat)) : Vs → Vs → Prop → Prop
  | .nil, .nil, K => K
  | .cons v l, .cons v' l', K => leC m v v' (leCs m l l' K)
  | _, _, _ => False
  termination_by structural _ x => x
end

mutual
theorem leC_ok {m : List (Option Nat)} : ∀ (v v' : V) (K : Prop), leC m v v' K → leV m v v' ∧ K
  | v, .any, K, h => by
    simp only [leC] at h; split at h
    · exact h.elim
    · rename_i hb; simp only [Bool.or_eq_false_iff] at hb; simp only [leV]; exact ⟨hb, h⟩
  | v, .int k n, K, h => by
    simp only [leC] at h; split at h
    · obtain ⟨⟨rfl⟩, ⟨rfl⟩, h⟩ := h; simp only [leV]; exact ⟨trivial, h⟩
    · exact h.elim
  | v, .tt, K, h => by
    simp only [leC] at h; split at h
    · simp only [leV]; exact ⟨trivial, h⟩
    · exact h.2.elim
    · exact h.elim
  | v, .ff, K, h => by
    simp only [leC] at h; split at h
    · simp only [leV]; exact ⟨trivial, h⟩
    · exact h.2.elim
    · exact h.elim
  | v, .bool b, K, h => by
    simp only [leC] at h; split at h
    · obtain ⟨⟨rfl⟩, h⟩ := h; simp only [leV, vb]; exact ⟨trivial, h⟩
    · obtain ⟨⟨rfl⟩, h⟩ := h; simp only [leV, vb]; exact ⟨trivial, h⟩
    · obtain ⟨⟨rfl⟩, h⟩ := h; simp only [leV, vb]; exact ⟨trivial, h⟩
    · exact h.elim
  | v, .str s, K, h => by
    simp only [leC] at h; split at h
    · obtain ⟨⟨rfl⟩, h⟩ := h; simp only [leV]; exact ⟨trivial, h⟩
    · exact h.elim
  | v, .nilp, K, h | v, .emp, K, h | v, .nilf, K, h | v, .nili, K, h => by
    simp only [leC] at h; split at h
    · simp only [leV]; exact ⟨trivial, h⟩
    · exact h.elim
  | v, .ref i p, K, h => by
    simp only [leC] at h
    simp only [leV]
    split at h
    · split at h
      · obtain ⟨⟨rfl, rfl⟩, h⟩ := h; simp only [*]; exact ⟨trivial, trivial⟩
      · exact h.elim
    · exact h.elim
  | v, .rref i p sz lo n, K, h => by
    simp only [leC] at h
    simp only [leV]
    split at h
    · split at h
      · obtain ⟨⟨rfl, rfl, rfl⟩, ⟨rfl, rfl⟩, h⟩ := h; simp only [*]; exact ⟨trivial, trivial⟩
      · exact h.elim
    · exact h.elim
  | v, .sl i p sz lo len cap, K, h => by
    simp only [leC] at h
    simp only [leV]
    split at h
    · split at h
      · obtain ⟨⟨rfl, rfl, rfl⟩, ⟨rfl, rfl, rfl⟩, h⟩ := h; simp only [*]; exact ⟨trivial, trivial⟩
      · exact h.elim
    · split at h
      · obtain ⟨⟨rfl, rfl⟩, h⟩ := h; simp only [*]; exact ⟨⟨trivial, trivial, trivial⟩, trivial⟩
      · exact h.elim
    · exact h.elim
  | v, .slx i sz lo len cap, K, h => by
    simp only [leC] at h
    simp only [leV]
    split at h
    · split at h
      · obtain ⟨⟨rfl, rfl⟩, ⟨rfl, rfl, rfl⟩, h⟩ := h; simp only [*]; exact ⟨trivial, trivial⟩
      · exact h.elim
    · split at h
      · obtain ⟨⟨rfl, rfl⟩, h⟩ := h; simp only [*]; exact ⟨⟨trivial, trivial, trivial⟩, trivial⟩
      · exact h.elim
    · exact h.elim
  | v, .imm l sz n f, K, h => by
    simp only [leC] at h
    simp only [leV]
    split at h
    · exact ⟨.inl ⟨rfl, h.1.out⟩, h.2⟩
    · obtain ⟨⟨rfl, rfl⟩, ⟨rfl⟩, ⟨hf⟩, h⟩ := h; exact ⟨.inr ⟨_, rfl, hf⟩, h⟩
    · exact h.elim
  | v, .pim l u, K, h => by
    simp only [leC] at h; split at h
    · simp only [leV]; exact ⟨h.1.out, h.2⟩
    · exact h.elim
  | v, .row sz n f, K, h => by
    simp only [leC] at h; split at h
    · obtain ⟨⟨rfl⟩, ⟨rfl⟩, ⟨hf⟩, h⟩ := h; simp only [leV]; exact ⟨⟨_, rfl, hf⟩, h⟩
    · exact h.elim
  | v, .st l', K, h => by
    simp only [leC] at h; split at h
    · obtain ⟨h1, h2⟩ := leCs_ok _ _ _ h; simp only [leV]; exact ⟨⟨_, rfl, h1⟩, h2⟩
    · exact h.elim
  | v, .fn f c, K, h => by
    simp only [leC] at h; split at h
    · obtain ⟨⟨rfl⟩, h⟩ := h
      obtain ⟨h1, h2⟩ := leCs_ok _ _ _ h; simp only [leV]; exact ⟨⟨_, rfl, h1⟩, h2⟩
    · exact h.elim
  | v, .iface t u, K, h => by
    simp only [leC] at h; split at h
    · obtain ⟨⟨rfl⟩, h⟩ := h
      obtain ⟨h1, h2⟩ := leC_ok _ _ _ h; simp only [leV]; exact ⟨⟨_, rfl, h1⟩, h2⟩
    · exact h.elim
  | v, .tup l, K, h => by
    simp only [leC] at h; split at h
    · simp only [leV]; exact ⟨⟨trivial, trivial⟩, h⟩
    · exact h.elim
theorem leCs_ok {m : List (Option Nat)} : ∀ (l l' : Vs) (K : Prop), leCs m l l' K → leVs m l l' ∧ K
  | .nil, .nil, K, h => by simp only [leCs] at h; simp only [leVs]; exact ⟨trivial, h⟩
  | .cons v l, .cons v' l', K, h => by
    simp only [leCs] at h
    obtain ⟨h1, h2⟩ := leC_ok _ _ _ h
    obtain ⟨h3, h4⟩ := leCs_ok _ _ _ h2
    simp only [leVs]; exact ⟨⟨h1, h3⟩, h4⟩
  | .nil, .cons _ _, _, h => by simp only [leCs] at h
  | .cons _ _, .nil, _, h => by simp only [leCs] at h
end
def leTC (m : List (Option Nat)) (t : Nat → V) : List (Nat × V) → Prop → Prop
  | [], K => K
  | (k, v) :: l, K => leC m (t k) v (leTC m t l K)
def leHC (mm : List (Option Nat)) (h : Heap) : List (Option Nat) → Heap → Prop → Prop
  | [], [], K => K
  | none :: m, v :: l, K => (match v with | some (.row _ n _) => Ob (n = 0) ∧ leHC mm h m l K | none => leHC mm h m l K | _ => False)
  | some _ :: m, none :: l, K => leHC mm h m l K
  | some j :: m, some v :: l, K => (match hget h j with | some u => leC mm u v (leHC mm h m l K) | none => False)
  | _, _, _ => False
def LeC (n0 : Nat) (m : List (Option Nat)) (σ : St) (tl : List (Nat × V)) (h : Heap) (K : Prop) : Prop :=
  match noDup m && idOn n0 0 m with
  | true => (match σ with | ⟨t, h0⟩ => leTC m t tl (leHC m h0 m h K))
  | false => False
theorem leTC_ok {m : List (Option Nat)} {t : Nat → V} : ∀ (tl : List (Nat × V)) (K : Prop), leTC m t tl K → leT m t tl ∧ K
  | [], K, h => ⟨trivial, h⟩
  | (k, v) :: l, K, h => by
    simp only [leTC] at h
    obtain ⟨h1, h2⟩ := leC_ok _ _ _ h
    obtain ⟨h3, h4⟩ := leTC_ok l K h2
    simp only [leT]
    exact ⟨⟨by unfold leS; split <;> first | trivial | exact h1, h3⟩, h4⟩
theorem leHC_ok {mm : List (Option Nat)} {h0 : Heap} : ∀ (m : List (Option Nat)) (h : Heap) (K : Prop), leHC mm h0 m h K → leH mm h0 m h ∧ K
  | [], [], K, h => ⟨trivial, h⟩
  | none :: m, v :: l, K, h => by
    simp only [leHC] at h
    simp only [leH]
    split at h
    · obtain ⟨⟨rfl⟩, h⟩ := h
      obtain ⟨h1, h2⟩ := leHC_ok m l K h
      exact ⟨⟨trivial, h1⟩, h2⟩
    · obtain ⟨h1, h2⟩ := leHC_ok m l K h
      exact ⟨⟨trivial, h1⟩, h2⟩
    · exact h.elim
  | some j :: m, none :: l, K, h => by
    simp only [leHC] at h
    simp only [leH]
    exact leHC_ok m l K h
  | some j :: m, some v :: l, K, h => by
    simp only [leHC] at h
    simp only [leH]
    split at h
    · rename_i u hu
      obtain ⟨h1, h2⟩ := leC_ok _ _ _ h
      obtain ⟨h3, h4⟩ := leHC_ok m l K h2
      exact ⟨⟨by first | (simp only [hu]; exact h1) | exact h1 | (rw [hu]; exact h1) | simpa [hu] using h1, h3⟩, h4⟩
    · exact h.elim
  | [], _ :: _, _, h => by simp [leHC] at h
  | none :: _, [], _, h => by simp [leHC] at h
  | some _ :: _, [], _, h => by simp [leHC] at h
theorem LeC.le {n0 : Nat} {m : List (Option Nat)} {σ : St} {tl : List (Nat × V)} {h : Heap} {K : Prop} (hl : LeC n0 m σ tl h K) : Le n0 m σ tl h ∧ K := by
  unfold LeC at hl
  split at hl
  · rename_i hs
    obtain ⟨t, h0⟩ := σ
    simp only at hl
    obtain ⟨h1, h2⟩ := leTC_ok _ _ hl
    obtain ⟨h3, h4⟩ := leHC_ok _ _ _ h2
    exact ⟨⟨h1, h3, hs⟩, h4⟩
  · exact hl.elim

section
variable {P : Program} {Γ : Ctx}
theorem OK_weakC {c : Code} {Q : Exit → St → Prop} {σ : St} (m : List (Option Nat)) (tl : List (Nat × V)) (h : Heap) (hl : LeC Γ.n0 m σ tl h (OK P Γ c Q (tmpl tl h))) : OK P Γ c Q σ :=
  OK_weak m hl.le.1 hl.le.2
/-- A loop: at its head the state fits the template of some index; each round goes on to a smaller one, or leaves. -/
theorem OK_loopC {ι : Type} {b : Code} {Q : Exit → St → Prop} {σ : St} (tl : ι → List (Nat × V)) (hp : ι → Heap) (p : ι → Prop) (μ : ι → Nat) (x0 : ι) (m0 : List (Option Nat)) (h0 : LeC Γ.n0 m0 σ (tl x0) (hp x0) (Ob (p x0)))
    (round : ∀ x, p x → OK P Γ b (seqQ (fun σ' => ∃ y m, LeC Γ.n0 m σ' (tl y) (hp y) (Ob (p y ∧ μ y < μ x))) Q) (tmpl (tl x) (hp x))) : OK P Γ (.loop b) Q σ :=
  OK_loop tl hp p μ x0 m0 h0.le.1 h0.le.2.out fun x hx => (round x hx).mono fun e σ' hq => by
    cases e with
    | normal => obtain ⟨y, m, hl⟩ := hq; exact ⟨y, m, hl.le.1, hl.le.2.out.1, hl.le.2.out.2⟩
    | _ => exact hq
theorem OK_cutC {ι : Type} {a b : Code} {Q : Exit → St → Prop} {σ : St} (tl : ι → List (Nat × V)) (hp : ι → Heap) (p : ι → Prop)
    (h : OK P Γ a (seqQ (fun σ' => ∃ x m, LeC Γ.n0 m σ' (tl x) (hp x) (Ob (p x))) Q) σ) (hb : ∀ x, p x → OK P Γ b Q (tmpl (tl x) (hp x))) : OK P Γ (.seq a b) Q σ :=
  OK_cut tl hp p (h.mono fun e σ' hq => by
    cases e with
    | normal => obtain ⟨y, m, hl⟩ := hq; exact ⟨y, m, hl.le.1, hl.le.2.out⟩
    | _ => exact hq) hb
theorem wrap64 {x : Int} (h0 : -9223372036854775808 ≤ x) (h1 : x ≤ 9223372036854775807) : IntKind.i64.wrap x = x := by
  rw [IntKind.wrap_i64]; omega
theorem wrapu64 {x : Int} (h0 : 0 ≤ x) (h1 : x < 18446744073709551616) : IntKind.u64.wrap x = x := by
  rw [IntKind.wrap_u64]; omega
end
end Go.DD

/- From a contract to what a row asks of a law's call. -/
namespace Go.DD
set_option linter.unusedVariables false
set_option linter.unusedSimpArgs false
open Go.RowKit

/-- The environment of a law's call: all that there is stays. -/
def Env.law (W : World) : Env := { w := W, ρ := fun _ => 0, vt := fun _ => false, N := 0, S := fun b => b < W.heap.size, L := fun _ => False, K := fun b => b < W.heap.size }
theorem Env.law_wf (W : World) : Wf (Env.law W) := ⟨fun _ h => h, fun _ h => h.elim, fun _ h => h⟩
theorem calls_of_CP {P : Program} {f : Nat} {fn : Func} {gl : List (Nat × V)} {xs : List V} {args : Array Value} {W : World} (hf : P.funcs[f]? = some fn) (hb : fn.body.isNone = false) (hname : (fn.name == "runtime.NumGoroutine") = false)
    (hgl : GlOk gl (Env.law W)) (hT : Ts (Env.law W) xs args.toList) (h : CP P gl f xs (fun v => v = .bool true)) : Calls P f args W (fun e w' => e = .returned (.bool true) ∧ Below W.heap.size W w') := by
  have h1 := h (Env.law W) args (Env.law_wf W) rfl (fun _ h => h) hgl hT
  have hname' : ¬ fn.name = "runtime.NumGoroutine" := by simpa using hname
  have hcall : (callFunc f args).run P W = .ok (.enter f args) W := by
    simp only [callFunc, Sem.run_bind, run_program, Result.andThen_ok, hf, hname, hb, Bool.false_eq_true, if_false, Sem.run_pure]
  have h2 : (callFunc f args).run P (Env.law W).w = .ok (.enter f args) W := hcall
  rw [h2] at h1
  refine Calls.mono h1 fun e w' he => ?_
  cases e with
  | returned x =>
    obtain ⟨E', v, rfl, hx, _, hT', _, rfl⟩ := he
    exact ⟨by rw [T_bool.1 hT'], hx.os, hx.tape, hx.output, hx.size, fun k hk => hx.kept k hk⟩
  | panicked _ => exact he.elim
  | outgrown => exact he.elim
end Go.DD

/- Calls that may change the caller's variables: the callee's condition, at the call. -/
namespace Go.DD
set_option linter.unusedVariables false
set_option linter.unusedSimpArgs false
open Go.RowKit

def noTup : List V → Bool | [] => true | v :: l => !v.isTup && noTup l
def retH (vs : List V) (h : Heap) (κ : V → Heap → Prop) : Prop :=
  match noTup vs with
  | true => (match vs with
    | [v] => frc v fun v => frcH h fun h => κ v h
    | vs => frc (.tup (Vs.of vs)) fun v => frcH h fun h => κ v h)
  | false => False
def finH (Γ : Ctx) (rs : List ResultVar) (κ : V → Heap → Prop) : Exit → St → Prop := fun e σ => match e with
  | .normal | .ret => resL Γ.tb σ rs fun vs => retH vs σ.h κ
  | _ => False
/-- The context of a callee that is handed all of the caller's variables. -/
def Ctx.inner (Γ : Ctx) (h : Heap) : Ctx := { Γ with n0 := hlen h }
def inlineS (P : Program) (Γ : Ctx) (c : Code) (rs : List ResultVar) : SpecH := fun as h κ => OK P (Γ.inner h) c (finH Γ rs κ) ⟨fun k => nthV as k, h⟩

section
variable {P : Program} {Γ : Ctx}
theorem CtxOk.inner (hΓ : CtxOk P Γ) (h : Heap) : CtxOk P (Γ.inner h) := ⟨hΓ.tb, hΓ.fs, hΓ.fh⟩
theorem resL_mono {tb : List (Option TI)} {σ : St} : ∀ (rs : List ResultVar) {κ κ' : List V → Prop}, (∀ vs, κ vs → κ' vs) → resL tb σ rs κ → resL tb σ rs κ'
  | [], _, _, hk, h => hk _ h
  | .tmp t :: l, κ, κ', hk, h => by simp only [resL] at h ⊢; exact resL_mono l (fun vs h => hk _ h) h
  | .cell a t :: l, κ, κ', hk, h => by
    simp only [resL] at h ⊢
    obtain ⟨v, h1, h2⟩ := loadD_sng h
    exact h2 _ (resL_mono l (fun vs h => hk _ h) h1)
theorem retH_mono {vs : List V} {h : Heap} {κ κ' : V → Heap → Prop} (hk : ∀ v k, κ v k → κ' v k) (hd : retH vs h κ) : retH vs h κ' := by
  unfold retH at *
  split at hd
  · split at hd
    · simp only [frc_eq, frcH_eq] at hd ⊢; exact hk _ _ hd
    · simp only [frc_eq, frcH_eq] at hd ⊢
      exact hk _ _ hd
  · exact hd.elim
theorem tup_T' {E : Env} : ∀ {os : List V} {xs : List Value}, Ts E os xs → noTup os = true → ∀ k y, xs[k]? = some y → match (Vs.of os).get k with
      | .any => True
      | u => u.isTup = false ∧ aggOk u y ∧ R E u (fun q => y.cells[q]?) 0
  | [], [], _, _, k, y, h => by simp at h
  | o :: os, x :: xs, ht, ho, 0, y, h => by
    simp only [noTup, Bool.and_eq_true, Bool.not_eq_true'] at ho
    simp at h; subst h
    have h1 := ht.1
    have h2 := ho.1
    simp only [Vs.of, Vs.get]
    cases o <;> first | trivial | exact ⟨rfl, h1⟩ | simp [V.isTup] at h2
  | o :: os, x :: xs, ht, ho, k + 1, y, h => by
    simp only [noTup, Bool.and_eq_true, Bool.not_eq_true'] at ho
    exact tup_T' ht.2 ho.2 k y (by simpa using h)
  | [], _ :: _, h, _, _, _, _ => h.elim
  | _ :: _, [], h, _, _, _, _ => h.elim

theorem inline_ok {f : Nat} {fn : Func} {c : Code} (hΓ : CtxOk P Γ) (hf : P.funcs[f]? = some fn) (hb : fn.body = some c) (hname : (fn.name == "runtime.NumGoroutine") = false)
    (hn : Γ.n = fn.ntmps) {np : Nat} (hle : np ≤ fn.ntmps) : SpecHOk P Γ.gl f (fun as h κ => as.length = np ∧ inlineS P Γ c fn.results.toList as h κ) := by
  constructor
  · intro as h κ κ' hk hd
    refine ⟨hd.1, hd.2.mono fun e σ hq => ?_⟩
    cases e <;> first
      | exact resL_mono _ (fun vs h => retH_mono hk h) hq
      | exact hq
  · intro E h as args κ hw hs hgl hts ⟨hnp, hd⟩
    have hname' : ¬ fn.name = "runtime.NumGoroutine" := by simpa using hname
    have hcall : (callFunc f args).run P E.w = .ok (.enter f args) E.w := by
      simp [callFunc, hf, hname', hb]
    rw [hcall]
    have hN : hlen h = E.N := by rw [hlen_eq, hs.len]
    have hsim : Sim (Γ.inner h) E ⟨fun k => nthV as k, h⟩ { tmps := args ++ Array.replicate (fn.ntmps - args.size) undef, defers := [] } := {
      wf := hw, heap := hs
      tmp := fun k => by
        have := nthV_T as args.toList (fn.ntmps - args.size) k hts
        simp only [Act.eval, Array.getD_eq_getD_getElem?]
        rw [← Array.getElem?_toList]
        simpa using this
      size := by
        have := Ts_len hts
        simp [Ctx.inner, hn] at this ⊢
        omega
      defers := rfl, gl := hgl }
    refine calls_of_wp hf hb (wp_mono (hd.out E _ (by simp [Ctx.inner, hN]) hsim) fun e a' w' ⟨E', σ', e1, e2, e3, e4⟩ => ?_)
    subst e1
    have key : resL Γ.tb σ' fn.results.toList (fun vs => retH vs σ'.h κ) → a'.defers = [] ∧ ∃ v, (results fn a'.tmps).run P E'.w = .ok v E'.w ∧ Fine E κ v E'.w := fun hr => by
      refine ⟨e3.defers, ?_⟩
      obtain ⟨vs, xs, h1, h2, h3⟩ := resL_ok (hΓ.inner h) e3 _ _ hr
      have hrun : (results fn a'.tmps).run P E'.w = .ok (if h : xs.toArray.size = 1 then xs.toArray[0] else .tuple xs.toArray) E'.w := by
        unfold results
        rw [show fn.results = fn.results.toList.toArray by simp, List.mapM_toArray]
        simp only [Sem.run_bind, Sem.run_map]
        rw [h3]
        · simp
        · intro u; rfl
        · intro p t; rfl
      have e2' : Xt E.N E E' := by rw [← hN]; exact e2
      have hx : Ext E E' := ⟨e2'.os, e2'.tape, e2'.output, e2'.size, e2'.N, e2'.ρ, e2'.vt, e2'.S, e2'.S', e2'.L, e2'.K, e2'.kept, e2'.cells⟩
      have hlen := Ts_len h2
      unfold retH at h1
      split at h1
      · rename_i hnt
        split at h1
        · rename_i v
          simp only [frc_eq, frcH_eq] at h1
          cases xs with
          | nil => simp at hlen
          | cons x xs =>
            cases xs with
            | cons y ys => simp at hlen
            | nil => exact ⟨x, by simpa using hrun, E', v, σ'.h, rfl, hx, e3.wf, e3.heap, h2.1, h1⟩
        · rename_i hne
          simp only [frc_eq, frcH_eq] at h1
          have hl : xs.length ≠ 1 := fun hl => by
            rw [hl] at hlen
            obtain ⟨o, ho⟩ := List.length_eq_one_iff.1 hlen
            exact hne o ho
          exact ⟨.tuple xs.toArray, by rw [hrun]; simp [hl], E', .tup (Vs.of vs), σ'.h, rfl, hx, e3.wf, e3.heap, ⟨xs.toArray, rfl, by simp [Vs.len_of, hlen], fun k y hk => tup_T' h2 hnt k y (by simpa using hk)⟩, h1⟩
      · exact h1.elim
    unfold bodyPost
    cases e with
    | normal => exact key e4
    | ret => exact key e4
    | _ => exact e4.elim
end
end Go.DD

/- Data in Lean, as values; arguments that are alike. -/
namespace Go.DD
set_option linter.unusedVariables false
set_option linter.unusedSimpArgs false
open Go.RowKit

/-- Bytes, as elements. -/
def bf (l : List UInt8) : Nat → V := fun k => .int .u8 ((l.getD k 0).toNat : Nat)
/-- A slice of bytes; an array of bytes. -/
def byV (b : Bool) (l : List UInt8) : V := .imm b 1 l.length (bf l)
def arrV (n : Nat) (l : List UInt8) : V := .row 1 n (bf l)

theorem isU8_bf (l : List UInt8) (k : Nat) : isU8 (bf l k) := by
  simp only [bf, isU8]
  have := (l.getD k 0).toNat_lt
  omega
theorem u8Of_bf (l : List UInt8) (k : Nat) : u8Of (bf l k) = l.getD k 0 := by
  simp [u8Of, bf, intOfV]
theorem bytesOf_bf (l : List UInt8) : bytesOf l.length (bf l) = l := by
  apply List.ext_getElem?
  intro k
  simp only [bytesOf, List.getElem?_map, u8Of_bf]
  by_cases hk : k < l.length
  · simp [hk, List.getD_eq_getElem?_getD]
  · simp [hk]
theorem bytesOf_length (n : Nat) (f : Nat → V) : (bytesOf n f).length = n := by simp [bytesOf]
theorem bf_bytesOf {n : Nat} {f : Nat → V} {k : Nat} (hk : k < n) (h : isU8 (f k)) : bf (bytesOf n f) k = f k := by
  cases hf : f k with
  | int q m =>
    rw [hf] at h
    cases q <;> simp only [isU8] at h
    simp only [bf, bytesOf, List.getD_eq_getElem?_getD, List.getElem?_map, List.getElem?_range hk, Option.map_some, Option.getD_some, u8Of, hf, intOfV]
    congr 1
    simp
    omega
  | _ => rw [hf] at h; simp only [isU8] at h

section
variable {P : Program}
/-- An argument seen otherwise. -/
theorem CP.le {gl : List (Nat × V)} {f : Nat} {xs ys : List V} {Φ : V → Prop} (h : ∀ E l, Ts E xs l → Ts E ys l) (hc : CP P gl f ys Φ) : CP P gl f xs Φ :=
  fun E args hw hN hK hgl hT => hc E args hw hN hK hgl (h E _ hT)
theorem T_imm_congr {E : Env} {l : Bool} {sz n : Nat} {f g : Nat → V} {x : Value} (h : ∀ k, k < n → f k = g k) (hT : T E (.imm l sz n f) x) : T E (.imm l sz n g) x := by
  obtain ⟨a, cp, h1, h2, h3⟩ := T_imm.1 hT
  exact T_imm.2 ⟨a, cp, h1, h2, h3.imp id fun ⟨b, off, h4, h5, h6⟩ => ⟨b, off, h4, h5, fun k hk => by rw [← h k hk]; exact h6 k hk⟩⟩
theorem T_row_congr {E : Env} {sz n : Nat} {f g : Nat → V} {x : Value} (h : ∀ k, k < n → f k = g k) (hT : T E (.row sz n f) x) : T E (.row sz n g) x := by
  obtain ⟨cs, rfl, h1, h2⟩ := T_agg rfl hT
  refine T_mkAgg rfl h1 ?_
  simp only [R] at h2 ⊢
  exact fun k hk => by rw [← h k hk]; exact h2 k hk
theorem T_emp_imm {E : Env} {l : Bool} {sz : Nat} {f : Nat → V} {x : Value} (hT : T E .emp x) : T E (.imm l sz 0 f) x := by
  obtain ⟨a, rfl⟩ := T_emp.1 hT
  exact T_imm.2 ⟨a, 0, rfl, Nat.le_refl _, .inl rfl⟩
end
end Go.DD

/- Contracts that are a function of plain data. -/
namespace Go.DD
set_option linter.unusedVariables false
set_option linter.unusedSimpArgs false
open Go.RowKit
/-- The arguments are those of some datum; it is as it must be; the result is that of it. -/
def mkF {α : Type} (args : α → List V) (pre : α → Prop) (res : α → V) : FSpec := fun xs Φ => ∃ a, xs = args a ∧ Ob (pre a) ∧ Φ (res a)
theorem mkF_ok {P : Program} {gl : List (Nat × V)} {n : Nat} {α : Type} {args : α → List V} {pre : α → Prop} {res : α → V}
    (h : ∀ a, pre a → ∀ Φ : V → Prop, Φ (res a) → CP P gl n (args a) Φ) : FOk P gl n (mkF args pre res) where
  sng := fun xs Φ h => by
    obtain ⟨a, rfl, hp, h⟩ := h
    exact ⟨_, h, fun _ h' => ⟨a, rfl, hp, h'⟩⟩
  ok := fun xs Φ h' => by
    obtain ⟨a, rfl, ⟨hp⟩, h'⟩ := h'
    exact h a hp Φ h'
inductive FL (P : Program) (gl : List (Nat × V)) : List (Nat × FSpec) → Prop where
  | nil : FL P gl []
  | cons {n : Nat} {F : FSpec} {l : List (Nat × FSpec)} (h : FOk P gl n F) (t : FL P gl l) : FL P gl ((n, F) :: l)
theorem FL.all {P : Program} {gl : List (Nat × V)} {l : List (Nat × FSpec)} (h : FL P gl l) : ∀ p ∈ l, FOk P gl p.1 p.2 := by
  induction h with
  | nil => intro p hp; cases hp
  | cons h t ih =>
    intro p hp
    rcases List.mem_cons.1 hp with rfl | hp
    · exact h
    · exact ih p hp
inductive HL (P : Program) (gl : List (Nat × V)) : List (Nat × SpecH) → Prop where
  | nil : HL P gl []
  | cons {n : Nat} {F : SpecH} {l : List (Nat × SpecH)} (h : SpecHOk P gl n F) (t : HL P gl l) : HL P gl ((n, F) :: l)
theorem HL.all {P : Program} {gl : List (Nat × V)} {l : List (Nat × SpecH)} (h : HL P gl l) : ∀ p ∈ l, SpecHOk P gl p.1 p.2 := by
  induction h with
  | nil => intro p hp; cases hp
  | cons h t ih =>
    intro p hp
    rcases List.mem_cons.1 hp with rfl | hp
    · exact h
    · exact ih p hp
mutual
/-- A value without references to variables: it fits itself. -/
def pln : V → Prop
  | .ref .. | .rref .. | .sl .. | .slx .. => False
  | .tup _ => False
  | .row _ n f => ∀ k, k < n → pln (f k)
  | .st l => plns l
  | .fn _ l => plns l
  | .iface _ v => pln v
  | _ => True
def plns : Vs → Prop
  | .nil => True
  | .cons v l => pln v ∧ plns l
end
mutual
theorem leV_refl {m : List (Option Nat)} : ∀ v, pln v → leV m v v
  | .row _ n f, h => by
    simp only [pln] at h
    simp only [leV]
    exact ⟨f, rfl, fun k hk => leV_refl (f k) (h k hk)⟩
  | .st l, h => by simp only [pln] at h; simp only [leV]; exact ⟨l, rfl, leVs_refl l h⟩
  | .fn _ l, h => by simp only [pln] at h; simp only [leV]; exact ⟨l, rfl, leVs_refl l h⟩
  | .iface _ v, h => by simp only [pln] at h; simp only [leV]; exact ⟨v, rfl, leV_refl v h⟩
  | .ref .., h | .rref .., h | .sl .., h | .slx .., h | .tup _, h => by simp only [pln] at h
  | .imm .., _ => by simp only [leV]; exact .inr ⟨_, rfl, fun _ _ => rfl⟩
  | .any, _ => by simp only [leV]; exact ⟨rfl, rfl⟩
  | .bool b, _ => by simp only [leV]; rfl
  | .int .., _ | .tt, _ | .ff, _ | .str _, _ | .nilp, _ | .pim .., _ | .emp, _ | .nilf, _ | .nili, _ => by simp only [leV]
theorem leVs_refl {m : List (Option Nat)} : ∀ l, plns l → leVs m l l
  | .nil, _ => by simp only [leVs]
  | .cons v l, h => by
    simp only [plns] at h
    simp only [leVs]
    exact ⟨leV_refl v h.1, leVs_refl l h.2⟩
end
theorem leV_eq {m : List (Option Nat)} {v v' : V} (h : v = v') (hp : pln v') : leV m v v' := by subst h; exact leV_refl _ hp
/-- A row with one element more. -/
theorem leV_snoc {m : List (Option Nat)} {i : Nat} {g F : Nat → V} (ha : ∀ k, k < i → g k = F k) (hb : g i = F i) (hp : ∀ k, k < i + 1 → pln (F k)) : ∀ k, k < i + 1 → leV m (g k) (F k) := fun k hk => by
  by_cases h : k < i
  · exact leV_eq (ha k h) (hp k hk)
  · obtain rfl : k = i := by omega
    exact leV_eq hb (hp k hk)
theorem if_snoc {i : Nat} {x : V} {b : Nat → V} {y : V} (h : b 0 = y) : (if i < i then x else b (i - i)) = y := by
  rw [if_neg (Nat.lt_irrefl i), Nat.sub_self, h]
end Go.DD
