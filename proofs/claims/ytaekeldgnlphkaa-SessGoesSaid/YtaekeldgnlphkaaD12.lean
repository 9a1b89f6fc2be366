/- One operation at a time: a table of what each does to the abstract state. -/
import Derived.Test.YtaekeldgnlphkaaD11
namespace Go.DD
set_option linter.unusedVariables false
open Go.RowKit

abbrev Heap := List (Option V)
structure St where
  t : Nat → V
  h : Heap
/-- What a call does: to plain memory nothing (but new stable rows); or to the local heap, too. -/
def SpecP := List V → Heap → (V → Prop) → Prop
def SpecH := List V → Heap → (V → Heap → Prop) → Prop
structure Ctx where
  tb : List (Option TI)
  fs : List (Nat × SpecP)
  fh : List (Nat × SpecH)
  gl : List (Nat × V)
  n : Nat
  n0 : Nat := 0
  ex : List Nat := []

def lookup {α : Type} : List (Nat × α) → Nat → Option α | [], _ => none | (k, s) :: l, n => match Nat.beq k n with | true => some s | false => lookup l n
def lookV : List (Nat × V) → Nat → Option V | [], _ => none | (k, s) :: l, n => match Nat.beq k n with | true => some s | false => lookV l n

def cv : Value → V
  | .int k n => .int k n
  | .bool true => .tt
  | .bool false => .ff
  | .string s => .str s.data.toList
  | .pointer none => .nilp
  | .slice _ 0 0 => .emp
  | .nilFunc => .nilf
  | .nilIface => .nili
  | _ => .any
def St.ev (Γ : Ctx) (σ : St) : Operand → V
  | .tmp t => σ.t t
  | .const v => cv v
  | .global g => match lookV Γ.gl g with | some v => .pim false v | none => .any
  | .func f => .fn f .nil

def Vs.toList : Vs → List V | .nil => [] | .cons v l => v :: l.toList
def mapEv (ev : Operand → V) : List Operand → List V | [] => [] | x :: l => ev x :: mapEv ev l
def mapEv2 (ev : Operand → V) : List (Nat × Operand) → List (Nat × V) | [] => [] | (k, x) :: l => (k, ev x) :: mapEv2 ev l
def optEv (ev : Operand → V) : Option Operand → Option V | none => none | some x => some (ev x)
def app (l m : List V) : List V := match l with | [] => m | v :: l => v :: app l m

def callP (Γ : Ctx) (f : V) (as : List V) (h : Heap) (κ : V → Prop) : Prop :=
  match f with
  | .fn f caps => match lookup Γ.fs f with | some s => s (app as caps.toList) h κ | none => False
  | _ => False
def callH (Γ : Ctx) (f : V) (as : List V) (h : Heap) (κ : V → Heap → Prop) : Prop :=
  match f with
  | .fn f caps => match lookup Γ.fh f with | some s => s (app as caps.toList) h κ | none => False
  | _ => False

/-- Operations that leave the local heap alone. -/
def pD (Γ : Ctx) (o : Op) (ev : Operand → V) (h : Heap) (κ : V → Prop) : Prop :=
  match o with
  | .move x | .assign x => κ (ev x)
  | .pick c a b => pickD (ev c) (ev a) (ev b) κ
  | .build t parts => buildD Γ.tb t (mapEv2 ev parts.toList) κ
  | .load t a => loadD Γ.tb t (ev a) h κ
  | .nilCheck x => nilCheckD (ev x) κ
  | .binOp op t x y _ => binD Γ.tb op t x y (ev x) (ev y) κ
  | .unOp op _ x => unD op (ev x) κ
  | .convert s d x => convNum Γ.tb s d (ev x) κ
  | .slice t x lo hi mx => sliceD Γ.tb t (ev x) (optEv ev lo) (optEv ev hi) (optEv ev mx) h κ
  | .fieldAddr s x k => fieldAddrD Γ.tb s (ev x) k κ
  | .field s x k => fieldD Γ.tb s (ev x) k κ
  | .indexAddr t x i => indexAddrD Γ.tb t (ev x) (ev i) κ
  | .index t x i => indexD Γ.tb t (ev x) (ev i) κ
  | .sliceToArrayPointer t x => arrayAtD Γ.tb t (ev x) κ
  | .makeInterface t x => makeInterfaceD Γ.tb t (ev x) κ
  | .extract x k => extractD (ev x) k κ
  | .call ⟨.builtin .len, args, ts⟩ => match args.toList, ts.toList with | [x], [t] => lenD Γ.tb t (ev x) κ | _, _ => False
  | .call ⟨.builtin .cap, args, ts⟩ => match args.toList, ts.toList with | [x], [t] => capD Γ.tb t (ev x) κ | _, _ => False
  | .call ⟨.builtin .min, args, _⟩ => match args.toList with | [x, y] => minmaxD false [ev x, ev y] κ | _ => False
  | .call ⟨.builtin .max, args, _⟩ => match args.toList with | [x, y] => minmaxD true [ev x, ev y] κ | _ => False
  | .call ⟨.value f, args, _⟩ => callP Γ (ev f) (mapEv ev args.toList) h κ
  | _ => False
/-- Operations that change it. -/
def wD (Γ : Ctx) (o : Op) (ev : Operand → V) (h : Heap) (κ : V → Heap → Prop) : Prop :=
  match o with
  | .alloc t => allocD Γ.tb t h κ
  | .box _ x => boxD (ev x) h κ
  | .store t a x => storeD Γ.tb t (ev a) (ev x) h (κ .any)
  | .call ⟨.builtin .append, args, ts⟩ => match args.toList, ts.toList with | [x, y], [t, u] => appendD Γ.tb t u (ev x) (ev y) h κ | _, _ => False
  | .call ⟨.value f, args, _⟩ => callH Γ (ev f) (mapEv ev args.toList) h κ
  | _ => False
/-- May it change the heap? Read it? Is its outcome not one alone? -/
def isW (Γ : Ctx) : Op → Bool
  | .alloc _ | .box .. | .store .. | .call ⟨.builtin .append, _, _⟩ => true
  | .call ⟨.value (.func f), _, _⟩ => match lookup Γ.fh f with | some _ => true | none => false
  | _ => false
def isR : Op → Bool
  | .load .. | .slice .. | .call ⟨.value _, _, _⟩ => true
  | _ => false
def isDem : Op → Bool
  | .call ⟨.builtin .cap, _, _⟩ => true
  | .binOp _ _ _ (.const (.slice ..)) _ => true
  | _ => false
/-! Values and heaps, made plain: no term of a former state is left in them. -/
def frcN : Nat → (Nat → Prop) → Prop | 0, κ => κ 0 | n + 1, κ => frcN n fun m => κ (m + 1)
def frcP : List Step → (List Step → Prop) → Prop
  | [], κ => κ []
  | .f k o :: p, κ => frcP p fun p => κ (.f k o :: p)
  | .i k o :: p, κ => frcP p fun p => κ (.i k o :: p)
mutual
def frc : V → (V → Prop) → Prop
  | .ref i p, κ => frcN i fun i => frcP p fun p => κ (.ref i p)
  | .rref i p sz lo n, κ => frcN i fun i => frcP p fun p => κ (.rref i p sz lo n)
  | .sl i p sz lo len cap, κ => frcN i fun i => frcP p fun p => κ (.sl i p sz lo len cap)
  | .st l, κ => frcs l fun l => κ (.st l)
  | .tup l, κ => frcs l fun l => κ (.tup l)
  | .fn f l, κ => frcs l fun l => κ (.fn f l)
  | .iface t v, κ => frc v fun v => κ (.iface t v)
  | .pim l v, κ => frc v fun v => κ (.pim l v)
  | .int k n, κ => κ (.int k n)
  | .tt, κ => κ .tt
  | .ff, κ => κ .ff
  | .bool b, κ => κ (.bool b)
  | .str s, κ => κ (.str s)
  | .nilp, κ => κ .nilp
  | .emp, κ => κ .emp
  | .imm l sz n f, κ => κ (.imm l sz n f)
  | .nilf, κ => κ .nilf
  | .nili, κ => κ .nili
  | .row sz n f, κ => κ (.row sz n f)
  | .any, κ => κ .any
def frcs : Vs → (Vs → Prop) → Prop
  | .nil, κ => κ .nil
  | .cons v l, κ => frc v fun v => frcs l fun l => κ (.cons v l)
end
def frcH : Heap → (Heap → Prop) → Prop
  | [], κ => κ []
  | none :: l, κ => frcH l fun l => κ (none :: l)
  | some v :: l, κ => frc v fun v => frcH l fun l => κ (some v :: l)
theorem frcN_eq : ∀ (n : Nat) (κ : Nat → Prop), frcN n κ = κ n
  | 0, κ => by simp only [frcN]
  | n + 1, κ => by simp only [frcN]; exact frcN_eq n _
theorem frcP_eq : ∀ (p : List Step) (κ : List Step → Prop), frcP p κ = κ p
  | [], κ => by simp only [frcP]
  | .f k o :: p, κ => by simp only [frcP]; exact frcP_eq p _
  | .i k o :: p, κ => by simp only [frcP]; exact frcP_eq p _
mutual
theorem frc_eq : ∀ (v : V) (κ : V → Prop), frc v κ = κ v
  | .ref i p, κ => by simp only [frc, frcN_eq, frcP_eq]
  | .rref i p sz lo n, κ => by simp only [frc, frcN_eq, frcP_eq]
  | .sl i p sz lo len cap, κ => by simp only [frc, frcN_eq, frcP_eq]
  | .st l, κ => by simp only [frc]; exact frcs_eq l _
  | .tup l, κ => by simp only [frc]; exact frcs_eq l _
  | .fn f l, κ => by simp only [frc]; exact frcs_eq l _
  | .iface t v, κ => by simp only [frc]; exact frc_eq v _
  | .pim l v, κ => by simp only [frc]; exact frc_eq v _
  | .int .., κ | .tt, κ | .ff, κ | .bool _, κ | .str _, κ | .nilp, κ | .emp, κ | .imm .., κ | .nilf, κ | .nili, κ | .row .., κ | .any, κ => by simp only [frc]
theorem frcs_eq : ∀ (l : Vs) (κ : Vs → Prop), frcs l κ = κ l
  | .nil, κ => by simp only [frcs]
  | .cons v l, κ => by simp only [frcs]; rw [frc_eq v]; exact frcs_eq l _
end
theorem frcH_eq : ∀ (h : Heap) (κ : Heap → Prop), frcH h κ = κ h
  | [], κ => by simp only [frcH]
  | none :: l, κ => by simp only [frcH]; exact frcH_eq l _
  | some v :: l, κ => by simp only [frcH]; rw [frc_eq v]; exact frcH_eq l _
def opD (Γ : Ctx) (o : Op) (ev : Operand → V) (h : Heap) (κ : V → Heap → Prop) : Prop :=
  match isW Γ o with
  | true => wD Γ o ev h fun v k => frcH k fun k => κ v k
  | false => pD Γ o ev h (fun v => κ v h)

/-! ### What a call may be taken to do -/
def Ts (E : Env) : List V → List Value → Prop
  | [], [] => True
  | v :: l, x :: m => T E v x ∧ Ts E l m
  | _, _ => False
/-- What comes of an operation that yields a value or enters a function. -/
def UponV (P : Program) (K : Value → World → Prop) : Result Next → Prop
  | .ok (.value v) w' => K v w'
  | .ok (.enter f args) w' => Calls P f args w' fun | .returned v, w'' => K v w'' | _, _ => False
  | _ => False
def Fine (E : Env) (κ : V → Heap → Prop) (x : Value) (w' : World) : Prop := ∃ E' v h', w' = E'.w ∧ Ext E E' ∧ Wf E' ∧ SimH E' h' ∧ T E' v x ∧ κ v h'
/-- The globals' blocks are stable and hold what the table says. -/
def GlOk (gl : List (Nat × V)) (E : Env) : Prop := ∀ p ∈ gl, E.S p.1 ∧ R E.bare p.2 (cellsAt E.w p.1) 0
def SpecPOk (P : Program) (gl : List (Nat × V)) (f : Nat) (s : SpecP) : Prop :=
  (∀ as h κ, s as h κ → ∃ v, κ v ∧ ∀ κ' : V → Prop, κ' v → s as h κ') ∧
  ∀ (E : Env) (h : Heap) (as : List V) (args : Array Value) (κ : V → Prop), Wf E → SimH E h → GlOk gl E → Ts E as args.toList → s as h κ → UponV P (Fine E fun v h' => h' = h ∧ κ v) ((callFunc f args).run P E.w)
def SpecHOk (P : Program) (gl : List (Nat × V)) (f : Nat) (s : SpecH) : Prop :=
  (∀ as h κ, s as h κ → ∃ v h', κ v h' ∧ ∀ κ' : V → Heap → Prop, κ' v h' → s as h κ') ∧
  ∀ (E : Env) (h : Heap) (as : List V) (args : Array Value) (κ : V → Heap → Prop), Wf E → SimH E h → GlOk gl E → Ts E as args.toList → s as h κ → UponV P (Fine E κ) ((callFunc f args).run P E.w)
structure CtxOk (P : Program) (Γ : Ctx) : Prop where
  tb : TabOk P Γ.tb
  fs : ∀ p ∈ Γ.fs, SpecPOk P Γ.gl p.1 p.2
  fh : ∀ p ∈ Γ.fh, SpecHOk P Γ.gl p.1 p.2

theorem lookup_mem {α : Type} : ∀ {l : List (Nat × α)} {n : Nat} {s : α}, lookup l n = some s → (n, s) ∈ l
  | [], _, _, h => by simp [lookup] at h
  | (k, s') :: l, n, s, h => by
    simp only [lookup] at h
    split at h
    · rename_i hb
      simp only [Nat.beq_eq] at hb
      cases h; subst hb; exact .head _
    · exact .tail _ (lookup_mem h)
theorem lookV_mem : ∀ {l : List (Nat × V)} {n : Nat} {s : V}, lookV l n = some s → (n, s) ∈ l
  | [], _, _, h => by simp [lookV] at h
  | (k, s') :: l, n, s, h => by
    simp only [lookV] at h
    split at h
    · rename_i hb
      simp only [Nat.beq_eq] at hb
      cases h; subst hb; exact .head _
    · exact .tail _ (lookV_mem h)
theorem GlOk.ext {gl : List (Nat × V)} {E E' : Env} (hw : Wf E) (hx : Ext E E') (h : GlOk gl E) : GlOk gl E' := fun p hp => by
  obtain ⟨h1, h2⟩ := h p hp
  exact ⟨hx.S _ h1, by rw [cellsAt_of_block (hx.kept _ (hw.S _ h1))]; exact R_ext hw.bare hx.bare _ _ _ h2⟩

theorem cv_ok (E : Env) (v : Value) : T E (cv v) v := by
  unfold cv
  split <;> first
    | exact T_int.2 rfl | exact T_tt.2 rfl | exact T_ff.2 rfl | exact T_str.2 rfl | exact T_nilp.2 rfl | exact T_emp.2 ⟨_, rfl⟩ | exact T_nilf.2 rfl | exact T_nili.2 rfl | trivial
theorem ev_ok {Γ : Ctx} {E : Env} {σ : St} {a : Act} (hg : GlOk Γ.gl E) (ht : ∀ k, T E (σ.t k) (a.eval (.tmp k))) (x : Operand) : T E (σ.ev Γ x) (a.eval x) := by
  cases x with
  | tmp t => exact ht t
  | const v => exact cv_ok E v
  | global g =>
    simp only [St.ev]
    split
    · rename_i v hv
      obtain ⟨h1, h2⟩ := hg _ (lookV_mem hv)
      exact T_pim.2 ⟨g, 0, rfl, h1, h2⟩
    · trivial
  | func f => exact T_fn.2 ⟨#[], rfl, rfl, rfl, by simp [RL]⟩

section
variable {P : Program} {Γ : Ctx} {E : Env} {ev : Operand → V} {a : Act}
theorem mapEv_ok (hev : ∀ x, T E (ev x) (a.eval x)) : ∀ (l : List Operand), Ts E (mapEv ev l) (l.map a.eval)
  | [] => trivial
  | x :: l => ⟨hev x, mapEv_ok hev l⟩
theorem mapEv2_ok (hev : ∀ x, T E (ev x) (a.eval x)) : ∀ (l : List (Nat × Operand)), PartsT E (mapEv2 ev l) (l.map fun (i, x) => (i, a.eval x))
  | [] => trivial
  | (_, x) :: l => ⟨rfl, hev x, mapEv2_ok hev l⟩
theorem optEv_ok (hev : ∀ x, T E (ev x) (a.eval x)) (x : Option Operand) : OptT E (optEv ev x) (x.map a.eval) := by
  cases x with
  | none => exact .inl ⟨rfl, rfl⟩
  | some x => exact .inr ⟨_, _, rfl, rfl, hev x⟩
theorem Ts_app : ∀ {l m : List V} {xs ys : List Value}, Ts E l xs → Ts E m ys → Ts E (app l m) (xs ++ ys)
  | [], _, [], _, _, h => h
  | _ :: _, _, _ :: _, _, h1, h2 => ⟨h1.1, Ts_app h1.2 h2⟩
  | [], _, _ :: _, _, h, _ => h.elim
  | _ :: _, _, [], _, h, _ => h.elim
theorem caps_ok : ∀ (caps : Vs) (xs : Array Value) (o : Nat), xs.size = o + vsizes caps → caps.flat = true → RL E caps (fun k => xs[k]?) o → Ts E caps.toList (xs.toList.drop o)
  | .nil, xs, o, hs, _, _ => by
    simp only [vsizes, Nat.add_zero] at hs
    rw [List.drop_of_length_le (by simp [hs])]
    trivial
  | .cons v l, xs, o, hs, hf, hr => by
    simp only [Vs.flat, Bool.and_eq_true, Bool.not_eq_true'] at hf
    obtain ⟨⟨ha, htup⟩, hl⟩ := hf
    simp only [vsizes, vsize_scalar ha] at hs
    simp only [RL, vsize_scalar ha] at hr
    have hlt : o < xs.toList.length := by simp; omega
    rw [List.drop_eq_getElem_cons hlt]
    refine ⟨?_, caps_ok l xs (o + 1) (by omega) hl hr.2⟩
    obtain ⟨y, h1, h2⟩ := R_one v _ o 0 hr.1 (by rw [vsize_scalar ha]; omega)
    have hy : xs.toList[o] = y := by
      have h3 := (Array.getElem?_eq_some_iff.1 h1)
      obtain ⟨h4, h5⟩ := h3
      simpa using h5
    rw [hy]
    by_cases hone : v.one = true
    · refine T_mk hone h2 (R_shift v _ _ o 0 (fun q hq => ?_) hr.1)
      rw [vsize_scalar ha] at hq
      obtain rfl : q = 0 := by omega
      exact h1.symm
    · cases v <;> simp_all [V.one, V.isAgg, V.isTup, T]
end
end Go.DD
