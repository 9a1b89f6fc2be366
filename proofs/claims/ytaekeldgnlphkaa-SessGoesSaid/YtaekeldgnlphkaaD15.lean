/- Regions: in the given order, or in any. -/
import Derived.Test.YtaekeldgnlphkaaD14
namespace Go.DD
set_option linter.unusedVariables false
open Go.RowKit

def nth : List Oper → Nat → Option Oper | [], _ => none | o :: _, 0 => some o | _ :: l, k + 1 => nth l k
theorem nth_eq : ∀ (l : List Oper) (k : Nat), nth l k = l[k]? | [], k => by simp [nth] | o :: l, 0 => by simp [nth] | o :: l, k + 1 => by simp [nth, nth_eq l k]
def putT (t : Nat → V) (d : Option Nat) (v : V) : Nat → V := match d with | none => t | some d => fun k => match Nat.beq k d with | true => v | false => t k
def dstOk (n : Nat) : Option Nat → Bool | none => true | some d => Nat.blt d n
def gslot (l : List Oper) (g : Nat) : Option Nat := match nth l g with | some o => o.dst | none => none
def wantedD (l : List Oper) (o : Oper) (t : Nat → V) : Option Bool :=
  match o.guard with
  | none => some true
  | some (g, w) =>
    match gslot l g with
    | some d => match t d with | .tt => some w | .ff => some (!w) | .tup .nil => some false | _ => none
    | none => some false
def isG (all : List Oper) (d : Option Nat) : List Oper → Bool
  | [] => false
  | o :: l => match o.guard with
    | some (g, _) => (match gslot all g, d with | some a, some b => Nat.beq a b | _, _ => false) || isG all d l
    | none => isG all d l
def fin (g : Bool) (v : V) (K : V → Prop) : Prop :=
  match g with
  | true => match v with
    | .bool b => (b = true → K .tt) ∧ (b = false → K .ff)
    | v => K v
  | false => K v
def nrm (g : Bool) (v : V) : V := match g, v with | true, .bool true => .tt | true, .bool false => .ff | _, v => v
theorem fin_iff {g : Bool} {v : V} {K : V → Prop} : fin g v K ↔ K (nrm g v) := by
  unfold fin nrm
  cases g
  · exact Iff.rfl
  · cases v <;> first | exact Iff.rfl | skip
    rename_i b
    cases b <;> simp
theorem nrm_T {E : Env} {g : Bool} {v : V} {x : Value} (h : T E v x) : T E (nrm g v) x := by
  unfold nrm
  split
  · rw [T_bool] at h; exact T_tt.2 h
  · rw [T_bool] at h; exact T_ff.2 h
  · exact h

def stepV (Γ : Ctx) (l : List Oper) (o : Oper) (t : Nat → V) (h : Heap) (κ : V → Heap → Prop) : Prop :=
  match dstOk Γ.n o.dst with
  | true => match wantedD l o t with
    | some true => opD Γ o.op (St.ev Γ ⟨t, h⟩) h fun v k => fin (isG l o.dst l) v fun v => frc v fun v => κ v k
    | some false => κ (.tup .nil) h
    | none => False
  | false => False
def stepD (Γ : Ctx) (l : List Oper) (o : Oper) (K : St → Prop) (σ : St) : Prop :=
  match σ with
  | ⟨t, h⟩ => stepV Γ l o t h fun v k => K ⟨putT t o.dst v, k⟩
def opsD (Γ : Ctx) (all : List Oper) : List Oper → (St → Prop) → St → Prop
  | [], K, σ => K σ
  | o :: l, K, σ => stepD Γ all o (opsD Γ all l K) σ
def AnyD (Γ : Ctx) (ops : Array Oper) (Q : St → Prop) : Nat → Array Bool → St → Prop
  | 0, listed, σ => Region.ready .any ops listed = [] ∧ Q σ
  | fuel + 1, listed, σ => (Region.ready .any ops listed = [] → Q σ) ∧
    ∀ i ∈ Region.ready .any ops listed, match ops[i]? with
      | none => AnyD Γ ops Q fuel (listed.setIfInBounds i true) σ
      | some o => stepD Γ ops.toList o (AnyD Γ ops Q fuel (listed.setIfInBounds i true)) σ

structure Sim (Γ : Ctx) (E : Env) (σ : St) (a : Act) : Prop where
  wf : Wf E
  heap : SimH E σ.h
  tmp : ∀ k, T E (σ.t k) (a.eval (.tmp k))
  size : a.tmps.size = Γ.n
  defers : a.defers = []
  gl : GlOk Γ.gl E

section
variable {P : Program} {Γ : Ctx}

theorem Sim.put {E E' : Env} {σ : St} {a : Act} (hs : Sim Γ E σ a) (hx : Ext E E') (hw : Wf E') {h' : Heap} (hh : SimH E' h') {d : Option Nat} {v : V} {x : Value} (hd : dstOk Γ.n d = true) (ht : T E' v x) :
    Sim Γ E' ⟨putT σ.t d v, h'⟩ (a.put d x) where
  wf := hw
  heap := hh
  size := by cases d <;> simp [Act.put, hs.size]
  defers := by cases d <;> simp [Act.put, hs.defers]
  gl := hs.gl.ext hs.wf hx
  tmp := fun k => by
    cases d with
    | none => exact T_ext hs.wf hx (hs.tmp k)
    | some d =>
      simp only [dstOk, Nat.blt_eq] at hd
      simp only [putT]
      split
      · rename_i hb
        simp only [Nat.beq_eq] at hb
        subst hb
        simp only [Act.eval, Act.put]
        rw [Array.getD_eq_getD_getElem?, Array.getElem?_setIfInBounds_self_of_lt (by rw [hs.size]; exact hd)]
        exact ht
      · rename_i hb
        have hne : d ≠ k := fun e => by subst e; simp at hb
        have : (a.put (some d) x).eval (.tmp k) = a.eval (.tmp k) := by simp [Act.eval, Act.put, Array.getElem?_setIfInBounds_ne hne]
        rw [this]
        exact T_ext hs.wf hx (hs.tmp k)

theorem wantedD_ok {E : Env} {σ : St} {a : Act} (hs : Sim Γ E σ a) {ops : Array Oper} {o : Oper} {b : Bool} (h : wantedD ops.toList o σ.t = some b) : Region.wanted o (yielded ops a.tmps) = b := by
  unfold wantedD at h
  unfold Region.wanted
  split at h
  · rename_i hg
    rw [hg]
    cases h; rfl
  · rename_i g w hg
    rw [hg]
    simp only
    have hslot : gslot ops.toList g = (ops[g]?).bind (·.dst) := by
      unfold gslot
      rw [nth_eq, Array.getElem?_toList]
      cases ops[g]? <;> rfl
    rw [hslot] at h
    have hy : ∀ d, ops[g]?.bind (·.dst) = some d → ∀ c, a.eval (.tmp d) = .bool c → yielded ops a.tmps g = some c := fun d hd c hc => by
      unfold yielded
      rw [hd]
      simp only [Act.eval, Array.getD_eq_getD_getElem?] at hc
      cases ht : a.tmps[d]? with
      | none => rw [ht] at hc; simp [undef] at hc
      | some y => rw [ht] at hc; simp at hc; simp [ht, hc]
    have hn : ∀ d, ops[g]?.bind (·.dst) = some d → (∀ c, a.eval (.tmp d) ≠ .bool c) → yielded ops a.tmps g = none := fun d hd hc => by
      unfold yielded
      rw [hd]
      simp only [Act.eval, Array.getD_eq_getD_getElem?] at hc
      cases ht : a.tmps[d]? with
      | none => simp [ht]
      | some y =>
        rw [ht] at hc
        simp only [Option.bind_some, ht]
        cases y <;> first | rfl | exact absurd rfl (hc _)
    split at h
    · rename_i d hd
      have hT := hs.tmp d
      split at h
      · rename_i he
        rw [he] at hT
        rw [hy d hd true (T_tt.1 hT)]
        cases h
        cases b <;> rfl
      · rename_i he
        rw [he] at hT
        rw [hy d hd false (T_ff.1 hT)]
        cases h
        cases w <;> rfl
      · rename_i he
        rw [he] at hT
        obtain ⟨xs, h1, h2, _⟩ := hT
        rw [hn d hd (fun c hc => by rw [hc] at h1; cases h1)]
        cases h; rfl
      · cases h
    · rename_i hd
      cases h
      unfold yielded
      rw [hd]
      rfl

theorem stepD_ok (hΓ : CtxOk P Γ) {E : Env} {σ : St} {a : Act} (hs : Sim Γ E σ a) {ops : Array Oper} {i : Nat} {o : Oper} (hi : ops[i]? = some o) {K : St → Prop} {K' : Act → World → Prop} {Q : Exit → Act → World → Prop}
    (hd : stepD Γ ops.toList o K σ) (hk : ∀ E' a' σ', Ext E E' → Sim Γ E' σ' a' → K σ' → K' a' E'.w) : wpOp P ops Q i K' a E.w := by
  obtain ⟨t, h⟩ := σ
  unfold stepD stepV at hd
  simp only at hd
  split at hd
  · rename_i hdst
    unfold wpOp
    simp only [hi]
    split at hd
    · rename_i hw
      rw [wantedD_ok hs hw]
      simp only [if_true]
      refine .inl (UponN.wp (opD_ok hΓ hs.wf hs.heap hs.gl (ev_ok hs.gl hs.tmp) hd) fun x w' ⟨E', v, h', e1, e2, e3, e4, e5, e6⟩ => ?_)
      subst e1
      replace e6 := fin_iff.1 e6
      rw [frc_eq] at e6
      exact hk E' _ _ e2 (hs.put e2 e3 e4 hdst (nrm_T e5)) e6
    · rename_i hw
      rw [wantedD_ok hs hw]
      simp only [Bool.false_eq_true, if_false]
      exact hk E _ _ (Ext.refl E) (hs.put (v := .tup .nil) (Ext.refl E) hs.wf hs.heap hdst ⟨#[], rfl, rfl, fun k y h => by simp at h⟩) hd
    · exact hd.elim
  · exact hd.elim

theorem opsD_ok (hΓ : CtxOk P Γ) {ops : Array Oper} {Q : St → Prop} {Q' : Exit → Act → World → Prop} : ∀ (l : List Oper) (k : Nat) (E : Env) (σ : St) (a : Act), (∀ j, l[j]? = ops[k + j]?) → Sim Γ E σ a →
    opsD Γ ops.toList l Q σ → (∀ E' a' σ', Ext E E' → Sim Γ E' σ' a' → Q σ' → Q' .normal a' E'.w) → wpOps P ops Q' (List.range' k l.length) a E.w
  | [], k, E, σ, a, _, hs, hd, hk => hk E a σ (Ext.refl E) hs hd
  | o :: l, k, E, σ, a, hl, hs, hd, hk => by
    have h0 : ops[k]? = some o := by simpa using (hl 0).symm
    rw [List.length_cons, List.range'_succ, wpOps_cons]
    refine stepD_ok hΓ hs h0 hd fun E' a' σ' hx hs' hd' => ?_
    exact opsD_ok hΓ l (k + 1) E' σ' a' (fun j => by have := hl (j + 1); simpa [Nat.add_assoc, Nat.add_comm 1 j] using this) hs' hd' fun E'' a'' σ'' hx' => hk E'' a'' σ'' (hx.trans hx')

theorem AnyD_ok (hΓ : CtxOk P Γ) {ops : Array Oper} {Q : St → Prop} {Q' : Exit → Act → World → Prop} : ∀ (fuel : Nat) (listed : Array Bool) (E : Env) (σ : St) (a : Act), Sim Γ E σ a →
    AnyD Γ ops Q fuel listed σ → (∀ E' a' σ', Ext E E' → Sim Γ E' σ' a' → Q σ' → Q' .normal a' E'.w) → wpAny P .any ops Q' fuel listed a E.w
  | 0, listed, E, σ, a, hs, hd, hk => ⟨hd.1, hk E a σ (Ext.refl E) hs hd.2⟩
  | fuel + 1, listed, E, σ, a, hs, hd, hk => by
    refine ⟨fun h => hk E a σ (Ext.refl E) hs (hd.1 h), fun i hi => ?_⟩
    have := hd.2 i hi
    obtain ⟨_, o, ho, _⟩ := mem_ready.1 hi
    simp only [ho] at this
    exact stepD_ok hΓ hs ho this fun E' a' σ' hx hs' hd' => AnyD_ok hΓ fuel _ E' σ' a' hs' hd' fun E'' a'' σ'' hx' => hk E'' a'' σ'' (hx.trans hx')
end
end Go.DD
