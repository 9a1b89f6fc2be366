/- The condition of a code, reckoned; and that it is enough. -/
import Derived.Test.YtaekeldgnlphkaaD19
import Derived.Still
import Derived.KernelRfl
namespace Go.DD
set_option linter.unusedVariables false
open Go.RowKit

/-! ### Regions -/
def memN : Nat → List Nat → Bool | _, [] => false | n, k :: l => Nat.beq n k || memN n l
def freeD (Γ : Ctx) (ops : Array Oper) (listed : Array Bool) (i : Nat) : Bool :=
  match ops[i]? with
  | none => false
  | some oi => (List.range ops.size).all fun j => j == i || listed.getD j true || match ops[j]? with
      | some oj => oj.after.any (fun e => Region.binds .any e && e.on == i) || (oi.apart ops oj && compat Γ oi.op oj.op)
      | none => true
def lexFrom (Γ : Ctx) (ops : Array Oper) : Nat → Nat → Array Bool → Bool
  | 0, _, listed => (Region.ready .any ops listed).isEmpty
  | fuel + 1, k, listed => (Region.ready .any ops listed).contains k && freeD Γ ops listed k && lexFrom Γ ops fuel (k + 1) (listed.setIfInBounds k true)
def okDraw (Γ : Ctx) (ops : Array Oper) : Bool := lexFrom Γ ops ops.size 0 (Array.replicate ops.size false)

section
variable {P : Program} {Γ : Ctx}
theorem freeD_spec {ops : Array Oper} {i : Nat} {oi : Oper} {listed : Array Bool} (hi : ops[i]? = some oi) (h : freeD Γ ops listed i = true) (j : Nat) (oj : Oper)
    (hj : ops[j]? = some oj) (hne : j ≠ i) (hun : listed.getD j true = false) (hno : ∀ e ∈ oj.after, Region.binds .any e = true → e.on ≠ i) : oi.apart ops oj = true ∧ compat Γ oi.op oj.op = true := by
  simp only [freeD, hi, List.all_eq_true, List.mem_range] at h
  have h1 := h j (Array.getElem?_eq_some_iff.1 hj).1
  simp only [hj, Bool.or_eq_true, beq_iff_eq, hne, false_or, hun, Bool.false_eq_true, Bool.and_eq_true] at h1
  rcases h1 with h1 | h1
  · obtain ⟨e, he, hb⟩ := Array.any_eq_true'.1 h1
    simp only [Bool.and_eq_true, beq_iff_eq] at hb
    exact absurd hb.2 (hno e he hb.1)
  · exact h1
theorem AnyD_lex (hΓ : CtxOk P Γ) {ops : Array Oper} {Q : St → Prop} : ∀ (l : List Oper) (k : Nat) (listed : Array Bool) (σ : St), (∀ j, l[j]? = ops[k + j]?) →
    lexFrom Γ ops l.length k listed = true → opsD Γ ops.toList l Q σ → AnyD Γ ops Q l.length listed σ
  | [], _, _, _, _, hB, h => ⟨by simpa [lexFrom] using hB, h⟩
  | o :: l, k, listed, σ, hl, hB, h => by
    have h0 : ops[k]? = some o := by simpa using (hl 0).symm
    simp only [List.length_cons, lexFrom, Bool.and_eq_true] at hB
    obtain ⟨⟨hr, hf⟩, hB'⟩ := hB
    refine AnyD_first hΓ h0 l.length listed σ (freeD_spec h0 hf) (by simpa using hr) (stepD_mono hΓ (fun σ' h' => ?_) h)
    exact AnyD_lex hΓ l (k + 1) _ σ' (fun j => by have := hl (j + 1); simpa [Nat.add_assoc, Nat.add_comm 1 j] using this) hB' h'

theorem Sim.drew {E : Env} {σ : St} {a : Act} (h : Sim Γ E σ a) : Sim Γ E.drew σ a :=
  ⟨Env.wf_drew h.wf, drew_ok h.wf h.heap, fun k => T_ext h.wf E.ext_drew (h.tmp k), h.size, h.defers, h.gl.ext h.wf E.ext_drew⟩
theorem OK_region {id : Nat} {ops : Array Oper} {Q : Exit → St → Prop} {σ : St} (hΓ : CtxOk P Γ) (h : opsD Γ ops.toList ops.toList (Q .normal) σ) : OK P Γ (.region id ops false) Q σ :=
  ⟨fun E a hn hs => wp_region (by
    have := opsD_ok (P := P) hΓ (Q' := fun e a' w' => ∃ E' σ', w' = E'.w ∧ Xt Γ.n0 E E' ∧ Sim Γ E' σ' a' ∧ Q e σ') ops.toList 0 E σ a (fun j => by simp) hs h fun E' _ σ' hx hs' hq => ⟨E', σ', rfl, hx.xt hn, hs', hq⟩
    rw [List.range_eq_range']
    simpa using this)⟩
theorem OK_any {id : Nat} {ops : Array Oper} {Q : Exit → St → Prop} {σ : St} (hΓ : CtxOk P Γ) (hm : P.follows .mixedOrders = true) (h : AnyD Γ ops (Q .normal) ops.size (Array.replicate ops.size false) σ) : OK P Γ (.region id ops true) Q σ :=
  ⟨fun E a hn hs => wp_region_any hm (AnyD_ok (P := P) hΓ ops.size _ E.drew σ a hs.drew h fun E' _ σ' hx hs' hq => ⟨E', σ', rfl, ((E.ext_drew).trans hx).xt hn, hs', hq⟩)⟩
theorem OK_drawn {id : Nat} {ops : Array Oper} {Q : Exit → St → Prop} {σ : St} (hΓ : CtxOk P Γ) (hm : P.follows .mixedOrders = true) (hB : okDraw Γ ops = true) (h : opsD Γ ops.toList ops.toList (Q .normal) σ) : OK P Γ (.region id ops true) Q σ :=
  OK_any hΓ hm (by
    have := AnyD_lex hΓ ops.toList 0 (Array.replicate ops.size false) σ (fun j => by simp) (by simpa [okDraw] using hB) h
    simpa using this)
end

/-! ### Code -/
def chk (Γ : Ctx) : Code → Bool
  | .region id ops true => memN id Γ.ex || okDraw Γ ops
  | .seq a b => chk Γ a && chk Γ b
  | .cond _ a b => chk Γ a && chk Γ b
  | .block _ b => chk Γ b
  | .loop b => chk Γ b
  | _ => true
def setSlot (c : Operand) (v : V) (σ : St) : St := match c with | .tmp k => ⟨putT σ.t (some k) v, σ.h⟩ | _ => σ
def blockQ (id : Nat) (Q : Exit → St → Prop) : Exit → St → Prop := fun e σ => match e with | .exit j => (match Nat.beq j id with | true => Q .normal σ | false => Q (.exit j) σ) | e => Q e σ
/-- What is still to be done behind a code. -/
inductive Fr where
  | seq (b : Code)
  | block (id : Nat)
def behind (P : Program) (Γ : Ctx) (Q : Exit → St → Prop) : List Fr → Exit → St → Prop
  | [], e, σ => Q e σ
  | .seq b :: k, e, σ => seqQ (OK P Γ b (behind P Γ Q k)) (behind P Γ Q k) e σ
  | .block id :: k, e, σ => blockQ id (behind P Γ Q k) e σ
def leave (P : Program) (Γ : Ctx) (Q : Exit → St → Prop) (run : Code → List Fr → St → Prop) : Exit → List Fr → St → Prop
  | e, [], σ => Q e σ
  | .normal, .seq b :: k, σ => run b k σ
  | .exit i, .block id :: k, σ => match Nat.beq i id with | true => leave P Γ Q run .normal k σ | false => leave P Γ Q run (.exit i) k σ
  | e, _ :: k, σ => leave P Γ Q run e k σ
def vc (P : Program) (Γ : Ctx) (Q : Exit → St → Prop) : Nat → Code → List Fr → St → Prop
  | 0, _, _, _ => False
  | n + 1, c, k, σ =>
    match c with
    | .skip => leave P Γ Q (vc P Γ Q n) .normal k σ
    | .label _ => leave P Γ Q (vc P Γ Q n) .normal k σ
    | .region _ ops false => opsD Γ ops.toList ops.toList (fun σ => leave P Γ Q (vc P Γ Q n) .normal k σ) σ
    | .region id ops true => match memN id Γ.ex with
      | true => AnyD Γ ops (fun σ => leave P Γ Q (vc P Γ Q n) .normal k σ) ops.size (Array.replicate ops.size false) σ
      | false => opsD Γ ops.toList ops.toList (fun σ => leave P Γ Q (vc P Γ Q n) .normal k σ) σ
    | .seq a b => vc P Γ Q n a (.seq b :: k) σ
    | .cond c a b => match σ with
      | ⟨t, h⟩ => match St.ev Γ ⟨t, h⟩ c with
        | .tt => vc P Γ Q n a k ⟨t, h⟩
        | .ff => vc P Γ Q n b k ⟨t, h⟩
        | .bool x => (x = true → vc P Γ Q n a k (setSlot c .tt ⟨t, h⟩)) ∧ (x = false → vc P Γ Q n b k (setSlot c .ff ⟨t, h⟩))
        | _ => False
    | .block id b => vc P Γ Q n b (.block id :: k) σ
    | .loop b => OK P Γ (.loop b) (behind P Γ Q k) σ
    | .exit i => leave P Γ Q (vc P Γ Q n) (.exit i) k σ
    | .ret => leave P Γ Q (vc P Γ Q n) .ret k σ
    | _ => False
def chkK (Γ : Ctx) : List Fr → Bool
  | [] => true
  | .seq b :: k => chk Γ b && chkK Γ k
  | .block _ :: k => chkK Γ k

section
variable {P : Program} {Γ : Ctx}
theorem Sim.slot {E : Env} {σ : St} {a : Act} (h : Sim Γ E σ a) {c : Operand} {v : V} (ht : T E v (a.eval c)) : Sim Γ E (setSlot c v σ) a := by
  unfold setSlot
  split
  · refine ⟨h.wf, h.heap, fun k => ?_, h.size, h.defers, h.gl⟩
    simp only [putT]
    split
    · rename_i hb
      simp only [Nat.beq_eq] at hb
      subst hb; exact ht
    · exact h.tmp k
  · exact h
theorem OK_block {id : Nat} {b : Code} {Q : Exit → St → Prop} {σ : St} (h : OK P Γ b (blockQ id Q) σ) : OK P Γ (.block id b) Q σ :=
  ⟨fun E a hn hs => wp_block (wp_mono (h.out E a hn hs) fun e a' w' ⟨E', σ', h1, h2, h3, h4⟩ => by
    cases e with
    | exit j =>
      simp only [Exit.inBlock]
      simp only [blockQ] at h4
      split at h4
      · rename_i hb
        rw [Nat.beq_eq] at hb
        rw [if_pos hb]
        exact ⟨E', σ', h1, h2, h3, h4⟩
      · rename_i hb
        rw [if_neg (fun e => by rw [e] at hb; simp at hb)]
        exact ⟨E', σ', h1, h2, h3, h4⟩
    | _ => exact ⟨E', σ', h1, h2, h3, h4⟩)⟩
theorem OK_cond {c : Operand} {x y : Code} {Q : Exit → St → Prop} {σ : St} {b : Bool} (hb : ∀ E a, Sim Γ E σ a → a.eval c = .bool b) (ht : b = true → OK P Γ x Q (setSlot c .tt σ)) (hf : b = false → OK P Γ y Q (setSlot c .ff σ)) : OK P Γ (.cond c x y) Q σ :=
  ⟨fun E a hn hs => wp_cond_split (hb E a hs) (fun h => (ht h).out E a hn (hs.slot (T_tt.2 (by rw [hb E a hs, h])))) (fun h => (hf h).out E a hn (hs.slot (T_ff.2 (by rw [hb E a hs, h]))))⟩

theorem leave_ok {Q : Exit → St → Prop} {run : Code → List Fr → St → Prop} (hr : ∀ c k σ, chk Γ c = true → chkK Γ k = true → run c k σ → OK P Γ c (behind P Γ Q k) σ) :
    ∀ (k : List Fr) (e : Exit) (σ : St), chkK Γ k = true → leave P Γ Q run e k σ → behind P Γ Q k e σ
  | [], e, σ, _, h => by cases e <;> exact h
  | .seq b :: k, e, σ, hc, h => by
    simp only [chkK, Bool.and_eq_true] at hc
    cases e with
    | normal => exact hr b k σ hc.1 hc.2 h
    | _ => exact leave_ok hr k _ σ hc.2 h
  | .block id :: k, e, σ, hc, h => by
    simp only [chkK] at hc
    cases e with
    | exit i =>
      simp only [leave] at h
      simp only [behind, blockQ]
      split at h
      · exact leave_ok hr k _ σ hc h
      · exact leave_ok hr k _ σ hc h
    | _ => exact leave_ok hr k _ σ hc h

theorem vc_ok (hΓ : CtxOk P Γ) (hm : P.follows .mixedOrders = true) {Q : Exit → St → Prop} : ∀ (n : Nat) (c : Code) (k : List Fr) (σ : St), chk Γ c = true → chkK Γ k = true → vc P Γ Q n c k σ → OK P Γ c (behind P Γ Q k) σ
  | 0, _, _, _, _, _, h => h.elim
  | n + 1, c, k, σ, hc, hk, h => by
    have lv : ∀ (e : Exit) (σ : St), leave P Γ Q (vc P Γ Q n) e k σ → behind P Γ Q k e σ := fun e σ h => leave_ok (fun c k σ h1 h2 h3 => vc_ok hΓ hm n c k σ h1 h2 h3) k e σ hk h
    cases c with
    | skip => exact ⟨fun E a hn hs => wp_skip ⟨E, σ, rfl, (Ext.refl E).xt hn, hs, lv _ _ h⟩⟩
    | label l => exact ⟨fun E a hn hs => wp_label ⟨E, σ, rfl, (Ext.refl E).xt hn, hs, lv _ _ h⟩⟩
    | exit i => exact ⟨fun E a hn hs => wp_exit ⟨E, σ, rfl, (Ext.refl E).xt hn, hs, lv _ _ h⟩⟩
    | ret => exact ⟨fun E a hn hs => wp_ret ⟨E, σ, rfl, (Ext.refl E).xt hn, hs, lv _ _ h⟩⟩
    | region id ops draw =>
      have mono : ∀ {Q' : Exit → St → Prop} {c : Code} {σ : St}, OK P Γ c Q' σ → (∀ e σ, Q' e σ → behind P Γ Q k e σ) → OK P Γ c (behind P Γ Q k) σ := fun h hq => h.mono hq
      let Q' : Exit → St → Prop := fun e σ => match e with | .normal => leave P Γ Q (vc P Γ Q n) .normal k σ | _ => False
      have hQ' : ∀ e σ, Q' e σ → behind P Γ Q k e σ := fun e σ hq => by
        cases e <;> first | exact lv _ _ hq | exact hq.elim
      cases draw with
      | false => exact mono (OK_region (Q := Q') hΓ h) hQ'
      | true =>
        simp only [vc] at h
        simp only [chk, Bool.or_eq_true] at hc
        split at h
        · exact mono (OK_any (Q := Q') hΓ hm h) hQ'
        · rename_i hx
          rw [hx] at hc
          exact mono (OK_drawn (Q := Q') hΓ hm (by simpa using hc) h) hQ'
    | seq x y =>
      simp only [chk, Bool.and_eq_true] at hc
      refine OK_seq ((vc_ok hΓ hm n x (.seq y :: k) σ hc.1 (by simp [chkK, hc.2, hk]) h).mono fun e σ' hq => ?_)
      simpa only [behind] using hq
    | cond c x y =>
      simp only [chk, Bool.and_eq_true] at hc
      obtain ⟨t, hh⟩ := σ
      simp only [vc] at h
      split at h
      · rename_i he
        refine ⟨fun E a hn hs => wp_cond_true ?_ ((vc_ok hΓ hm n x k _ hc.1 hk h).out E a hn hs)⟩
        have := ev_ok hs.gl hs.tmp c
        rw [he] at this
        exact T_tt.1 this
      · rename_i he
        refine ⟨fun E a hn hs => wp_cond_false ?_ ((vc_ok hΓ hm n y k _ hc.2 hk h).out E a hn hs)⟩
        have := ev_ok hs.gl hs.tmp c
        rw [he] at this
        exact T_ff.1 this
      · rename_i b he
        refine OK_cond (b := b) (fun E a hs => ?_) (fun hb => vc_ok hΓ hm n x k _ hc.1 hk (h.1 hb)) (fun hb => vc_ok hΓ hm n y k _ hc.2 hk (h.2 hb))
        have := ev_ok hs.gl hs.tmp c
        rw [he] at this
        exact T_bool.1 this
      · exact h.elim
    | block id b =>
      refine OK_block ((vc_ok hΓ hm n b (.block id :: k) σ (by simpa [chk] using hc) (by simpa [chkK] using hk) h).mono fun e σ' hq => ?_)
      simpa only [behind] using hq
    | loop b => exact h
    | rangeFunc => exact h.elim
    | scope => exact h.elim
    | goto => exact h.elim
    | refuse => exact h.elim
end
end Go.DD
