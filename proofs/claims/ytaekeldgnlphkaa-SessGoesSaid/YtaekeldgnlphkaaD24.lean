/- From a function's body to its contract. -/
import Derived.Test.YtaekeldgnlphkaaD23
namespace Go.DD
set_option linter.unusedVariables false
open Go.RowKit

def resL (tb : List (Option TI)) (σ : St) : List ResultVar → (List V → Prop) → Prop
  | [], κ => κ []
  | .tmp t :: l, κ => resL tb σ l fun vs => κ (σ.t t :: vs)
  | .cell a t :: l, κ => loadD tb t (σ.t a) σ.h fun v => resL tb σ l fun vs => κ (v :: vs)
def outL (h : Heap) : List V → (List V → Prop) → Prop
  | [], κ => κ []
  | v :: l, κ => outV h v fun v' => outL h l fun l' => κ (v' :: l')
def oneOf : List V → (V → Prop) → Prop
  | [v], Φ => frc v Φ
  | os, Φ => frc (.tup (Vs.of os)) Φ
def finQ (Γ : Ctx) (rs : List ResultVar) (Φ : V → Prop) : Exit → St → Prop := fun e σ => match e with
  | .normal | .ret => resL Γ.tb σ rs fun vs => outL σ.h vs fun os => oneOf os Φ
  | _ => False
def nthV : List V → Nat → V | [], _ => .tup .nil | v :: _, 0 => v | _ :: l, k + 1 => nthV l k
def entry (as : List V) : St := ⟨fun k => nthV as k, []⟩

section
variable {P : Program} {Γ : Ctx}
theorem nthV_T {E : Env} : ∀ (as : List V) (xs : List Value) (m k : Nat), Ts E as xs → T E (nthV as k) ((xs ++ List.replicate m undef)[k]?.getD undef)
  | [], [], m, k, _ => by
    have : ((([] : List Value) ++ List.replicate m undef)[k]?.getD undef) = undef := by
      simp only [List.nil_append, List.getElem?_replicate]
      split <;> rfl
    rw [this]
    exact ⟨#[], rfl, rfl, fun k y h => by simp at h⟩
  | v :: l, x :: xs, m, 0, h => by simpa [nthV] using h.1
  | v :: l, x :: xs, m, k + 1, h => by simpa [nthV] using nthV_T l xs m k h.2
  | [], _ :: _, _, _, h => h.elim
  | _ :: _, [], _, _, h => h.elim
theorem Ts_len {E : Env} : ∀ {as : List V} {xs : List Value}, Ts E as xs → as.length = xs.length
  | [], [], _ => rfl
  | _ :: _, _ :: _, h => by simp [Ts_len h.2]
  | [], _ :: _, h => h.elim
  | _ :: _, [], h => h.elim

theorem entry_sim {E : Env} (hw : Wf E) (hN : E.N = 0) (hgl : GlOk Γ.gl E) {as : List V} {args : Array Value} (hts : Ts E as args.toList) {n : Nat} (hn : Γ.n = n) (hle : as.length ≤ n) :
    Sim Γ E (entry as) { tmps := args ++ Array.replicate (n - args.size) undef, defers := [] } where
  wf := hw
  heap := ⟨by simp [entry, hN], fun i v h => by simp [entry] at h, fun i j v v' h => by simp [entry] at h⟩
  tmp := fun k => by
    have := nthV_T as args.toList (n - args.size) k hts
    simp only [Act.eval, entry, Array.getD_eq_getD_getElem?]
    rw [← Array.getElem?_toList]
    simpa using this
  size := by
    have := Ts_len hts
    simp at this ⊢
    omega
  defers := rfl
  gl := hgl

theorem asAddr_load {t : Nat} {X : Value} {E : Env} {v : V} {h : Heap} {κ : V → Prop} {tb : List (Option TI)} (hd : loadD tb t v h κ) (hT : T E v X) (w : World) : (do loadVar t (← asAddr X) : Sem Value).run P w = (Instr.loadAt t X).run P w := by
  have : ∃ a, X = .pointer (some a) := by
    unfold loadD at hd
    split at hd
    · exact hd.elim
    · split at hd
      · exact ⟨_, (T_ref.1 hT).2⟩
      · exact ⟨_, (T_rref.1 hT).2⟩
      · obtain ⟨b, off, h1, _⟩ := T_pim.1 hT; exact ⟨_, h1⟩
      · exact hd.elim
  obtain ⟨a, rfl⟩ := this
  simp [asAddr, Instr.loadAt, Instr.sureAddr]
theorem resL_ok (hΓ : CtxOk P Γ) {E : Env} {σ : St} {a : Act} (hs : Sim Γ E σ a) :
    ∀ (rs : List ResultVar) (κ : List V → Prop), resL Γ.tb σ rs κ → ∃ vs xs, κ vs ∧ Ts E vs xs ∧ ∀ f : ResultVar → Sem Value, (∀ u, f (.tmp u) = pure (a.tmps.getD u undef)) → (∀ p t, f (.cell p t) = (do loadVar t (← asAddr (a.tmps.getD p undef)))) → (rs.mapM f).run P E.w = .ok xs E.w
  | [], κ, hd => ⟨[], [], hd, trivial, fun _ _ _ => by simp⟩
  | .tmp t :: l, κ, hd => by
    simp only [resL] at hd
    obtain ⟨vs, xs, h1, h2, h3⟩ := resL_ok hΓ hs l _ hd
    exact ⟨_, a.eval (.tmp t) :: xs, h1, ⟨hs.tmp t, h2⟩, fun f hf hc => by simp [List.mapM_cons, hf, h3 f hf hc, Act.eval]⟩
  | .cell p t :: l, κ, hd => by
    simp only [resL] at hd
    obtain ⟨x, v, h1, h2, h3⟩ := loadD_ok hΓ.tb hs.wf hs.heap hd (hs.tmp p)
    obtain ⟨vs, xs, h4, h5, h6⟩ := resL_ok hΓ hs l _ h3
    refine ⟨_, x :: xs, h4, ⟨h2, h5⟩, fun f hf hc => ?_⟩
    have h7 := (asAddr_load (P := P) hd (hs.tmp p) E.w).trans h1
    rw [List.mapM_cons, hc]
    have h7' : (do loadVar t (← asAddr (a.tmps.getD p undef)) : Sem Value).run P E.w = .ok x E.w := h7
    rw [Sem.run_bind, h7']
    simp [h6 f hf hc]
theorem outL_ok {E : Env} {h : Heap} (hs : SimH E h) : ∀ (vs : List V) (xs : List Value) (κ : List V → Prop), Ts E vs xs → outL h vs κ → ∃ os, κ os ∧ Ts (E.out h) os xs ∧ (∀ o ∈ os, own o ∧ o.isTup = false) ∧ os.length = xs.length
  | [], [], κ, _, hd => ⟨[], hd, trivial, fun _ h => by simp at h, rfl⟩
  | v :: l, x :: xs, κ, ht, hd => by
    simp only [outL] at hd
    obtain ⟨v', h1, h2, h3, h4⟩ := outV_T hs hd
    obtain ⟨os, h5, h6, h7, h8⟩ := outL_ok hs l xs _ ht.2 h1
    refine ⟨_, h5, ⟨h4 x ht.1, h6⟩, fun o ho => ?_, by simp [h8]⟩
    rcases List.mem_cons.1 ho with rfl | ho
    · exact ⟨h2, h3⟩
    · exact h7 o ho
  | [], _ :: _, _, h, _ => h.elim
  | _ :: _, [], _, h, _ => h.elim
theorem owns_of : ∀ {os : List V}, (∀ o ∈ os, own o ∧ o.isTup = false) → owns (Vs.of os)
  | [], _ => by simp [Vs.of, owns]
  | o :: os, h => by simp only [Vs.of, owns]; exact ⟨(h o (.head _)).1, owns_of fun u hu => h u (.tail _ hu)⟩
theorem Vs.len_of : ∀ (os : List V), (Vs.of os).len = os.length
  | [] => rfl
  | o :: os => by simp [Vs.of, Vs.len, Vs.len_of os]
theorem tup_T {E : Env} : ∀ {os : List V} {xs : List Value}, Ts E os xs → (∀ o ∈ os, own o ∧ o.isTup = false) → ∀ k y, xs[k]? = some y → match (Vs.of os).get k with
      | .any => True
      | u => u.isTup = false ∧ aggOk u y ∧ R E u (fun q => y.cells[q]?) 0
  | [], [], _, _, k, y, h => by simp at h
  | o :: os, x :: xs, ht, ho, 0, y, h => by
    simp at h; subst h
    have h1 := ht.1
    have h2 := (ho o (.head _)).2
    simp only [Vs.of, Vs.get]
    cases o <;> first | trivial | exact ⟨rfl, h1⟩ | simp [V.isTup] at h2
  | o :: os, x :: xs, ht, ho, k + 1, y, h => tup_T ht.2 (fun u hu => ho u (.tail _ hu)) k y (by simpa using h)
  | [], _ :: _, h, _, _, _, _ => h.elim
  | _ :: _, [], h, _, _, _, _ => h.elim

theorem CP_of_OK {f : Nat} {fn : Func} {c : Code} {as : List V} {Φ : V → Prop} (hΓ : CtxOk P Γ) (hf : P.funcs[f]? = some fn) (hb : fn.body = some c) (hname : (fn.name == "runtime.NumGoroutine") = false)
    (hn : Γ.n = fn.ntmps) (hn0 : Γ.n0 = 0) (hle : as.length ≤ fn.ntmps) (h : OK P Γ c (finQ Γ fn.results.toList Φ) (entry as)) : CP P Γ.gl f as Φ := by
  intro E args hw hN hall hgl hts
  have hcall : (callFunc f args).run P E.w = .ok (.enter f args) E.w := by
    have hname' : ¬ fn.name = "runtime.NumGoroutine" := by simpa using hname
    simp [callFunc, hf, hname', hb]
  rw [hcall]
  refine calls_of_wp hf hb (wp_mono (h.out E _ (by omega) (entry_sim hw hN hgl hts hn hle)) fun e a' w' ⟨E', σ', e1, e2, e3, e4⟩ => ?_)
  subst e1
  have key : resL Γ.tb σ' fn.results.toList (fun vs => outL σ'.h vs fun os => oneOf os Φ) → a'.defers = [] ∧ ∃ v, (results fn a'.tmps).run P E'.w = .ok v E'.w ∧ ∃ E'' u, E'.w = E''.w ∧ Xt 0 E E'' ∧ Wf E'' ∧ T E'' u v ∧ own u ∧ Φ u := fun hd => by
    refine ⟨e3.defers, ?_⟩
    obtain ⟨vs, xs, h1, h2, h3⟩ := resL_ok hΓ e3 _ _ hd
    obtain ⟨os, h4, h5, h6, h7⟩ := outL_ok e3.heap vs xs _ h2 h1
    have hrun : (results fn a'.tmps).run P E'.w = .ok (if h : xs.toArray.size = 1 then xs.toArray[0] else .tuple xs.toArray) E'.w := by
      unfold results
      rw [show fn.results = fn.results.toList.toArray by simp, List.mapM_toArray]
      simp only [Sem.run_bind, Sem.run_map]
      rw [h3]
      · simp
      · intro u; rfl
      · intro p t; rfl
    have hxt : Xt 0 E (E'.out σ'.h) := by
      have e2' : Xt 0 E E' := { e2 with N := Nat.zero_le _, ρ := fun i hi => absurd hi (Nat.not_lt_zero i), vt := fun i hi => absurd hi (Nat.not_lt_zero i) }
      exact { e2' with
        N := Nat.le_refl _
        ρ := fun i hi => absurd hi (Nat.not_lt_zero i)
        vt := fun i hi => absurd hi (Nat.not_lt_zero i)
        S := fun b hb => .inl (e2.S b hb)
        S' := fun b hb => by
          rcases hb with hb | ⟨i, v, k1, k2, rfl⟩
          · exact e2.S' b hb
          · refine .inr (Nat.le_of_not_lt fun hlt => ?_)
            rcases e3.heap.live i v k1 with ⟨k3, _⟩ | ⟨_, k3, _⟩
            · rw [k3] at k2; cases k2
            · exact k3 (e2.K _ (hall _ hlt))
        L := e2.L
        K := fun b hb => .inl (e2.K b hb) }
    by_cases h1 : ∃ o, os = [o]
    · obtain ⟨o, rfl⟩ := h1
      cases xs with
      | nil => simp at h7
      | cons x xs =>
        cases xs with
        | cons y ys => simp at h7
        | nil =>
          refine ⟨x, by simpa using hrun, E'.out σ'.h, o, rfl, hxt, Env.out_wf e3.wf e3.heap, h5.1, (h6 o (.head _)).1, by have h4' : frc o Φ := h4; rwa [frc_eq] at h4'⟩
    · have hlen : xs.length ≠ 1 := fun hl => by
        rw [hl] at h7
        obtain ⟨o, ho⟩ := List.length_eq_one_iff.1 h7
        exact h1 ⟨o, ho⟩
      have h4' : Φ (.tup (Vs.of os)) := by
        unfold oneOf at h4
        split at h4
        · exact absurd ⟨_, rfl⟩ h1
        · rwa [frc_eq] at h4
      refine ⟨.tuple xs.toArray, by rw [hrun]; simp [hlen], E'.out σ'.h, .tup (Vs.of os), rfl, hxt, Env.out_wf e3.wf e3.heap, ⟨xs.toArray, rfl, ?_, fun k y hk => tup_T h5 h6 k y (by simpa using hk)⟩, by simp only [own]; exact owns_of h6, h4'⟩
      simp [Vs.len_of, h7]
  unfold bodyPost
  cases e with
  | normal => exact key e4
  | ret => exact key e4
  | _ => exact e4.elim
end
end Go.DD
