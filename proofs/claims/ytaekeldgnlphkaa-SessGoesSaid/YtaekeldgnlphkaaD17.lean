/- Regions whose order is drawn: one order for all. -/
import Derived.Test.YtaekeldgnlphkaaD16
namespace Go.DD
set_option linter.unusedVariables false
open Go.RowKit
section
variable {P : Program} {Γ : Ctx}

theorem putT_comm {t : Nat → V} {d e : Option Nat} {v u : V} (h : ∀ x, d = some x → e ≠ some x) : putT (putT t d v) e u = putT (putT t e u) d v := by
  cases d with
  | none => rfl
  | some d =>
    cases e with
    | none => rfl
    | some e =>
      have hne : e ≠ d := fun he => h d rfl (by rw [he])
      funext k
      simp only [putT]
      split <;> split <;> first | rfl | skip
      rename_i h1 _ h2
      rw [Nat.beq_eq] at h1 h2
      exact absurd (h1.symm.trans h2) hne
theorem putT_ne {t : Nat → V} {d : Option Nat} {v : V} {k : Nat} (h : ∀ x, d = some x → x ≠ k) : putT t d v k = t k := by
  cases d with
  | none => rfl
  | some d =>
    simp only [putT]
    split
    · rename_i hb
      simp only [Nat.beq_eq] at hb
      exact absurd hb.symm (h d rfl)
    · rfl

/-- Slots that are alike where the operation looks. -/
theorem stepV_congr {ops : Array Oper} {o : Oper} {t t' : Nat → V} {h : Heap} {κ : V → Heap → Prop} (ht : ∀ k ∈ o.looksAt ops, t' k = t k) (hd : stepV Γ ops.toList o t h κ) : stepV Γ ops.toList o t' h κ := by
  have hw : wantedD ops.toList o t' = wantedD ops.toList o t := by
    unfold wantedD
    cases hg : o.guard with
    | none => rfl
    | some gw =>
      obtain ⟨g, w⟩ := gw
      simp only
      cases hs : gslot ops.toList g with
      | none => rfl
      | some d =>
        have : d ∈ o.looksAt ops := by
          unfold gslot at hs
          rw [nth_eq, Array.getElem?_toList] at hs
          refine List.mem_append_right _ ?_
          simp only [hg]
          cases ho : ops[g]? with
          | none => rw [ho] at hs; cases hs
          | some og => rw [ho] at hs; simp at hs; simp [hs]
        simp only [ht d this]
  unfold stepV at hd ⊢
  split at hd
  · rw [hw]
    split at hd
    · refine opD_congr (fun x hx => ?_) hd
      cases x with
      | tmp k =>
        exact (ht k (List.mem_append_left _ (List.mem_filterMap.2 ⟨.tmp k, by simpa using hx, rfl⟩))).symm
      | _ => rfl
    · exact hd
    · exact hd
  · exact hd
theorem stepV_sng (hΓ : CtxOk P Γ) {l : List Oper} {o : Oper} {t : Nat → V} {h : Heap} {κ : V → Heap → Prop} (hdem : isDem o.op = false) (hd : stepV Γ l o t h κ) :
    ∃ v k, κ v k ∧ (∀ κ' : V → Heap → Prop, κ' v k → stepV Γ l o t h κ') ∧ (isW Γ o.op = false → k = h) := by
  unfold stepV at hd
  split at hd
  · rename_i hdst
    split at hd
    · rename_i hw
      obtain ⟨v, k, h1, h2, h3⟩ := opD_sng hΓ hdem hd
      have h1 := fin_iff.1 h1
      rw [frc_eq] at h1
      refine ⟨_, k, h1, fun κ' h' => ?_, h3⟩
      unfold stepV
      simp only [hdst, hw]
      exact h2 _ (fin_iff.2 (by rw [frc_eq]; exact h'))
    · rename_i hw
      exact ⟨_, h, hd, fun κ' h' => by unfold stepV; simp only [hdst, hw]; exact h', fun _ => rfl⟩
    · exact hd.elim
  · exact hd.elim
theorem stepV_mono (hΓ : CtxOk P Γ) {l : List Oper} {o : Oper} {t : Nat → V} {h : Heap} {κ κ' : V → Heap → Prop} (hk : ∀ v k, (isW Γ o.op = false → k = h) → κ v k → κ' v k) (hd : stepV Γ l o t h κ) : stepV Γ l o t h κ' := by
  unfold stepV at *
  split at hd
  · split at hd
    · exact opD_mono hΓ (fun v k h1 h2 => fin_iff.2 (by have h2 := fin_iff.1 h2; rw [frc_eq] at h2 ⊢; exact hk _ k h1 h2)) hd
    · exact hk _ h (fun _ => rfl) hd
    · exact hd
  · exact hd
/-- Another heap, where none is looked at. -/
theorem stepV_heap {l : List Oper} {o : Oper} {t : Nat → V} {h h' : Heap} {κ : V → Heap → Prop} (hw : isW Γ o.op = false) (hr : isR o.op = false) (hd : stepV Γ l o t h (fun v _ => κ v h')) : stepV Γ l o t h' κ := by
  unfold stepV at *
  split at hd
  · split at hd
    · unfold opD at *
      simp only [hw] at hd ⊢
      exact pD_heap hr hd
    · exact hd
    · exact hd
  · exact hd

def compat (Γ : Ctx) (x y : Op) : Bool := !isDem x && !(isW Γ x && (isW Γ y || isR y)) && !(isW Γ y && isR x)

theorem stepD_swap (hΓ : CtxOk P Γ) {ops : Array Oper} {oi oj : Oper} (hap : oi.apart ops oj = true) (hc : compat Γ oi.op oj.op = true) {K : St → Prop} {σ : St}
    (hd : stepD Γ ops.toList oi (stepD Γ ops.toList oj K) σ) : stepD Γ ops.toList oj (stepD Γ ops.toList oi K) σ := by
  obtain ⟨h1, h2, h3⟩ := Oper.apart_spec hap
  simp only [compat, Bool.and_eq_true, Bool.not_eq_true', Bool.and_eq_false_iff, Bool.or_eq_false_iff] at hc
  obtain ⟨⟨hdem, hc1⟩, hc2⟩ := hc
  obtain ⟨t, h⟩ := σ
  unfold stepD at hd ⊢
  simp only at hd ⊢
  obtain ⟨v, k, hj, hO, hk⟩ := stepV_sng hΓ hdem hd
  have back : ∀ {κ : V → Heap → Prop} {m : Heap}, stepV Γ ops.toList oj (putT t oi.dst v) m κ → stepV Γ ops.toList oj t m κ := fun hx =>
    stepV_congr (fun q hq => (putT_ne fun x hx e => h1 x hx (e ▸ hq)).symm) hx
  have fwd : ∀ {κ : V → Heap → Prop} {u : V} {m : Heap}, stepV Γ ops.toList oi t m κ → stepV Γ ops.toList oi (putT t oj.dst u) m κ := fun hx =>
    stepV_congr (fun q hq => putT_ne fun x hx e => h3 x hx (e ▸ hq)) hx
  by_cases hwi : isW Γ oi.op = true
  · have hwj : isW Γ oj.op = false ∧ isR oj.op = false := by
      rcases hc1 with h | h
      · rw [hwi] at h; cases h
      · exact h
    have hj' := back hj
    have := stepV_heap (Γ := Γ) (h := k) (h' := h) (κ := fun u _ => K ⟨putT (putT t oi.dst v) oj.dst u, k⟩) hwj.1 hwj.2 (stepV_mono hΓ (fun u m hm hK => by rw [hm hwj.1] at hK; exact hK) hj')
    refine stepV_mono hΓ (fun u m hm hK => ?_) this
    rw [hm hwj.1]
    refine fwd (hO _ ?_)
    rw [← putT_comm h2]
    exact hK
  · have hwi : isW Γ oi.op = false := by simpa using hwi
    have hk' := hk hwi
    subst hk'
    refine stepV_mono hΓ (fun u m hm hK => ?_) (back hj)
    by_cases hwj : isW Γ oj.op = true
    · have hri : isR oi.op = false := by
        rcases hc2 with h | h
        · rw [hwj] at h; cases h
        · exact h
      refine fwd (stepV_heap hwi hri (hO _ ?_))
      rw [← putT_comm h2]
      exact hK
    · have := hm (by simpa using hwj)
      subst this
      refine fwd (hO _ ?_)
      rw [← putT_comm h2]
      exact hK

theorem stepD_mono (hΓ : CtxOk P Γ) {l : List Oper} {o : Oper} {K K' : St → Prop} {σ : St} (hk : ∀ σ, K σ → K' σ) (hd : stepD Γ l o K σ) : stepD Γ l o K' σ :=
  stepV_mono hΓ (fun _ _ _ h => hk _ h) hd

theorem notAfter {ops : Array Oper} {listed : Array Bool} {i : Nat} {oj : Oper} (hr : i ∈ Region.ready .any ops listed) (hall : ∀ e ∈ oj.after, Region.binds .any e = true → listed.getD e.on false = true) : ∀ e ∈ oj.after, Region.binds .any e = true → e.on ≠ i := fun e he hb heq => by
  have h1 := hall e he hb
  have h0 := (mem_ready.1 hr).1
  rw [heq] at h1
  rcases Nat.lt_or_ge i listed.size with h' | h'
  · simp [h'] at h0 h1; rw [h0] at h1; cases h1
  · simp [Array.getElem?_eq_none h'] at h1
theorem AnyD_first (hΓ : CtxOk P Γ) {ops : Array Oper} {Q : St → Prop} {i : Nat} {oi : Oper} (hi : ops[i]? = some oi) :
    ∀ (fuel : Nat) (listed : Array Bool) (σ : St),
      (∀ j oj, ops[j]? = some oj → j ≠ i → listed.getD j true = false → (∀ e ∈ oj.after, Region.binds .any e = true → e.on ≠ i) → oi.apart ops oj = true ∧ compat Γ oi.op oj.op = true) →
      i ∈ Region.ready .any ops listed → stepD Γ ops.toList oi (AnyD Γ ops Q fuel (listed.setIfInBounds i true)) σ → AnyD Γ ops Q (fuel + 1) listed σ := by
  intro fuel
  induction fuel with
  | zero =>
    intro listed σ hfree hr H
    refine ⟨fun h => (by rw [h] at hr; cases hr), fun j hj => ?_⟩
    obtain ⟨hjun, oj, hoj, hall⟩ := mem_ready.1 hj
    simp only [hoj]
    by_cases hji : j = i
    · subst hji
      rw [hi] at hoj; cases hoj
      exact H
    · have hm := ready_mono hj hji
      have hnot := notAfter hr hall
      obtain ⟨_, hcm⟩ := hfree j oj hoj hji hjun hnot
      have hdem : isDem oi.op = false := by
        simp only [compat, Bool.and_eq_true, Bool.not_eq_true'] at hcm
        exact hcm.1.1
      obtain ⟨v, k, h', _⟩ := stepV_sng hΓ hdem H
      rw [h'.1] at hm
      cases hm
  | succ fuel ih =>
    intro listed σ hfree hr H
    refine ⟨fun h => (by rw [h] at hr; cases hr), fun j hj => ?_⟩
    obtain ⟨hjun, oj, hoj, hall⟩ := mem_ready.1 hj
    simp only [hoj]
    by_cases hji : j = i
    · subst hji
      rw [hi] at hoj; cases hoj
      exact H
    · have h1 : stepD Γ ops.toList oi (stepD Γ ops.toList oj (AnyD Γ ops Q fuel ((listed.setIfInBounds i true).setIfInBounds j true))) σ :=
        stepD_mono hΓ (fun σ' h' => by have := h'.2 j (ready_mono hj hji); simpa only [hoj] using this) H
      have hnot := notAfter hr hall
      obtain ⟨hap, hcm⟩ := hfree j oj hoj hji hjun hnot
      have h2 := stepD_swap hΓ hap hcm h1
      have hfree' : ∀ k ok, ops[k]? = some ok → k ≠ i → (listed.setIfInBounds j true).getD k true = false →
          (∀ e ∈ ok.after, Region.binds .any e = true → e.on ≠ i) → oi.apart ops ok = true ∧ compat Γ oi.op ok.op = true := fun k ok hk hki hun hno => by
        refine hfree k ok hk hki ?_ hno
        by_cases hjk : j = k
        · subst hjk; exact hjun
        · rw [getD_set_ne true hjk] at hun; exact hun
      refine stepD_mono hΓ (fun σ' h3 => ih (listed.setIfInBounds j true) σ' hfree' (ready_mono hr (Ne.symm hji)) ?_) h2
      rw [Array.setIfInBounds_comm _ _ hji]
      exact h3
end
end Go.DD
