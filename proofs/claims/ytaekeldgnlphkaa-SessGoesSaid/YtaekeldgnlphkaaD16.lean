/- Operations that do not touch one another may change places. -/
import Derived.Test.YtaekeldgnlphkaaD15
namespace Go.DD
set_option linter.unusedVariables false
open Go.RowKit
section
variable {P : Program} {Γ : Ctx}

theorem mapEv_congr {ev ev' : Operand → V} : ∀ (l : List Operand), (∀ x ∈ l, ev x = ev' x) → mapEv ev l = mapEv ev' l
  | [], _ => rfl
  | x :: l, h => by simp only [mapEv]; rw [h x (.head _), mapEv_congr l fun y hy => h y (.tail _ hy)]
theorem mapEv2_congr {ev ev' : Operand → V} : ∀ (l : List (Nat × Operand)), (∀ x ∈ l.map (·.2), ev x = ev' x) → mapEv2 ev l = mapEv2 ev' l
  | [], _ => rfl
  | (_, x) :: l, h => by simp only [mapEv2]; rw [h x (by simp), mapEv2_congr l fun y hy => h y (by simp only [List.map_cons]; exact .tail _ hy)]
theorem optEv_congr {ev ev' : Operand → V} (x : Option Operand) (h : ∀ y ∈ x.toList, ev y = ev' y) : optEv ev x = optEv ev' x := by
  cases x with
  | none => rfl
  | some x => simp only [optEv]; rw [h x (by simp)]
theorem pD_congr {ev ev' : Operand → V} {h : Heap} {o : Op} {κ : V → Prop} (hx : ∀ x ∈ o.operands, ev x = ev' x) (hd : pD Γ o ev h κ) : pD Γ o ev' h κ := by
  unfold pD at hd ⊢
  split at hd <;> simp only [Op.operands, Call.operands] at hx
  all_goals try exact hd.elim
  case h_4 => rw [← mapEv2_congr _ fun x hm => hx x (by simpa using hm)]; exact hd
  case h_10 x lo hi mx => 
    rw [← optEv_congr lo fun y hy => hx y (by simp; simp at hy; simp [hy]), ← optEv_congr hi fun y hy => hx y (by simp; simp at hy; simp [hy]), ← optEv_congr mx fun y hy => hx y (by simp; simp at hy; simp [hy]), ← hx x (by simp)]
    exact hd
  case h_18 args ts =>
    split at hd
    · rename_i x t h1 h2
      rw [← hx x (by simp [← Array.mem_toList_iff, h1])]; exact hd
    · exact hd.elim
  case h_19 args ts =>
    split at hd
    · rename_i x t h1 h2
      rw [← hx x (by simp [← Array.mem_toList_iff, h1])]; exact hd
    · exact hd.elim
  case h_20 args ts =>
    split at hd
    · rename_i x y h1
      rw [← hx x (by simp [← Array.mem_toList_iff, h1]), ← hx y (by simp [← Array.mem_toList_iff, h1])]; exact hd
    · exact hd.elim
  case h_21 args ts =>
    split at hd
    · rename_i x y h1
      rw [← hx x (by simp [← Array.mem_toList_iff, h1]), ← hx y (by simp [← Array.mem_toList_iff, h1])]; exact hd
    · exact hd.elim
  case h_22 f args ts =>
    rw [← hx f (by simp), ← mapEv_congr args.toList fun x hm => hx x (by simp at hm; simp [hm])]; exact hd
  all_goals (simp at hx; first
    | (obtain ⟨h1, h2, h3⟩ := hx; simp only [← h1, ← h2, ← h3]; exact hd)
    | (obtain ⟨h1, h2⟩ := hx; simp only [← h1, ← h2]; exact hd)
    | (simp only [← hx]; exact hd)
    | exact hd)
theorem wD_congr {ev ev' : Operand → V} {h : Heap} {o : Op} {κ : V → Heap → Prop} (hx : ∀ x ∈ o.operands, ev x = ev' x) (hd : wD Γ o ev h κ) : wD Γ o ev' h κ := by
  unfold wD at hd ⊢
  split at hd <;> simp only [Op.operands, Call.operands] at hx
  all_goals try exact hd.elim
  case h_4 args ts =>
    split at hd
    · rename_i x y t u h1 h2
      rw [← hx x (by simp [← Array.mem_toList_iff, h1]), ← hx y (by simp [← Array.mem_toList_iff, h1])]; exact hd
    · exact hd.elim
  case h_5 f args ts =>
    rw [← hx f (by simp), ← mapEv_congr args.toList fun x hm => hx x (by simp at hm; simp [hm])]; exact hd
  all_goals (simp at hx; first
    | (obtain ⟨h1, h2⟩ := hx; simp only [← h1, ← h2]; exact hd)
    | (simp only [← hx]; exact hd)
    | exact hd)

/-- Which operations keep the heap; which do not look at it. -/
theorem opD_congr {ev ev' : Operand → V} {h : Heap} {o : Op} {κ : V → Heap → Prop} (hx : ∀ x ∈ o.operands, ev x = ev' x) (hd : opD Γ o ev h κ) : opD Γ o ev' h κ := by
  unfold opD at *
  simp only [frcH_eq] at *
  split at hd
  · exact wD_congr hx hd
  · exact pD_congr hx hd
theorem opD_sng (hΓ : CtxOk P Γ) {ev : Operand → V} {h : Heap} {o : Op} {κ : V → Heap → Prop} (hdem : isDem o = false) (hd : opD Γ o ev h κ) :
    ∃ v k, κ v k ∧ (∀ κ' : V → Heap → Prop, κ' v k → opD Γ o ev h κ') ∧ (isW Γ o = false → k = h) := by
  unfold opD at hd
  simp only [frcH_eq] at hd
  split at hd
  · rename_i hw
    obtain ⟨v, k, h1, h2⟩ := wD_sng hΓ hd
    exact ⟨v, k, h1, fun κ' h' => by unfold opD; simp only [hw, frcH_eq]; exact h2 _ h', fun h => by rw [hw] at h; cases h⟩
  · rename_i hw
    obtain ⟨v, h1, h2⟩ := pD_sng hΓ hdem hd
    exact ⟨v, h, h1, fun κ' h' => by unfold opD; simp only [hw]; exact h2 _ h', fun _ => rfl⟩
theorem opD_mono (hΓ : CtxOk P Γ) {ev : Operand → V} {h : Heap} {o : Op} {κ κ' : V → Heap → Prop} (hk : ∀ v k, (isW Γ o = false → k = h) → κ v k → κ' v k) (hd : opD Γ o ev h κ) : opD Γ o ev h κ' := by
  by_cases hdem : isDem o = false
  · obtain ⟨v, k, h1, h2, h3⟩ := opD_sng hΓ hdem hd
    exact h2 _ (hk v k h3 h1)
  · have hcap : ∀ {t : Nat} {x : V} {κ κ' : V → Prop}, (∀ v, κ v → κ' v) → capD Γ.tb t x κ → capD Γ.tb t x κ' := fun {t x κ κ'} hk hd => by
      unfold capD at hd ⊢
      split at hd
      · split at hd
        · exact fun c hc => hk _ (hd c hc)
        · exact fun c hc => hk _ (hd c hc)
        · exact hk _ hd
        · exact hd.elim
      · exact hd.elim
    have hnil : ∀ {d : TD} {x : V} {κ κ' : Bool → Prop}, (∀ v, κ v → κ' v) → nilD d x κ → nilD d x κ' := fun {d x κ κ'} hk hd => by
      unfold nilD at hd ⊢
      split at hd <;> first
        | exact hd.elim
        | exact hk _ hd
        | exact fun b => hk _ (hd b)
        | exact fun b hb => hk _ (hd b hb)
    have heql : ∀ {t : Nat} {yo : Operand} {x y : V} {κ κ' : Bool → Prop}, (∀ v, κ v → κ' v) → eqlD Γ.tb t yo x y κ → eqlD Γ.tb t yo x y κ' := fun {t yo x y κ κ'} hk hd => by
      by_cases hn : nilSl yo = false
      · obtain ⟨v, h1, h2⟩ := eqlD_sng hn hd
        exact h2 _ (hk _ h1)
      · unfold eqlD at hd ⊢
        split at hd
        · rename_i i hg
          split at hd
          · rename_i hc
            exact hnil hk hd
          · rename_i hc
            have hd' : eqlD Γ.tb t (.const (.int .i64 0)) x y κ := by
              unfold eqlD
              have : isNilC i.d (.const (.int .i64 0)) = false := by unfold isNilC; split <;> simp_all
              simp only [hg, this]; exact hd
            obtain ⟨v, h1, h2⟩ := eqlD_sng (yo := .const (.int .i64 0)) rfl hd'
            have h3 := h2 κ' (hk _ h1)
            unfold eqlD at h3
            have : isNilC i.d (.const (.int .i64 0)) = false := by unfold isNilC; split <;> simp_all
            simp only [hg, this] at h3
            exact h3
        · exact hd.elim
    unfold isDem at hdem
    unfold opD at hd ⊢
    split at hdem
    · simp only [isW, pD] at hd ⊢
      split at hd
      · exact hcap (fun v hv => hk v h (fun _ => rfl) hv) hd
      · exact hd.elim
    · simp only [isW, pD] at hd ⊢
      unfold binD at hd ⊢
      split at hd
      · rename_i hx hy
        split at hd
        · exact ⟨hd.1, hk _ h (fun _ => rfl) hd.2⟩
        · exact ⟨hd.1, hk _ h (fun _ => rfl) hd.2⟩
        · split at hd
          · rename_i hkk
            obtain ⟨v, h1, h2⟩ := intBin_sng hd
            rw [if_pos hkk]
            exact h2 (fun v => κ' v h) (hk _ h (fun _ => rfl) h1)
          · exact hd.elim
      · obtain ⟨v, h1, h2⟩ := strBin_sng hd
        exact h2 (fun v => κ' v h) (hk _ h (fun _ => rfl) h1)
      · split at hd
        · exact heql (fun v hv => hk _ h (fun _ => rfl) hv) hd
        · exact heql (fun v hv => hk _ h (fun _ => rfl) hv) hd
        · exact hd.elim
    · exact absurd rfl hdem
end
end Go.DD
