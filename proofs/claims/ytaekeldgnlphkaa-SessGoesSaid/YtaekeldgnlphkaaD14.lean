/- One outcome alone: so operations may change places. -/
import Derived.Test.YtaekeldgnlphkaaD13
namespace Go.DD
set_option linter.unusedVariables false
open Go.RowKit

theorem okq_sng : ∀ (p : List Step) (v : V) (K : Prop), okq v p K → K ∧ ∀ K' : Prop, K' → okq v p K'
  | [], v, K, h => ⟨by simpa [okq] using h, fun K' h' => by simpa [okq] using h'⟩
  | s :: p, v, K, h => by
    cases v <;> cases s <;> simp only [okq] at h ⊢ <;> first | exact h.elim | skip
    · split at h
      · rename_i hb
        obtain ⟨h1, h2⟩ := okq_sng p _ K h.2
        exact ⟨h1, fun K' h' => ⟨h.1, h2 K' h'⟩⟩
      · exact h.elim
    · split at h
      · obtain ⟨h1, h2⟩ := okq_sng p _ K h
        exact ⟨h1, fun K' h' => h2 K' h'⟩
      · exact h.elim

section
variable {tb : List (Option TI)} {κ : V → Prop}
theorem loadD_sng {t : Nat} {x : V} {h : List (Option V)} (hd : loadD tb t x h κ) : ∃ v, κ v ∧ ∀ κ' : V → Prop, κ' v → loadD tb t x h κ' := by
  unfold loadD at hd
  split at hd
  · exact hd.elim
  · split at hd
    · split at hd
      · obtain ⟨h1, h2⟩ := okq_sng _ _ _ hd
        split at h1
        · exact ⟨_, h1, fun κ' h' => by unfold loadD; simp only [*]⟩
        · exact h1.elim
      · exact hd.elim
    · split at hd
      · split at hd
        · obtain ⟨h1, h2⟩ := okq_sng _ _ _ hd
          obtain ⟨ho, h1⟩ := h1
          split at h1
          · exact ⟨_, h1, fun κ' h' => by unfold loadD; simp only [*]; exact h2 _ ⟨trivial, trivial⟩⟩
          · exact h1.elim
        · exact hd.elim
      · exact hd.elim
    · split at hd
      · exact ⟨_, hd, fun κ' h' => by unfold loadD; simp only [*]⟩
      · exact hd.elim
    · exact hd.elim
theorem pickD_sng {c a b : V} (hd : pickD c a b κ) : ∃ v, κ v ∧ ∀ κ' : V → Prop, κ' v → pickD c a b κ' := by
  unfold pickD at hd
  split at hd
  · exact ⟨_, hd, fun κ' h' => h'⟩
  · exact ⟨_, hd, fun κ' h' => h'⟩
  · rename_i c
    cases c
    · exact ⟨_, hd.2 rfl, fun κ' h' => ⟨fun h => (by cases h), fun _ => h'⟩⟩
    · exact ⟨_, hd.1 rfl, fun κ' h' => ⟨fun _ => h', fun h => (by cases h)⟩⟩
  · exact hd.elim
theorem nilCheckD_sng {x : V} (hd : nilCheckD x κ) : ∃ v, κ v ∧ ∀ κ' : V → Prop, κ' v → nilCheckD x κ' := by
  unfold nilCheckD at hd
  split at hd <;> first | exact hd.elim | exact ⟨_, hd, fun κ' h' => h'⟩
theorem unD_sng {op : UnOp} {x : V} (hd : unD op x κ) : ∃ v, κ v ∧ ∀ κ' : V → Prop, κ' v → unD op x κ' := by
  unfold unD at hd
  split at hd <;> first | exact hd.elim | exact ⟨_, hd, fun κ' h' => h'⟩
theorem convNum_sng {s d : Nat} {x : V} (hd : convNum tb s d x κ) : ∃ v, κ v ∧ ∀ κ' : V → Prop, κ' v → convNum tb s d x κ' := by
  unfold convNum at hd
  split at hd
  · split at hd <;> first | exact hd.elim | exact ⟨_, hd, fun κ' h' => by unfold convNum; simp only [*]⟩
  · split at hd <;> first | exact hd.elim | exact ⟨_, hd, fun κ' h' => by unfold convNum; simp only [*]⟩
  · exact hd.elim
theorem extractD_sng {x : V} {k : Nat} (hd : extractD x k κ) : ∃ v, κ v ∧ ∀ κ' : V → Prop, κ' v → extractD x k κ' := by
  unfold extractD at hd
  split at hd
  · split at hd <;> first | exact hd.elim | exact ⟨_, hd, fun κ' h' => by unfold extractD; simp only [*]⟩
  · exact hd.elim
theorem lenD_sng {t : Nat} {x : V} (hd : lenD tb t x κ) : ∃ v, κ v ∧ ∀ κ' : V → Prop, κ' v → lenD tb t x κ' := by
  unfold lenD at hd
  split at hd
  · split at hd <;> first | exact hd.elim | exact ⟨_, hd, fun κ' h' => by unfold lenD; simp only [*]⟩
  · split at hd <;> first | exact hd.elim | exact ⟨_, hd, fun κ' h' => by unfold lenD; simp only [*]⟩
  · exact ⟨_, hd, fun κ' h' => by unfold lenD; simp only [*]⟩
  · split at hd <;> first | exact hd.elim | exact ⟨_, hd, fun κ' h' => by unfold lenD; simp only [*]⟩
  · exact hd.elim
theorem minmaxD_sng {mx : Bool} {l : List V} (hd : minmaxD mx l κ) : ∃ v, κ v ∧ ∀ κ' : V → Prop, κ' v → minmaxD mx l κ' := by
  unfold minmaxD at hd
  split at hd
  · split at hd <;> exact ⟨_, hd, fun κ' h' => h'⟩
  · exact hd.elim
theorem fieldD_sng {s : Nat} {x : V} {k : Nat} (hd : fieldD tb s x k κ) : ∃ v, κ v ∧ ∀ κ' : V → Prop, κ' v → fieldD tb s x k κ' := by
  unfold fieldD at hd
  split at hd
  · split at hd
    · split at hd
      · split at hd
        · split at hd
          · exact ⟨_, hd, fun κ' h' => by unfold fieldD; simp only [*]⟩
          · exact hd.elim
        · exact hd.elim
      · exact hd.elim
    · exact hd.elim
  · exact hd.elim
theorem indexD_sng {t : Nat} {x i : V} (hd : indexD tb t x i κ) : ∃ v, κ v ∧ ∀ κ' : V → Prop, κ' v → indexD tb t x i κ' := by
  unfold indexD at hd
  split at hd
  · split at hd
    · split at hd
      · split at hd
        · split at hd
          · obtain ⟨h0, hd⟩ := hd
            split at hd
            · exact ⟨_, hd, fun κ' h' => by unfold indexD; simp only [*]; exact ⟨trivial, trivial⟩⟩
            · exact hd.elim
          · exact hd.elim
        · exact hd.elim
      · exact hd.elim
    · split at hd
      · obtain ⟨h0, hd⟩ := hd
        exact ⟨_, hd, fun κ' h' => by unfold indexD; simp only [*]; exact ⟨trivial, trivial⟩⟩
      · exact hd.elim
    · exact hd.elim
  · exact hd.elim
theorem arrayAtD_sng {t : Nat} {x : V} (hd : arrayAtD tb t x κ) : ∃ v, κ v ∧ ∀ κ' : V → Prop, κ' v → arrayAtD tb t x κ' := by
  unfold arrayAtD at hd
  split at hd
  · split at hd
    · split at hd
      · split at hd
        · obtain ⟨h0, hd⟩ := hd
          exact ⟨_, hd, fun κ' h' => by unfold arrayAtD; simp only [*]; exact ⟨trivial, trivial⟩⟩
        · exact hd.elim
      · split at hd
        · obtain ⟨h0, hd⟩ := hd
          exact ⟨_, hd, fun κ' h' => by unfold arrayAtD; simp only [*]; exact ⟨trivial, trivial⟩⟩
        · exact hd.elim
      · exact hd.elim
    · exact hd.elim
  · exact hd.elim
theorem makeInterfaceD_sng {t : Nat} {x : V} (hd : makeInterfaceD tb t x κ) : ∃ v, κ v ∧ ∀ κ' : V → Prop, κ' v → makeInterfaceD tb t x κ' := by
  unfold makeInterfaceD at hd
  split at hd
  · exact hd.elim
  · exact hd.elim
  · split at hd
    · exact ⟨_, hd, fun κ' h' => by unfold makeInterfaceD; simp only [*]⟩
    · exact hd.elim
  · exact hd.elim
theorem fieldAddrD_sng {s : Nat} {x : V} {k : Nat} (hd : fieldAddrD tb s x k κ) : ∃ v, κ v ∧ ∀ κ' : V → Prop, κ' v → fieldAddrD tb s x k κ' := by
  unfold fieldAddrD at hd
  split at hd
  · split at hd
    · split at hd
      · split at hd
        · exact hd.elim
        · split at hd
          · exact ⟨_, hd, fun κ' h' => by unfold fieldAddrD; simp only [*]⟩
          · split at hd
            · exact ⟨_, hd, fun κ' h' => by unfold fieldAddrD; simp only [*]⟩
            · exact hd.elim
          · exact hd.elim
      · exact hd.elim
    · exact hd.elim
  · exact hd.elim
theorem indexAddrD_sng {t : Nat} {x i : V} (hd : indexAddrD tb t x i κ) : ∃ v, κ v ∧ ∀ κ' : V → Prop, κ' v → indexAddrD tb t x i κ' := by
  unfold indexAddrD at hd
  split at hd
  · split at hd
    · split at hd
      · split at hd
        · split at hd
          · exact ⟨_, hd.2, fun κ' h' => by unfold indexAddrD; simp only [*]; exact ⟨trivial, trivial⟩⟩
          · exact hd.elim
        · split at hd
          · exact ⟨_, hd.2, fun κ' h' => by unfold indexAddrD; simp only [*]; exact ⟨trivial, trivial⟩⟩
          · exact hd.elim
        · exact hd.elim
      · exact hd.elim
    · split at hd
      · split at hd
        · exact ⟨_, hd.2, fun κ' h' => by unfold indexAddrD; simp only [*]; exact ⟨trivial, trivial⟩⟩
        · split at hd
          · exact ⟨_, hd.2, fun κ' h' => by unfold indexAddrD; simp only [*]; exact ⟨trivial, trivial⟩⟩
          · exact hd.elim
        · exact hd.elim
      · exact hd.elim
    · exact hd.elim
  · exact hd.elim
theorem cutAt_sng {v : Option V} {d : Int} {κ : Int → Prop} (h : cutAt v d κ) : ∃ n, κ n ∧ ∀ κ' : Int → Prop, κ' n → cutAt v d κ' := by
  unfold cutAt at h
  split at h
  · exact ⟨_, h, fun κ' h' => h'⟩
  · exact ⟨_, h, fun κ' h' => h'⟩
  · exact h.elim
theorem sliceD_sng {t : Nat} {x : V} {lo hi mx : Option V} {h : List (Option V)} (hd : sliceD tb t x lo hi mx h κ) : ∃ v, κ v ∧ ∀ κ' : V → Prop, κ' v → sliceD tb t x lo hi mx h κ' := by
  unfold sliceD at hd
  split at hd
  · exact hd.elim
  obtain ⟨l, hd, hl⟩ := cutAt_sng hd
  split at hd
  · split at hd
    · split at hd
      · split at hd
        · obtain ⟨r, hd, hr⟩ := cutAt_sng hd
          obtain ⟨m, hd, hm⟩ := cutAt_sng hd
          exact ⟨_, hd.2, fun κ' h' => by unfold sliceD; simp only [*]; exact hl _ (hr _ (hm _ ⟨hd.1, h'⟩))⟩
        · exact hd.elim
      · split at hd
        · obtain ⟨r, hd, hr⟩ := cutAt_sng hd
          split at hd
          · exact ⟨_, hd.2, fun κ' h' => by unfold sliceD; simp only [*]; exact hl _ (hr _ ⟨hd.1, h'⟩)⟩
          · obtain ⟨m, hd, hm⟩ := cutAt_sng hd
            exact ⟨_, hd.2, fun κ' h' => by unfold sliceD; simp only [*]; exact hl _ (hr _ (hm _ ⟨hd.1, trivial⟩))⟩
        · exact hd.elim
      · obtain ⟨r, hd, hr⟩ := cutAt_sng hd
        obtain ⟨m, hd, hm⟩ := cutAt_sng hd
        exact ⟨_, hd.2, fun κ' h' => by unfold sliceD; simp only [*]; exact hl _ (hr _ (hm _ ⟨hd.1, trivial⟩))⟩
      · exact hd.elim
    · exact hd.elim
  · split at hd
    · obtain ⟨r, hd, hr⟩ := cutAt_sng hd
      exact ⟨_, hd.2, fun κ' h' => by unfold sliceD; simp only [*]; exact hl _ (hr _ ⟨hd.1, h'⟩)⟩
    · exact hd.elim
  · split at hd
    · split at hd
      · split at hd
        · exact hd.elim
        · obtain ⟨hd, hq⟩ := okq_sng _ _ _ hd
          split at hd
          · split at hd
            · obtain ⟨r, hd, hr⟩ := cutAt_sng hd
              obtain ⟨m, hd, hm⟩ := cutAt_sng hd
              exact ⟨_, hd.2, fun κ' h' => by unfold sliceD; simp only [*]; exact hl _ (hq _ (hr _ (hm _ ⟨hd.1, h'⟩)))⟩
            · exact hd.elim
          · exact hd.elim
      · split at hd
        · obtain ⟨r, hd, hr⟩ := cutAt_sng hd
          split at hd
          · exact ⟨_, hd.2, fun κ' h' => by unfold sliceD; simp only [*]; exact hl _ (hr _ ⟨hd.1, h'⟩)⟩
          · exact hd.elim
        · exact hd.elim
      · exact hd.elim
    · exact hd.elim
  · exact hd.elim

theorem fillS_sng {fs : List (Nat × Nat)} {z0 : Vs} : ∀ (parts : List (Nat × V)) (vs : Vs) (κ : Vs → Prop), fillS tb fs z0 parts vs κ → ∃ v, κ v ∧ ∀ κ' : Vs → Prop, κ' v → fillS tb fs z0 parts vs κ'
  | [], vs, κ, h => ⟨vs, h, fun κ' h' => h'⟩
  | (k, u) :: rest, vs, κ, h => by
    simp only [fillS] at h ⊢
    split at h
    · exact h.elim
    · split at h
      · exact h.elim
      · split at h
        · exact fillS_sng rest _ κ h
        · exact h.elim
theorem buildD_sng {t : Nat} {parts : List (Nat × V)} (hd : buildD tb t parts κ) : ∃ v, κ v ∧ ∀ κ' : V → Prop, κ' v → buildD tb t parts κ' := by
  unfold buildD at hd
  split at hd
  · obtain ⟨v, h1, h2⟩ := fillS_sng _ _ _ hd
    exact ⟨_, h1, fun κ' h' => by unfold buildD; simp only [*]⟩
  · split at hd
    · split at hd
      · exact ⟨_, hd, fun κ' h' => by unfold buildD; simp only [*]⟩
      · exact hd.elim
    · exact hd.elim
  · exact hd.elim
theorem intBin_sng {op : BinOp} {k : IntKind} {a b : Int} (hd : intBin op k a b κ) : ∃ v, κ v ∧ ∀ κ' : V → Prop, κ' v → intBin op k a b κ' := by
  unfold intBin at hd
  split at hd <;> first | exact hd.elim | exact ⟨_, hd, fun κ' h' => h'⟩ | exact ⟨_, hd.2, fun κ' h' => ⟨hd.1, h'⟩⟩
theorem strBin_sng {op : BinOp} {a b : List UInt8} (hd : strBin op a b κ) : ∃ v, κ v ∧ ∀ κ' : V → Prop, κ' v → strBin op a b κ' := by
  unfold strBin at hd
  split at hd <;> first | exact hd.elim | exact ⟨_, hd, fun κ' h' => h'⟩ | exact ⟨_, hd.2, fun κ' h' => ⟨hd.1, h'⟩⟩
def nilSl : Operand → Bool | .const (.slice ..) => true | _ => false
theorem eqlD_sng {t : Nat} {yo : Operand} {x y : V} {κ : Bool → Prop} (hn : nilSl yo = false) (hd : eqlD tb t yo x y κ) : ∃ v, κ v ∧ ∀ κ' : Bool → Prop, κ' v → eqlD tb t yo x y κ' := by
  unfold eqlD at hd
  split at hd
  · rename_i i hg
    split at hd
    · rename_i hc
      have hns : ∀ e, i.d ≠ .slice e := fun e he => by
        rw [he] at hc
        unfold isNilC at hc
        split at hc <;> simp_all [nilSl]
      unfold nilD at hd
      split at hd <;> first
        | exact hd.elim
        | exact (hns _ ‹_›).elim
        | exact ⟨_, hd, fun κ' h' => by unfold eqlD; simp only [hg, hc]; unfold nilD; simp only [*]⟩
    · rename_i hc
      unfold eqD at hd
      split at hd
      · split at hd
        · exact ⟨_, hd, fun κ' h' => by unfold eqlD; simp only [hg, hc]; clear hg; unfold eqD; simp only [*]⟩
        · exact hd.elim
      · split at hd
        · unfold eqRow at hd
          split at hd
          · split at hd
            · split at hd
              · exact ⟨_, hd.2.2, fun κ' h' => by unfold eqlD; simp only [hg, hc]; clear hg; unfold eqD; simp only [vb]; unfold eqRow; simp only [*]; exact ⟨trivial, trivial, trivial⟩⟩
              · exact hd.elim
            · exact hd.elim
          · exact hd.elim
        · exact hd.elim
  · exact hd.elim
theorem binD_sng {op : BinOp} {t : Nat} {xo yo : Operand} {x y : V} (hn : nilSl yo = false) (hd : binD tb op t xo yo x y κ) : ∃ v, κ v ∧ ∀ κ' : V → Prop, κ' v → binD tb op t xo yo x y κ' := by
  unfold binD at hd
  split at hd
  · split at hd
    · exact ⟨_, hd.2, fun κ' h' => ⟨hd.1, h'⟩⟩
    · exact ⟨_, hd.2, fun κ' h' => ⟨hd.1, h'⟩⟩
    · split at hd
      · rename_i hk
        subst hk
        obtain ⟨v, h1, h2⟩ := intBin_sng hd
        exact ⟨v, h1, fun κ' h' => by unfold binD; simp only [*, if_true]⟩
      · exact hd.elim
  · obtain ⟨v, h1, h2⟩ := strBin_sng hd
    exact ⟨v, h1, fun κ' h' => h2 _ h'⟩
  · split at hd
    · obtain ⟨v, h1, h2⟩ := eqlD_sng hn hd
      exact ⟨_, h1, fun κ' h' => by unfold binD; simp only [*]⟩
    · obtain ⟨v, h1, h2⟩ := eqlD_sng hn hd
      exact ⟨_, h1, fun κ' h' => by unfold binD; simp only [*]⟩
    · exact hd.elim
end
section
variable {tb : List (Option TI)} {κ : V → Heap → Prop}
theorem allocD_sng {t : Nat} {h : Heap} (hd : allocD tb t h κ) : ∃ v k, κ v k ∧ ∀ κ' : V → Heap → Prop, κ' v k → allocD tb t h κ' := by
  unfold allocD at hd
  split at hd
  · exact ⟨_, _, hd, fun κ' h' => by unfold allocD; simp only [*]⟩
  · exact hd.elim
theorem boxD_sng {x : V} {h : Heap} (hd : boxD x h κ) : ∃ v k, κ v k ∧ ∀ κ' : V → Heap → Prop, κ' v k → boxD x h κ' := by
  unfold boxD at hd
  split at hd
  · exact ⟨_, _, hd, fun κ' h' => by unfold boxD; simp only [*]⟩
  · exact hd.elim
theorem storeD_sng {t : Nat} {x u : V} {h : Heap} {κ : Heap → Prop} (hd : storeD tb t x u h κ) : ∃ k, κ k ∧ ∀ κ' : Heap → Prop, κ' k → storeD tb t x u h κ' := by
  unfold storeD at hd
  split at hd
  · exact hd.elim
  · split at hd
    · split at hd
      · obtain ⟨h1, h2⟩ := okq_sng _ _ _ hd
        split at h1
        · exact ⟨_, h1, fun κ' h' => by unfold storeD; simp only [*]⟩
        · exact h1.elim
      · exact hd.elim
    · exact hd.elim
theorem growD_sng {ei : TI} {base : V} {m : Nat} {g : Nat → V} {h : Heap} (hd : growD ei base m g h κ) : ∃ v k, κ v k ∧ ∀ κ' : V → Heap → Prop, κ' v k → growD ei base m g h κ' := by
  unfold growD at hd
  split at hd
  · exact ⟨_, _, hd.2, fun κ' h' => by unfold growD; simp only [*]; exact ⟨trivial, trivial⟩⟩
  · split at hd
    · split at hd
      · exact ⟨_, _, hd.2.2, fun κ' h' => by unfold growD; simp only [*]; exact ⟨trivial, trivial, trivial⟩⟩
      · exact hd.elim
    · exact hd.elim
  · exact hd.elim

theorem roomD_sng {ei : TI} {base : V} {m : Nat} {g : Nat → V} {h : Heap} (hd : roomD ei base m g h κ) : ∃ v k, κ v k ∧ ∀ κ' : V → Heap → Prop, κ' v k → roomD ei base m g h κ' := by
  unfold roomD at hd
  split at hd
  · split at hd
    · split at hd
      · exact ⟨_, _, hd.2, fun κ' h' => by unfold roomD; simp only [*]; exact ⟨trivial, trivial⟩⟩
      · exact hd.elim
    · exact hd.elim
  · exact hd.elim
theorem srcD_sng {sz : Nat} {y : V} {h : Heap} {κ : Nat → (Nat → V) → Prop} (hd : srcD sz y h κ) : ∃ m g, κ m g ∧ ∀ κ' : Nat → (Nat → V) → Prop, κ' m g → srcD sz y h κ' := by
  unfold srcD at hd
  split at hd
  · split at hd
    · exact ⟨_, _, hd, fun κ' h' => by unfold srcD; simp only [*]⟩
    · exact hd.elim
  · exact ⟨_, _, hd, fun κ' h' => h'⟩
  · split at hd
    · exact ⟨_, _, hd, fun κ' h' => by unfold srcD; simp only [*]⟩
    · exact hd.elim
  · split at hd
    · obtain ⟨h1, h2⟩ := okq_sng _ _ _ hd
      split at h1
      · split at h1
        · exact ⟨_, _, h1.2, fun κ' h' => by unfold srcD; simp only [*]; exact h2 _ ⟨trivial, trivial⟩⟩
        · exact h1.elim
      · exact h1.elim
    · exact hd.elim
  · exact hd.elim
theorem appendD_sng {t tx : Nat} {base y : V} {h : Heap} (hd : appendD tb t tx base y h κ) : ∃ v k, κ v k ∧ ∀ κ' : V → Heap → Prop, κ' v k → appendD tb t tx base y h κ' := by
  unfold appendD at hd
  split at hd
  · split at hd
    · obtain ⟨m, g, hd, hs⟩ := srcD_sng hd
      rcases hd with hd | hd
      · obtain ⟨v, k, h1, h2⟩ := growD_sng hd
        exact ⟨v, k, h1, fun κ' h' => by unfold appendD; simp only [*]; exact hs _ (.inl (h2 _ h'))⟩
      · obtain ⟨v, k, h1, h2⟩ := roomD_sng hd
        exact ⟨v, k, h1, fun κ' h' => by unfold appendD; simp only [*]; exact hs _ (.inr (h2 _ h'))⟩
    · exact hd.elim
  · exact hd.elim
end

section
variable {P : Program} {Γ : Ctx} {ev : Operand → V} {h : Heap}
theorem pD_sng (hΓ : CtxOk P Γ) {o : Op} {κ : V → Prop} (hdem : isDem o = false) (hd : pD Γ o ev h κ) : ∃ v, κ v ∧ ∀ κ' : V → Prop, κ' v → pD Γ o ev h κ' := by
  unfold pD at hd
  split at hd
  · exact ⟨_, hd, fun κ' h' => h'⟩
  · exact ⟨_, hd, fun κ' h' => h'⟩
  · exact pickD_sng hd
  · exact buildD_sng hd
  · exact loadD_sng hd
  · exact nilCheckD_sng hd
  · exact binD_sng (by unfold nilSl; split <;> simp_all [isDem]) hd
  · exact unD_sng hd
  · exact convNum_sng hd
  · exact sliceD_sng hd
  · exact fieldAddrD_sng hd
  · exact fieldD_sng hd
  · exact indexAddrD_sng hd
  · exact indexD_sng hd
  · exact arrayAtD_sng hd
  · exact makeInterfaceD_sng hd
  · exact extractD_sng hd
  · split at hd
    · obtain ⟨v, h1, h2⟩ := lenD_sng hd
      exact ⟨v, h1, fun κ' h' => by unfold pD; simp only [*]⟩
    · exact hd.elim
  · simp [isDem] at hdem
  · split at hd
    · obtain ⟨v, h1, h2⟩ := minmaxD_sng hd
      exact ⟨v, h1, fun κ' h' => by unfold pD; simp only [*]⟩
    · exact hd.elim
  · split at hd
    · obtain ⟨v, h1, h2⟩ := minmaxD_sng hd
      exact ⟨v, h1, fun κ' h' => by unfold pD; simp only [*]⟩
    · exact hd.elim
  · unfold callP at hd
    split at hd
    · split at hd
      · rename_i s hs
        obtain ⟨v, h1, h2⟩ := (hΓ.fs _ (lookup_mem hs)).1 _ _ _ hd
        exact ⟨v, h1, fun κ' h' => by unfold pD callP; simp only [*]; exact h2 _ h'⟩
      · exact hd.elim
    · exact hd.elim
  · exact hd.elim
theorem wD_sng (hΓ : CtxOk P Γ) {o : Op} {κ : V → Heap → Prop} (hd : wD Γ o ev h κ) : ∃ v k, κ v k ∧ ∀ κ' : V → Heap → Prop, κ' v k → wD Γ o ev h κ' := by
  unfold wD at hd
  split at hd
  · exact allocD_sng hd
  · exact boxD_sng hd
  · obtain ⟨k, h1, h2⟩ := storeD_sng hd
    exact ⟨_, k, h1, fun κ' h' => h2 _ h'⟩
  · split at hd
    · obtain ⟨v, k, h1, h2⟩ := appendD_sng hd
      exact ⟨v, k, h1, fun κ' h' => by unfold wD; simp only [*]⟩
    · exact hd.elim
  · unfold callH at hd
    split at hd
    · split at hd
      · rename_i s hs
        obtain ⟨v, k, h1, h2⟩ := (hΓ.fh _ (lookup_mem hs)).1 _ _ _ hd
        exact ⟨v, k, h1, fun κ' h' => by unfold wD callH; simp only [*]; exact h2 _ h'⟩
      · exact hd.elim
    · exact hd.elim
  · exact hd.elim
/-- What is neither read nor written may be another. -/
theorem pD_heap {o : Op} {κ : V → Prop} {h' : Heap} (hr : isR o = false) : pD Γ o ev h κ → pD Γ o ev h' κ := by
  intro hd
  unfold pD at hd ⊢
  split at hd <;> first
    | (simp [isR] at hr; done)
    | exact hd
end
end Go.DD
