/- The same, reckoned: what is left to show that a state fits a template. -/
import Derived.Test.YtaekeldgnlphkaaD24
import Derived.Laws.Bits64
namespace Go.DD
set_option linter.unusedVariables false
open Go.RowKit

mutual
def leC (m : List (Option Nat)) : V → V → Prop → Prop
  | v, .any, K => match v.isAgg || v.isTup with | true => False | false => K
  | v, .int k n, K => match v with | .int k' n' => Ob (k' = k) ∧ Ob (n' = n) ∧ K | _ => False
  | v, .tt, K => match v with | .tt => K | .bool b => Ob (b = true) ∧ False | _ => False
  | v, .ff, K => match v with | .ff => K | .bool b => Ob (b = false) ∧ False | _ => False
  | v, .bool b, K => match v with | .tt => Ob (true = b) ∧ K | .ff => Ob (false = b) ∧ K | .bool b' => Ob (b' = b) ∧ K | _ => False
  | v, .str s, K => match v with | .str s' => Ob (s' = s) ∧ K | _ => False
  | v, .nilp, K => match v with | .nilp => K | _ => False
  | v, .emp, K => match v with | .emp => K | _ => False
  | v, .nilf, K => match v with | .nilf => K | _ => False
  | v, .nili, K => match v with | .nili => K | _ => False
  | v, .ref i p, K => match getM m i with
    | some (some j) => (match v with | .ref j' p' => Ob (j' = j ∧ p' = p) ∧ K | _ => False)
    | _ => False
  | v, .rref i p sz lo n, K => match getM m i with
    | some (some j) => (match v with | .rref j' p' sz' lo' n' => Ob (j' = j ∧ p' = p ∧ sz' = sz) ∧ Ob (lo' = lo ∧ n' = n) ∧ K | _ => False)
    | _ => False
  | v, .sl i p sz lo len cap, K => match getM m i with
    | some (some j) => (match v with | .sl j' p' sz' lo' len' cap' => Ob (j' = j ∧ p' = p ∧ sz' = sz) ∧ Ob (lo' = lo ∧ len' = len ∧ cap' = cap) ∧ K | _ => False)
    | some none => (match v with | .emp => Ob (len = 0 ∧ cap = 0) ∧ K | _ => False)
    | none => False
  | v, .imm l sz n f, K => match v with
    | .emp => Ob (n = 0) ∧ K
    | .imm l' sz' n' g => Ob (l' = l ∧ sz' = sz) ∧ Ob (n' = n) ∧ Ob (∀ k, k < n → g k = f k) ∧ K
    | _ => False
  | v, .pim l u, K => match v with | .pim l' u' => Ob (V.pim l' u' = V.pim l u) ∧ K | _ => False
  | v, .row sz n f, K => match v with | .row sz' n' g => Ob (sz' = sz) ∧ Ob (n' = n) ∧ Ob (∀ k, k < n → leV m (g k) (f k)) ∧ K | _ => False
  | v, .st l', K => match v with | .st l => leCs m l l' K | _ => False
  | v, .fn f c, K => match v with | .fn f' c' => Ob (f' = f) ∧ leCs m c' c K | _ => False
  | v, .iface t u, K => match v with | .iface t' u' => Ob (t' = t) ∧ leC m u' u K | _ => False
  | v, .tup l, K => match v, l with | .tup .nil, .nil => K | _, _ => False
  termination_by structural _ x => x
def leCs (m : List (Option Nat)) : Vs → Vs → Prop → Prop
  | .nil, .nil, K => K
  | .cons v l, .cons v' l', K => leC m v v' (leCs m l l' K)
  | _, _, _ => False
  termination_by structural _ x => x
end

mutual
theorem leC_ok {m : List (Option Nat)} : ∀ (v v' : V) (K : Prop), leC m v v' K → leV m v v' ∧ K
  | v, .any, K, h => by
    simp only [leC] at h; split at h
    · exact h.elim
    · rename_i hb; simp only [Bool.or_eq_false_iff] at hb; simp only [leV]; exact ⟨hb, h⟩
  | v, .int k n, K, h => by
    simp only [leC] at h; split at h
    · obtain ⟨⟨rfl⟩, ⟨rfl⟩, h⟩ := h; simp only [leV]; exact ⟨trivial, h⟩
    · exact h.elim
  | v, .tt, K, h => by
    simp only [leC] at h; split at h
    · simp only [leV]; exact ⟨trivial, h⟩
    · exact h.2.elim
    · exact h.elim
  | v, .ff, K, h => by
    simp only [leC] at h; split at h
    · simp only [leV]; exact ⟨trivial, h⟩
    · exact h.2.elim
    · exact h.elim
  | v, .bool b, K, h => by
    simp only [leC] at h; split at h
    · obtain ⟨⟨rfl⟩, h⟩ := h; simp only [leV, vb]; exact ⟨trivial, h⟩
    · obtain ⟨⟨rfl⟩, h⟩ := h; simp only [leV, vb]; exact ⟨trivial, h⟩
    · obtain ⟨⟨rfl⟩, h⟩ := h; simp only [leV, vb]; exact ⟨trivial, h⟩
    · exact h.elim
  | v, .str s, K, h => by
    simp only [leC] at h; split at h
    · obtain ⟨⟨rfl⟩, h⟩ := h; simp only [leV]; exact ⟨trivial, h⟩
    · exact h.elim
  | v, .nilp, K, h | v, .emp, K, h | v, .nilf, K, h | v, .nili, K, h => by
    simp only [leC] at h; split at h
    · simp only [leV]; exact ⟨trivial, h⟩
    · exact h.elim
  | v, .ref i p, K, h => by
    simp only [leC] at h
    simp only [leV]
    split at h
    · split at h
      · obtain ⟨⟨rfl, rfl⟩, h⟩ := h; simp only [*]; exact ⟨trivial, trivial⟩
      · exact h.elim
    · exact h.elim
  | v, .rref i p sz lo n, K, h => by
    simp only [leC] at h
    simp only [leV]
    split at h
    · split at h
      · obtain ⟨⟨rfl, rfl, rfl⟩, ⟨rfl, rfl⟩, h⟩ := h; simp only [*]; exact ⟨trivial, trivial⟩
      · exact h.elim
    · exact h.elim
  | v, .sl i p sz lo len cap, K, h => by
    simp only [leC] at h
    simp only [leV]
    split at h
    · split at h
      · obtain ⟨⟨rfl, rfl, rfl⟩, ⟨rfl, rfl, rfl⟩, h⟩ := h; simp only [*]; exact ⟨trivial, trivial⟩
      · exact h.elim
    · split at h
      · obtain ⟨⟨rfl, rfl⟩, h⟩ := h; simp only [*]; exact ⟨⟨trivial, trivial, trivial⟩, trivial⟩
      · exact h.elim
    · exact h.elim
  | v, .imm l sz n f, K, h => by
    simp only [leC] at h
    simp only [leV]
    split at h
    · exact ⟨.inl ⟨rfl, h.1.out⟩, h.2⟩
    · obtain ⟨⟨rfl, rfl⟩, ⟨rfl⟩, ⟨hf⟩, h⟩ := h; exact ⟨.inr ⟨_, rfl, hf⟩, h⟩
    · exact h.elim
  | v, .pim l u, K, h => by
    simp only [leC] at h; split at h
    · simp only [leV]; exact ⟨h.1.out, h.2⟩
    · exact h.elim
  | v, .row sz n f, K, h => by
    simp only [leC] at h; split at h
    · obtain ⟨⟨rfl⟩, ⟨rfl⟩, ⟨hf⟩, h⟩ := h; simp only [leV]; exact ⟨⟨_, rfl, hf⟩, h⟩
    · exact h.elim
  | v, .st l', K, h => by
    simp only [leC] at h; split at h
    · obtain ⟨h1, h2⟩ := leCs_ok _ _ _ h; simp only [leV]; exact ⟨⟨_, rfl, h1⟩, h2⟩
    · exact h.elim
  | v, .fn f c, K, h => by
    simp only [leC] at h; split at h
    · obtain ⟨⟨rfl⟩, h⟩ := h
      obtain ⟨h1, h2⟩ := leCs_ok _ _ _ h; simp only [leV]; exact ⟨⟨_, rfl, h1⟩, h2⟩
    · exact h.elim
  | v, .iface t u, K, h => by
    simp only [leC] at h; split at h
    · obtain ⟨⟨rfl⟩, h⟩ := h
      obtain ⟨h1, h2⟩ := leC_ok _ _ _ h; simp only [leV]; exact ⟨⟨_, rfl, h1⟩, h2⟩
    · exact h.elim
  | v, .tup l, K, h => by
    simp only [leC] at h; split at h
    · simp only [leV]; exact ⟨⟨trivial, trivial⟩, h⟩
    · exact h.elim
theorem leCs_ok {m : List (Option Nat)} : ∀ (l l' : Vs) (K : Prop), leCs m l l' K → leVs m l l' ∧ K
  | .nil, .nil, K, h => by simp only [leCs] at h; simp only [leVs]; exact ⟨trivial, h⟩
  | .cons v l, .cons v' l', K, h => by
    simp only [leCs] at h
    obtain ⟨h1, h2⟩ := leC_ok _ _ _ h
    obtain ⟨h3, h4⟩ := leCs_ok _ _ _ h2
    simp only [leVs]; exact ⟨⟨h1, h3⟩, h4⟩
  | .nil, .cons _ _, _, h => by simp only [leCs] at h
  | .cons _ _, .nil, _, h => by simp only [leCs] at h
end
def leTC (m : List (Option Nat)) (t : Nat → V) : List (Nat × V) → Prop → Prop
  | [], K => K
  | (k, v) :: l, K => leC m (t k) v (leTC m t l K)
def leHC (mm : List (Option Nat)) (h : Heap) : List (Option Nat) → Heap → Prop → Prop
  | [], [], K => K
  | none :: m, v :: l, K => (match v with | some (.row _ n _) => Ob (n = 0) ∧ leHC mm h m l K | none => leHC mm h m l K | _ => False)
  | some _ :: m, none :: l, K => leHC mm h m l K
  | some j :: m, some v :: l, K => (match hget h j with | some u => leC mm u v (leHC mm h m l K) | none => False)
  | _, _, _ => False
def LeC (n0 : Nat) (m : List (Option Nat)) (σ : St) (tl : List (Nat × V)) (h : Heap) (K : Prop) : Prop :=
  match noDup m && idOn n0 0 m with
  | true => (match σ with | ⟨t, h0⟩ => leTC m t tl (leHC m h0 m h K))
  | false => False
theorem leTC_ok {m : List (Option Nat)} {t : Nat → V} : ∀ (tl : List (Nat × V)) (K : Prop), leTC m t tl K → leT m t tl ∧ K
  | [], K, h => ⟨trivial, h⟩
  | (k, v) :: l, K, h => by
    simp only [leTC] at h
    obtain ⟨h1, h2⟩ := leC_ok _ _ _ h
    obtain ⟨h3, h4⟩ := leTC_ok l K h2
    simp only [leT]
    exact ⟨⟨by unfold leS; split <;> first | trivial | exact h1, h3⟩, h4⟩
theorem leHC_ok {mm : List (Option Nat)} {h0 : Heap} : ∀ (m : List (Option Nat)) (h : Heap) (K : Prop), leHC mm h0 m h K → leH mm h0 m h ∧ K
  | [], [], K, h => ⟨trivial, h⟩
  | none :: m, v :: l, K, h => by
    simp only [leHC] at h
    simp only [leH]
    split at h
    · obtain ⟨⟨rfl⟩, h⟩ := h
      obtain ⟨h1, h2⟩ := leHC_ok m l K h
      exact ⟨⟨trivial, h1⟩, h2⟩
    · obtain ⟨h1, h2⟩ := leHC_ok m l K h
      exact ⟨⟨trivial, h1⟩, h2⟩
    · exact h.elim
  | some j :: m, none :: l, K, h => by
    simp only [leHC] at h
    simp only [leH]
    exact leHC_ok m l K h
  | some j :: m, some v :: l, K, h => by
    simp only [leHC] at h
    simp only [leH]
    split at h
    · rename_i u hu
      obtain ⟨h1, h2⟩ := leC_ok _ _ _ h
      obtain ⟨h3, h4⟩ := leHC_ok m l K h2
      exact ⟨⟨by simp only [hu]; exact h1, h3⟩, h4⟩
    · exact h.elim
  | [], _ :: _, _, h => by simp [leHC] at h
  | none :: _, [], _, h => by simp [leHC] at h
  | some _ :: _, [], _, h => by simp [leHC] at h
theorem LeC.le {n0 : Nat} {m : List (Option Nat)} {σ : St} {tl : List (Nat × V)} {h : Heap} {K : Prop} (hl : LeC n0 m σ tl h K) : Le n0 m σ tl h ∧ K := by
  unfold LeC at hl
  split at hl
  · rename_i hs
    obtain ⟨t, h0⟩ := σ
    simp only at hl
    obtain ⟨h1, h2⟩ := leTC_ok _ _ hl
    obtain ⟨h3, h4⟩ := leHC_ok _ _ _ h2
    exact ⟨⟨h1, h3, hs⟩, h4⟩
  · exact hl.elim

section
variable {P : Program} {Γ : Ctx}
theorem OK_weakC {c : Code} {Q : Exit → St → Prop} {σ : St} (m : List (Option Nat)) (tl : List (Nat × V)) (h : Heap) (hl : LeC Γ.n0 m σ tl h (OK P Γ c Q (tmpl tl h))) : OK P Γ c Q σ :=
  OK_weak m hl.le.1 hl.le.2
/-- A loop: at its head the state fits the template of some index; each round goes on to a smaller one, or leaves. -/
theorem OK_loopC {ι : Type} {b : Code} {Q : Exit → St → Prop} {σ : St} (tl : ι → List (Nat × V)) (hp : ι → Heap) (p : ι → Prop) (μ : ι → Nat) (x0 : ι) (m0 : List (Option Nat)) (h0 : LeC Γ.n0 m0 σ (tl x0) (hp x0) (Ob (p x0)))
    (round : ∀ x, p x → OK P Γ b (seqQ (fun σ' => ∃ y m, LeC Γ.n0 m σ' (tl y) (hp y) (Ob (p y ∧ μ y < μ x))) Q) (tmpl (tl x) (hp x))) : OK P Γ (.loop b) Q σ :=
  OK_loop tl hp p μ x0 m0 h0.le.1 h0.le.2.out fun x hx => (round x hx).mono fun e σ' hq => by
    cases e with
    | normal => obtain ⟨y, m, hl⟩ := hq; exact ⟨y, m, hl.le.1, hl.le.2.out.1, hl.le.2.out.2⟩
    | _ => exact hq
theorem OK_cutC {ι : Type} {a b : Code} {Q : Exit → St → Prop} {σ : St} (tl : ι → List (Nat × V)) (hp : ι → Heap) (p : ι → Prop)
    (h : OK P Γ a (seqQ (fun σ' => ∃ x m, LeC Γ.n0 m σ' (tl x) (hp x) (Ob (p x))) Q) σ) (hb : ∀ x, p x → OK P Γ b Q (tmpl (tl x) (hp x))) : OK P Γ (.seq a b) Q σ :=
  OK_cut tl hp p (h.mono fun e σ' hq => by
    cases e with
    | normal => obtain ⟨y, m, hl⟩ := hq; exact ⟨y, m, hl.le.1, hl.le.2.out⟩
    | _ => exact hq) hb
theorem wrap64 {x : Int} (h0 : -9223372036854775808 ≤ x) (h1 : x ≤ 9223372036854775807) : IntKind.i64.wrap x = x := by
  rw [IntKind.wrap_i64]; omega
theorem wrapu64 {x : Int} (h0 : 0 ≤ x) (h1 : x < 18446744073709551616) : IntKind.u64.wrap x = x := by
  rw [IntKind.wrap_u64]; omega
end
end Go.DD
