/- The heap of a walk: new blocks, stores, draws. -/
import Derived.Test.YtaekeldgnlphkaaD2
namespace Go.DD
set_option linter.unusedVariables false
open Go.RowKit

mutual
/-- Whatever stands in cells is of one cell each. -/
theorem R_one {E : Env} : ∀ (v : V) (c : Nat → Option Value) (o q : Nat), R E v c o → q < vsize v → ∃ x, c (o + q) = some x ∧ x.oneCell' = true
  | .row sz n f, c, o, q, hr, hq => by
    simp only [R] at hr
    simp only [vsize] at hq
    have hsz : 0 < sz := by rcases Nat.eq_zero_or_pos sz with h | h; (subst h; simp at hq); exact h
    have hk : q / sz < n := by rw [Nat.div_lt_iff_lt_mul hsz, Nat.mul_comm]; exact hq
    have hm : q % sz < sz := Nat.mod_lt _ hsz
    obtain ⟨x, h1, h2⟩ := R_one (f (q / sz)) c (o + q / sz * sz) (q % sz) (hr _ hk).2 (by rw [(hr _ hk).1]; exact hm)
    refine ⟨x, ?_, h2⟩
    rw [← h1]; congr 1
    have := Nat.div_add_mod q sz
    rw [Nat.mul_comm] at this
    omega
  | .st l, c, o, q, hr, hq => by
    simp only [R] at hr
    exact RL_one l c o q hr (by simpa only [vsize] using hq)
  | .tup _, c, o, q, hr, _ => by simp only [R] at hr
  | .int .., c, o, q, hr, hq => by simp only [R, vsize] at hr hq; obtain rfl : q = 0 := by omega
                                   exact ⟨_, hr, rfl⟩
  | .tt, c, o, q, hr, hq => by simp only [R, vsize] at hr hq; obtain rfl : q = 0 := by omega
                               exact ⟨_, hr, rfl⟩
  | .ff, c, o, q, hr, hq => by simp only [R, vsize] at hr hq; obtain rfl : q = 0 := by omega
                               exact ⟨_, hr, rfl⟩
  | .bool _, c, o, q, hr, hq => by simp only [R, vsize] at hr hq; obtain rfl : q = 0 := by omega
                                   exact ⟨_, hr, rfl⟩
  | .str _, c, o, q, hr, hq => by simp only [R, vsize] at hr hq; obtain rfl : q = 0 := by omega
                                  exact ⟨_, hr, rfl⟩
  | .nilp, c, o, q, hr, hq => by simp only [R, vsize] at hr hq; obtain rfl : q = 0 := by omega
                                 exact ⟨_, hr, rfl⟩
  | .ref .., c, o, q, hr, hq => by simp only [R, vsize] at hr hq; obtain rfl : q = 0 := by omega
                                   exact ⟨_, hr.2, rfl⟩
  | .rref .., c, o, q, hr, hq => by simp only [R, vsize] at hr hq; obtain rfl : q = 0 := by omega
                                    exact ⟨_, hr.2, rfl⟩
  | .pim .., c, o, q, hr, hq => by simp only [R, vsize] at hr hq; obtain rfl : q = 0 := by omega
                                   obtain ⟨b, off, h, _⟩ := hr; exact ⟨_, h, rfl⟩
  | .sl .., c, o, q, hr, hq => by simp only [R, vsize] at hr hq; obtain rfl : q = 0 := by omega
                                  obtain ⟨_, b, off, h, _⟩ := hr; exact ⟨_, h, rfl⟩
  | .emp, c, o, q, hr, hq => by simp only [R, vsize] at hr hq; obtain rfl : q = 0 := by omega
                                obtain ⟨b, h⟩ := hr; exact ⟨_, h, rfl⟩
  | .imm .., c, o, q, hr, hq => by simp only [R, vsize] at hr hq; obtain rfl : q = 0 := by omega
                                   obtain ⟨b, off, h, _⟩ := hr; exact ⟨_, h, rfl⟩
  | .fn .., c, o, q, hr, hq => by simp only [R, vsize] at hr hq; obtain rfl : q = 0 := by omega
                                  obtain ⟨b, h, _⟩ := hr; exact ⟨_, h, rfl⟩
  | .nilf, c, o, q, hr, hq => by simp only [R, vsize] at hr hq; obtain rfl : q = 0 := by omega
                                 exact ⟨_, hr, rfl⟩
  | .iface .., c, o, q, hr, hq => by simp only [R, vsize] at hr hq; obtain rfl : q = 0 := by omega
                                     obtain ⟨b, h, _⟩ := hr; exact ⟨_, h, rfl⟩
  | .nili, c, o, q, hr, hq => by simp only [R, vsize] at hr hq; obtain rfl : q = 0 := by omega
                                 exact ⟨_, hr, rfl⟩
  | .any, c, o, q, hr, hq => by simp only [R, vsize] at hr hq; obtain rfl : q = 0 := by omega
                                obtain ⟨x, h, h2⟩ := hr; exact ⟨x, h, h2⟩
theorem RL_one {E : Env} : ∀ (l : Vs) (c : Nat → Option Value) (o q : Nat), RL E l c o → q < vsizes l → ∃ x, c (o + q) = some x ∧ x.oneCell' = true
  | .nil, c, o, q, _, hq => by simp [vsizes] at hq
  | .cons v l, c, o, q, hr, hq => by
    simp only [RL] at hr
    simp only [vsizes] at hq
    by_cases h : q < vsize v
    · exact R_one v c o q hr.1 h
    · obtain ⟨x, h1, h2⟩ := RL_one l c (o + vsize v) (q - vsize v) hr.2 (by omega)
      exact ⟨x, by rw [← h1]; congr 1; omega, h2⟩
end

def Live (E : Env) (v : V) (i : Nat) : Prop :=
  (E.vt i = true ∧ ∃ sz f, v = .row sz 0 f) ∨
  (E.vt i = false ∧ ¬ E.K (E.ρ i) ∧ ∃ (cs : Array Value) (t : TypeId), E.w.heap[E.ρ i]? = some (.cells cs t (0, 0)) ∧ vsize v ≤ cs.size ∧ R E v (fun q => cs[q]?) 0)
structure SimH (E : Env) (h : List (Option V)) : Prop where
  len : h.length = E.N
  live : ∀ (i : Nat) v, h[i]? = some (some v) → Live E v i
  inj : ∀ (i j : Nat) v v', h[i]? = some (some v) → h[j]? = some (some v') → i ≠ j → E.vt i = false → E.vt j = false → E.ρ i ≠ E.ρ j

theorem SimH.lt {E : Env} {h : List (Option V)} (hs : SimH E h) {i : Nat} {x : Option V} (hi : h[i]? = some x) : i < E.N := by
  rw [← hs.len]; exact (List.getElem?_eq_some_iff.1 hi).1

/-- Forgetting a block. -/
theorem SimH.forget {E : Env} {h : List (Option V)} (hs : SimH E h) (i : Nat) : SimH E (h.set i none) where
  len := by simpa using hs.len
  live := fun j v hj => by
    rw [List.getElem?_set] at hj
    split at hj
    · split at hj <;> simp at hj
    · exact hs.live j v hj
  inj := fun j k v v' hj hk => by
    rw [List.getElem?_set] at hj hk
    split at hj
    · split at hj <;> simp at hj
    · split at hk
      · split at hk <;> simp at hk
      · exact hs.inj j k v v' hj hk

/-! ### A new block -/
theorem World.heap_size_alloc (w : World) (o : Obj) : (w.alloc o).heap.size = w.heap.size + 1 := by simp
theorem World.heap_alloc_new (w : World) (o : Obj) : (w.alloc o).heap[w.heap.size]? = some o := by
  show (w.heap.push o)[w.heap.size]? = some o
  rw [Array.getElem?_push, if_pos rfl]
def Env.alloc (E : Env) (o : Obj) : Env :=
  { E with w := E.w.alloc o, ρ := fun i => if i = E.N then E.w.heap.size else E.ρ i, vt := fun i => if i = E.N then false else E.vt i, N := E.N + 1 }
/-- A row of nothing, nowhere. -/
def Env.valloc (E : Env) : Env := { E with vt := fun i => if i = E.N then true else E.vt i, N := E.N + 1 }

theorem Env.ext_alloc {E : Env} (hw : Wf E) (o : Obj) : Ext E (E.alloc o) where
  os := rfl
  tape := rfl
  output := rfl
  size := by simp [Env.alloc]
  N := Nat.le_succ _
  ρ := fun i hi => by simp only [Env.alloc]; rw [if_neg (by omega)]
  vt := fun i hi => by simp only [Env.alloc]; rw [if_neg (by omega)]
  S := fun _ h => h
  S' := fun _ h => .inl h
  L := fun _ => Iff.rfl
  K := fun _ h => h
  kept := fun b hb => Below.heap_alloc _ _ _ (hw.K b hb)
  cells := fun b cs t fr hb => ⟨cs, fr, by
    have hlt : b < E.w.heap.size := (Array.getElem?_eq_some_iff.1 hb).1
    exact (Below.heap_alloc E.w o b hlt).trans hb, rfl⟩
theorem Env.wf_alloc {E : Env} (hw : Wf E) (o : Obj) : Wf (E.alloc o) := ⟨hw.S, hw.L, fun b hb => by have := hw.K b hb; simp only [Env.alloc, World.heap_size_alloc]; omega⟩
theorem Env.ext_valloc {E : Env} : Ext E E.valloc where
  os := rfl
  tape := rfl
  output := rfl
  size := Nat.le_refl _
  N := Nat.le_succ _
  ρ := fun i hi => rfl
  vt := fun i hi => by simp only [Env.valloc]; rw [if_neg (by omega)]
  S := fun _ h => h
  S' := fun _ h => .inl h
  L := fun _ => Iff.rfl
  K := fun _ h => h
  kept := fun b hb => rfl
  cells := fun b cs t fr hb => ⟨cs, fr, hb, rfl⟩
theorem Env.wf_valloc {E : Env} (hw : Wf E) : Wf E.valloc := ⟨hw.S, hw.L, hw.K⟩

/-- What a block holds, in a greater environment that left its block alone. -/
theorem Live.ext {E E' : Env} (hw : Wf E) (h : Ext E E') {v : V} {i : Nat} (hi : i < E.N) (hl : Live E v i) (hk : ¬ E.K (E.ρ i) → E.vt i = false → ¬ E'.K (E.ρ i)) (hb : E.vt i = false → E'.w.heap[E.ρ i]? = E.w.heap[E.ρ i]?) : Live E' v i := by
  rcases hl with ⟨h1, h2⟩ | ⟨h1, h2, cs, t, h3, h4, h5⟩
  · exact .inl ⟨(h.vt i hi).trans h1, h2⟩
  · refine .inr ⟨(h.vt i hi).trans h1, by rw [h.ρ i hi]; exact hk h2 h1, cs, t, by rw [h.ρ i hi, hb h1]; exact h3, h4, R_ext hw h _ _ _ h5⟩

theorem alloc_ok {E : Env} {h : List (Option V)} (hw : Wf E) (hs : SimH E h) {cs : Array Value} {t : TypeId} {v : V} (hv : R E v (fun q => cs[q]?) 0) (hz : vsize v ≤ cs.size) :
    SimH (E.alloc (.cells cs t)) (h ++ [some v]) := by
  have hx := Env.ext_alloc hw (.cells cs t)
  refine ⟨by simp [Env.alloc, hs.len], fun i u hi => ?_, fun i j u u' hi hj hne h1 h2 => ?_⟩
  · rw [List.getElem?_append] at hi
    split at hi
    · rename_i hlt
      have hiN : i < E.N := by rw [← hs.len]; exact hlt
      refine (hs.live i u hi).ext hw hx hiN (fun h _ => h) (fun hv => ?_)
      rcases hs.live i u hi with ⟨h1, _⟩ | ⟨_, _, cs', t', h3, _⟩
      · rw [h1] at hv; cases hv
      · exact Below.heap_alloc _ _ _ (Array.getElem?_eq_some_iff.1 h3).1
    · rename_i hlt
      rw [hs.len] at hi hlt
      have : i = E.N := by
        have := (List.getElem?_eq_some_iff.1 hi).1
        simp at this; omega
      subst this
      simp at hi
      subst hi
      refine .inr ⟨by simp [Env.alloc], ?_, cs, t, ?_, hz, R_ext hw hx _ _ _ hv⟩
      · simp only [Env.alloc, if_true]
        intro hk
        exact Nat.lt_irrefl _ (hw.K _ hk)
      · simp only [Env.alloc, if_true]; exact World.heap_alloc_new _ _
  · have hphys : ∀ k x, h[k]? = some (some x) → E.vt k = false → E.ρ k < E.w.heap.size := fun k x hk hv => by
      rcases hs.live k x hk with ⟨h1, _⟩ | ⟨_, _, cs', t', h3, _⟩
      · rw [h1] at hv; cases hv
      · exact (Array.getElem?_eq_some_iff.1 h3).1
    rw [List.getElem?_append] at hi hj
    have hnew : ∀ k x, ¬ k < h.length → [some v][k - h.length]? = some (some x) → k = E.N := fun k x hk hx => by
      have := (List.getElem?_eq_some_iff.1 hx).1
      simp at this; rw [hs.len] at this hk; omega
    split at hi <;> split at hj
    · rename_i ha hb
      rw [hs.len] at ha hb
      simp only [Env.alloc] at h1 h2 ⊢
      rw [if_neg (by omega)] at h1 h2 ⊢
      rw [if_neg (by omega)]
      exact hs.inj i j u u' hi hj hne h1 h2
    · rename_i ha hb
      have := hnew j u' hb hj
      subst this
      rw [hs.len] at ha
      simp only [Env.alloc, if_true] at h1 ⊢
      rw [if_neg (by omega)] at h1 ⊢
      exact Nat.ne_of_lt (hphys i u hi h1)
    · rename_i ha hb
      have := hnew i u ha hi
      subst this
      rw [hs.len] at hb
      simp only [Env.alloc, if_true] at h2 ⊢
      rw [if_neg (by omega)] at h2 ⊢
      exact Nat.ne_of_gt (hphys j u' hj h2)
    · rename_i ha hb
      exact absurd ((hnew i u ha hi).trans (hnew j u' hb hj).symm) hne

theorem valloc_ok {E : Env} {h : List (Option V)} (hw : Wf E) (hs : SimH E h) (sz : Nat) (f : Nat → V) : SimH E.valloc (h ++ [some (.row sz 0 f)]) := by
  have hx := Env.ext_valloc (E := E)
  refine ⟨by simp [Env.valloc, hs.len], fun i u hi => ?_, fun i j u u' hi hj hne h1 h2 => ?_⟩
  · rw [List.getElem?_append] at hi
    split at hi
    · rename_i hlt
      have hiN : i < E.N := by rw [← hs.len]; exact hlt
      exact (hs.live i u hi).ext hw hx hiN (fun h _ => h) (fun _ => rfl)
    · rename_i hlt
      rw [hs.len] at hi hlt
      have : i = E.N := by
        have := (List.getElem?_eq_some_iff.1 hi).1
        simp at this; omega
      subst this
      simp at hi
      subst hi
      exact .inl ⟨by simp [Env.valloc], sz, f, rfl⟩
  · rw [List.getElem?_append] at hi hj
    have hnew : ∀ k x, ¬ k < h.length → [some (V.row sz 0 f)][k - h.length]? = some (some x) → k = E.N := fun k x hk hx => by
      have := (List.getElem?_eq_some_iff.1 hx).1
      simp at this; rw [hs.len] at this hk; omega
    split at hi <;> split at hj
    · rename_i ha hb
      rw [hs.len] at ha hb
      simp only [Env.valloc] at h1 h2 ⊢
      rw [if_neg (by omega)] at h1 h2
      exact hs.inj i j u u' hi hj hne h1 h2
    · rename_i ha hb
      have := hnew j u' hb hj
      subst this
      simp [Env.valloc] at h2
    · rename_i ha hb
      have := hnew i u ha hi
      subst this
      simp [Env.valloc] at h1
    · rename_i ha hb
      exact absurd ((hnew i u ha hi).trans (hnew j u' hb hj).symm) hne

/-! ### A block written -/
structure Wrote (w w' : World) (b : Nat) (cs' : Array Value) (t : TypeId) : Prop where
  os : w'.os = w.os
  tape : w'.tape = w.tape
  output : w'.output = w.output
  size : w'.heap.size = w.heap.size
  here : w'.heap[b]? = some (.cells cs' t (0, 0))
  other : ∀ k, k ≠ b → w'.heap[k]? = w.heap[k]?

theorem Wrote.setRow {w : World} {b : Nat} {cs cs' : Array Value} {t : TypeId} (h : w.heap[b]? = some (.cells cs t (0, 0))) : Wrote w (w.setRow b cs') b cs' t :=
  ⟨rfl, rfl, rfl, by simp, setRow_heap w b cs cs' t _ h, fun k hk => setRow_other w b k cs' hk⟩

theorem Wrote.ext {E : Env} {w' : World} {b : Nat} {cs cs' : Array Value} {t : TypeId} (hb : E.w.heap[b]? = some (.cells cs t (0, 0))) (hk : ¬ E.K b) (hsz : cs'.size = cs.size) (h : Wrote E.w w' b cs' t) : Ext E { E with w := w' } where
  os := h.os
  tape := h.tape
  output := h.output
  size := by simp [h.size]
  N := Nat.le_refl _
  ρ := fun _ _ => rfl
  vt := fun _ _ => rfl
  S := fun _ h => h
  S' := fun _ h => .inl h
  L := fun _ => Iff.rfl
  K := fun _ h => h
  kept := fun c hc => h.other c (fun e => hk (e ▸ hc))
  cells := fun c cs₀ t₀ fr hc => by
    by_cases e : c = b
    · subst e
      rw [hb] at hc
      cases hc
      exact ⟨cs', _, h.here, hsz⟩
    · exact ⟨cs₀, fr, (h.other c e).trans hc, rfl⟩
theorem Wrote.wf {E : Env} {w' : World} {b : Nat} {cs' : Array Value} {t : TypeId} (hw : Wf E) (h : Wrote E.w w' b cs' t) : Wf { E with w := w' } :=
  ⟨hw.S, hw.L, fun c hc => by have := hw.K c hc; simp only [h.size]; exact this⟩

theorem wrote_ok {E : Env} {h : List (Option V)} {w' : World} {i : Nat} {v v' : V} {cs cs' : Array Value} {t : TypeId} (hw : Wf E) (hs : SimH E h) (hi : h[i]? = some (some v)) (hvt : E.vt i = false)
    (hb : E.w.heap[E.ρ i]? = some (.cells cs t (0, 0))) (hk : ¬ E.K (E.ρ i)) (hsz : cs'.size = cs.size) (hwr : Wrote E.w w' (E.ρ i) cs' t) (hv : R E v' (fun q => cs'[q]?) 0) (hz : vsize v' ≤ cs'.size) :
    SimH { E with w := w' } (h.set i (some v')) := by
  have hx := Wrote.ext hb hk hsz hwr
  have old : ∀ j u, (h.set i (some v'))[j]? = some (some u) → (j = i ∧ u = v') ∨ (j ≠ i ∧ h[j]? = some (some u)) := fun j u hj => by
    rw [List.getElem?_set] at hj
    split at hj
    · rename_i e
      split at hj
      · simp at hj; exact .inl ⟨e.symm, hj.symm⟩
      · cases hj
    · rename_i e
      exact .inr ⟨fun e' => e e'.symm, hj⟩
  have keep : ∀ j u, (h.set i (some v'))[j]? = some (some u) → ∃ u', h[j]? = some (some u') := fun j u hj => by
    rcases old j u hj with ⟨rfl, _⟩ | ⟨_, h2⟩
    · exact ⟨v, hi⟩
    · exact ⟨u, h2⟩
  refine ⟨by simpa using hs.len, fun j u hj => ?_, fun j k u u' hj hk' => ?_⟩
  · rcases old j u hj with ⟨rfl, rfl⟩ | ⟨hne, hj'⟩
    · exact .inr ⟨hvt, hk, cs', t, hwr.here, hz, R_ext hw hx _ _ _ hv⟩
    · refine (hs.live j u hj').ext hw hx (hs.lt hj') (fun h _ => h) (fun hvj => hwr.other _ (hs.inj j i u v hj' hi hne hvj hvt))
  · obtain ⟨a, ha⟩ := keep j u hj
    obtain ⟨b, hb⟩ := keep k u' hk'
    exact hs.inj j k a b ha hb

/-! ### A draw -/
def Env.drew (E : Env) : Env := { E with w := E.w.drew }
theorem Env.ext_drew (E : Env) : Ext E E.drew := ⟨rfl, rfl, rfl, Nat.le_refl _, Nat.le_refl _, fun _ _ => rfl, fun _ _ => rfl, fun _ h => h, fun _ h => .inl h, fun _ => Iff.rfl, fun _ h => h, fun _ _ => rfl, fun _ cs _ fr h => ⟨cs, fr, h, rfl⟩⟩
theorem Env.wf_drew {E : Env} (hw : Wf E) : Wf E.drew := ⟨hw.S, hw.L, hw.K⟩
theorem drew_ok {E : Env} {h : List (Option V)} (hw : Wf E) (hs : SimH E h) : SimH E.drew h :=
  ⟨hs.len, fun i v hi => (hs.live i v hi).ext hw E.ext_drew (hs.lt hi) (fun h _ => h) (fun _ => rfl), hs.inj⟩
end Go.DD
