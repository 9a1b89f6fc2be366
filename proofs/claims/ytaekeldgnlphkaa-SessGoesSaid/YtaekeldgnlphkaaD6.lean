/- Addresses, loads, stores. -/
import Derived.Test.YtaekeldgnlphkaaD5
namespace Go.DD
set_option linter.unusedVariables false
open Go.RowKit

def hget : List (Option V) → Nat → Option V | [], _ => none | x :: _, 0 => x | _ :: l, k + 1 => hget l k
theorem hget_eq : ∀ (h : List (Option V)) (k : Nat) (v : V), hget h k = some v ↔ h[k]? = some (some v)
  | [], k, v => by simp [hget]
  | x :: l, 0, v => by simp [hget]
  | x :: l, k + 1, v => by simpa [hget] using hget_eq l k v

def fitB (i : TI) (v : V) : Bool :=
  match v with
  | .row .. | .st .. => i.d.isAgg && Nat.beq i.sz (vsize v)
  | .tup _ | .any => false
  | _ => !i.d.isAgg
/-- A path leads somewhere; and so on. -/
def okq : V → List Step → Prop → Prop
  | _, [], K => K
  | .st l, .f k off :: p, K => match Nat.blt k l.len && Nat.beq (presz l k) off with | true => okq (l.get k) p K | false => False
  | .row sz n f, .i k sz' :: p, K => match Nat.beq sz' sz with | true => Ob (k < n) ∧ okq (f k) p K | false => False
  | _, _ :: _, _ => False
theorem okq_okp : ∀ (p : List Step) (v : V) (K : Prop), okq v p K → okp v p ∧ K
  | [], v, K, h => ⟨by simp [okp], by simpa [okq] using h⟩
  | s :: p, v, K, h => by
    cases v <;> cases s <;> simp only [okq] at h
    · split at h
      · rename_i hb
        have := okq_okp p _ K h.2
        exact ⟨by simp only [okp]; exact ⟨⟨h.1.out, by simpa using hb⟩, this.1⟩, this.2⟩
      · exact h.elim
    · split at h
      · rename_i hb
        simp only [Bool.and_eq_true, Nat.beq_eq, Nat.blt_eq] at hb
        have := okq_okp p _ K h
        exact ⟨by simp only [okp]; exact ⟨hb, this.1⟩, this.2⟩
      · exact h.elim

def loadD (tb : List (Option TI)) (t : Nat) (x : V) (h : List (Option V)) (κ : V → Prop) : Prop :=
  match getT tb t with
  | none => False
  | some i =>
    match x with
    | .ref j p =>
      match hget h j with
      | some c => okq c p (match fitB i (sub c p) with | true => κ (sub c p) | false => False)
      | none => False
    | .rref j p sz lo n =>
      match hget h j with
      | some c =>
        match sub c p with
        | .row sz' m f => okq c p (Ob (lo + n ≤ m) ∧ match Nat.beq sz sz' && fitB i (.row sz n fun k => f (lo + k)) with | true => κ (.row sz n fun k => f (lo + k)) | false => False)
        | _ => False
      | none => False
    | .pim _ v => match fitB i v with | true => κ v | false => False
    | _ => False
def storeD (tb : List (Option TI)) (t : Nat) (x u : V) (h : List (Option V)) (κ : List (Option V) → Prop) : Prop :=
  match getT tb t with
  | none => False
  | some i =>
    match x with
    | .ref j p =>
      match hget h j with
      | some c => okq c p (match fitB i (sub c p) && fitB i u && !Nat.beq i.sz 0 with | true => κ (h.set j (some (upd c p u))) | false => False)
      | none => False
    | _ => False
def fieldAddrD (tb : List (Option TI)) (s : Nat) (x : V) (k : Nat) (κ : V → Prop) : Prop :=
  match getT tb s with
  | some ⟨.st fs, _, _, _⟩ =>
    match fs[k]? with
    | some (off, ft) =>
      match getT tb ft with
      | some fi =>
        match Nat.beq fi.sz 0 with
        | true => False
        | false =>
          match x with
          | .ref j p => κ (.ref j (p ++ [.f k off]))
          | .pim l (.st vs) => match Nat.blt k vs.len && Nat.beq (presz vs k) off with | true => κ (.pim l (vs.get k)) | false => False
          | _ => False
      | none => False
    | none => False
  | _ => False
def indexAddrD (tb : List (Option TI)) (t : Nat) (x ix : V) (κ : V → Prop) : Prop :=
  match ix with
  | .int _ n =>
    match getT tb t with
    | some ⟨.slice e, _, _, _⟩ =>
      match getT tb e with
      | some ei =>
        match x with
        | .sl j p sz lo len _ => match Nat.beq ei.sz sz with | true => Ob (0 ≤ n ∧ n < len) ∧ κ (.ref j (p ++ [.i (lo + n.toNat) sz])) | false => False
        | .imm l sz m f => match Nat.beq ei.sz sz with | true => Ob (0 ≤ n ∧ n < m) ∧ κ (.pim l (f n.toNat)) | false => False
        | _ => False
      | none => False
    | some ⟨.arr m e, _, _, _⟩ =>
      match getT tb e with
      | some ei =>
        match x with
        | .ref j p => Ob (0 ≤ n ∧ n < m) ∧ κ (.ref j (p ++ [.i n.toNat ei.sz]))
        | .pim l (.row sz m' f) => match Nat.beq ei.sz sz && Nat.beq m' m with | true => Ob (0 ≤ n ∧ n < m) ∧ κ (.pim l (f n.toNat)) | false => False
        | _ => False
      | none => False
    | _ => False
  | _ => False
/-- A bound of a cut: what is not written is 'd'. -/
def cutAt (v : Option V) (d : Int) (κ : Int → Prop) : Prop :=
  match v with
  | none => κ d
  | some (.int _ n) => κ n
  | some _ => False
def sliceD (tb : List (Option TI)) (t : Nat) (x : V) (lo hi mx : Option V) (h : List (Option V)) (κ : V → Prop) : Prop :=
  match mx.isSome && hi.isNone with
  | true => False
  | false =>
  cutAt lo 0 fun l =>
  match getT tb t with
  | some ⟨.slice e, _, _, _⟩ =>
    match getT tb e with
    | some ei =>
      match x with
      | .sl j p sz l0 len cap => match Nat.beq ei.sz sz with
        | true => cutAt hi len fun r => cutAt mx cap fun m => Ob (0 ≤ l ∧ l ≤ r ∧ r ≤ m ∧ m ≤ cap) ∧ κ (.sl j p sz (l0 + l.toNat) (r.toNat - l.toNat) (m.toNat - l.toNat))
        | false => False
      | .imm b sz n f => match Nat.beq ei.sz sz with
        | true => cutAt hi n fun r => match mx with
          | none => Ob (0 ≤ l ∧ l ≤ r ∧ r ≤ n) ∧ κ (.imm b sz (r.toNat - l.toNat) fun k => f (l.toNat + k))
          | some mv => cutAt (some mv) 0 fun m => Ob (0 ≤ l ∧ l = r ∧ r = m ∧ m ≤ n) ∧ κ .emp
        | false => False
      | .emp => cutAt hi 0 fun r => cutAt mx 0 fun m => Ob (l = 0 ∧ r = 0 ∧ m = 0) ∧ κ .emp
      | _ => False
    | none => False
  | some ⟨.str, _, _, _⟩ =>
    match x, mx with
    | .str s, none => cutAt hi s.length fun r => Ob (0 ≤ l ∧ l ≤ r ∧ r ≤ s.length) ∧ κ (.str ((s.drop l.toNat).take (r.toNat - l.toNat)))
    | _, _ => False
  | some ⟨.arr n e, _, _, _⟩ =>
    match getT tb e with
    | some ei =>
      match x with
      | .ref j p => match hget h j with
        | none => False
        | some c => okq c p (match sub c p with
          | .row sz' n' _ => match Nat.beq sz' ei.sz && Nat.beq n' n with
            | true => cutAt hi n fun r => cutAt mx n fun m => Ob (0 ≤ l ∧ l ≤ r ∧ r ≤ m ∧ m ≤ n) ∧ κ (.sl j p ei.sz l.toNat (r.toNat - l.toNat) (m.toNat - l.toNat))
            | false => False
          | _ => False)
      | .pim b (.row sz n' f) => match Nat.beq ei.sz sz && Nat.beq n' n with
        | true => cutAt hi n fun r => match mx with
          | none => Ob (0 ≤ l ∧ l ≤ r ∧ r ≤ n) ∧ κ (.imm b sz (r.toNat - l.toNat) fun k => f (l.toNat + k))
          | some _ => False
        | false => False
      | _ => False
    | none => False
  | _ => False

section
variable {P : Program} {tb : List (Option TI)} {E : Env}

theorem TypeOk.isAgg {t : Nat} {i : TI} (h : TypeOk P t i) : ∃ d, P.underlying t = some d ∧ d.isRow = i.d.isAgg := by
  have hT := h.td
  cases hd : i.d <;> rw [hd] at hT <;> simp only [tdOk] at hT <;> first | (split at hT <;> first | exact ⟨_, ‹_›, rfl⟩ | cases hT) | cases hT
theorem run_isAgg' {t : Nat} {d : TypeDesc} (hu : P.underlying t = some d) (w : World) : (Go.isAgg t).run P w = .ok d.isRow w := by
  unfold Go.isAgg
  rw [Sem.run_bind, run_underlying hu w]
  cases d <;> rfl

theorem load_core (ht : TabOk P tb) {t : Nat} {i : TI} (hg : getT tb t = some i) {v : V} (hf : fitB i v = true) {b o : Nat} (hr : R E v (cellsAt E.w b) o) :
    ∃ x, (loadVar t ⟨b, o, none⟩).run P E.w = .ok x E.w ∧ T E v x := by
  have hty := ht.get hg
  obtain ⟨d, hu, hd⟩ := hty.isAgg
  obtain ⟨f, z, hi, hsz, _⟩ := hty.info
  by_cases hagg : v.isAgg = true
  · have hs : i.d.isAgg = true ∧ i.sz = vsize v := by
      cases v <;> simp_all [fitB, V.isAgg]
    let cs := (List.range (vsize v)).map fun q => (cellsAt E.w b (o + q)).getD undef
    have hcs : ∀ q, q < vsize v → cs[q]? = cellsAt E.w b (o + q) := fun q hq => by
      obtain ⟨x, h1, _⟩ := R_one v _ o q hr hq
      simp [cs, hq, h1]
    refine ⟨.agg cs.toArray, ?_, ?_⟩
    · refine run_loadVar_mid E.w b o t cs d (fun j x hj => ?_) hu (hd.trans hs.1) (by simp [hi, hsz, hs.2, cs])
      have hlt : j < vsize v := by
        have := (List.getElem?_eq_some_iff.1 hj).1
        simpa [cs] using this
      rw [hcs j hlt] at hj
      exact hj
    · refine T_mkAgg hagg (by simp [cs]) (R_shift v _ _ o 0 (fun q hq => ?_) hr)
      simpa using hcs q hq
  · have hone : v.one = true ∧ i.d.isAgg = false := by
      cases v <;> simp_all [fitB, V.isAgg, V.one]
    have hz : vsize v = 1 := by cases v <;> simp_all [V.one, vsize]
    obtain ⟨x, h1, h2⟩ := R_one v _ o 0 hr (by omega)
    refine ⟨x, ?_, T_mk hone.1 h2 (R_shift v _ _ o 0 (fun q hq => by obtain rfl : q = 0 := by omega
                                                                     exact h1.symm) hr)⟩
    have hc : E.w.cell? ⟨b, o, none⟩ = some x := h1
    simp only [loadVar, Sem.run_bind, run_isAgg' hu, hd, hone.2, Result.andThen_ok, Bool.false_eq_true, if_false, run_load, hc]

theorem loadD_ok (ht : TabOk P tb) (hw : Wf E) {h : List (Option V)} (hs : SimH E h) {t : Nat} {x : V} {X : Value} {κ : V → Prop} (hl : loadD tb t x h κ) (hx : T E x X) : ResP E κ ((Instr.loadAt t X).run P E.w) := by
  unfold loadD at hl
  split at hl
  · exact hl.elim
  · rename_i i hg
    split at hl
    · rename_i j p
      split at hl
      · rename_i c hc
        obtain ⟨hp, hk⟩ := okq_okp p c _ hl
        split at hk
        · rename_i hfit
          obtain ⟨_, rfl⟩ := T_ref.1 hx
          rcases hs.live j c ((hget_eq h j c).1 hc) with ⟨_, sz, f, rfl⟩ | ⟨_, _, cs, t', hb, _, hr⟩
          · cases p with
            | nil =>
              have hr : R E (.row sz 0 f) (cellsAt E.w (E.ρ j)) 0 := by simp [R]
              obtain ⟨x, h1, h2⟩ := load_core ht hg (v := .row sz 0 f) hfit hr
              exact ⟨x, _, h1, h2, hk⟩
            | cons s p =>
              rcases okp_cases hp with ⟨l, k, off, he, _⟩ | ⟨sz', n, f', k, he, _, hkn, _⟩
              · cases he
              · cases he; omega
          · have hr' : R E c (cellsAt E.w (E.ρ j)) 0 := by
              have : cellsAt E.w (E.ρ j) = fun q => cs[q]? := by funext q; simp [cellsAt, World.cell?, hb]
              rw [this]; exact hr
            have h1 := R_sub p c _ 0 hp hr'
            rw [Nat.zero_add] at h1
            obtain ⟨x, h2, h3⟩ := load_core ht hg hfit h1
            exact ⟨x, _, h2, h3, hk⟩
        · exact hk.elim
      · exact hl.elim
    · rename_i j p sz lo n
      split at hl
      · rename_i c hc
        split at hl
        · rename_i sz' m f hsub
          obtain ⟨hp, hle, hk⟩ := okq_okp p c _ hl
          split at hk
          · rename_i hfit
            simp only [Bool.and_eq_true, Nat.beq_eq] at hfit
            obtain ⟨rfl, hfit⟩ := hfit
            obtain ⟨_, rfl⟩ := T_rref.1 hx
            have hle := hle.out
            rcases hs.live j c ((hget_eq h j c).1 hc) with ⟨_, sz', f', rfl⟩ | ⟨_, _, cs, t', hb, _, hr⟩
            · cases p with
              | nil =>
                simp only [sub, V.row.injEq] at hsub
                obtain ⟨rfl, rfl, rfl⟩ := hsub
                have hn : n = 0 := by omega
                subst hn
                have hr : R E (.row sz' 0 fun k => f' (lo + k)) (cellsAt E.w (E.ρ j)) (poff [] + lo * sz') := by simp [R]
                obtain ⟨x, h1, h2⟩ := load_core ht hg hfit hr
                exact ⟨x, _, h1, h2, hk⟩
              | cons s p =>
                rcases okp_cases hp with ⟨l, k, off, he, _⟩ | ⟨sz', n, f', k, he, _, hkn, _⟩
                · cases he
                · cases he; omega
            · have hr' : R E c (cellsAt E.w (E.ρ j)) 0 := by
                have : cellsAt E.w (E.ρ j) = fun q => cs[q]? := by funext q; simp [cellsAt, World.cell?, hb]
                rw [this]; exact hr
              have h1 := R_sub p c _ 0 hp hr'
              rw [Nat.zero_add, hsub] at h1
              have h2 : R E (.row sz n fun k => f (lo + k)) (cellsAt E.w (E.ρ j)) (poff p + lo * sz) := by
                simp only [R] at h1 ⊢
                intro k hk'
                have := h1 (lo + k) (by omega)
                refine ⟨this.1, ?_⟩
                have h3 := this.2
                rw [Nat.add_mul, ← Nat.add_assoc] at h3
                exact h3
              obtain ⟨x, h2, h3⟩ := load_core ht hg hfit h2
              exact ⟨x, _, h2, h3, hk⟩
          · exact hk.elim
        · exact hl.elim
      · exact hl.elim
    · rename_i lent v
      split at hl
      · rename_i hfit
        obtain ⟨b, off, rfl, _, hr⟩ := T_pim.1 hx
        obtain ⟨x, h1, h2⟩ := load_core ht hg hfit (R_bare hw hr)
        exact ⟨x, _, h1, h2, hl⟩
      · exact hl.elim
    · exact hl.elim
end
end Go.DD
