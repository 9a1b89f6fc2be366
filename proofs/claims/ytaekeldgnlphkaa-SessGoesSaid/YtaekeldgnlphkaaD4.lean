/- Types, and the operations that touch no memory. -/
import Derived.Test.YtaekeldgnlphkaaD3
import GoSem.Dispatch
namespace Go.DD
set_option linter.unusedVariables false
open Go.RowKit

/-! ### What a slot holds, scalar by scalar -/
def V.one : V → Bool | .row .. | .st .. | .tup .. | .any => false | _ => true
theorem cells_one {x : Value} (h : x.oneCell' = true) : x.cells = #[x] := by cases x <;> simp_all [Value.cells, Value.oneCell']
theorem T_one {E : Env} {v : V} {x : Value} (h : v.one = true) (ht : T E v x) : x.oneCell' = true ∧ R E v (fun _ => some x) 0 := by
  have hz : vsize v = 1 := by cases v <;> simp_all [V.one, vsize]
  have ha : v.isAgg = false := by cases v <;> simp_all [V.one, V.isAgg]
  have h' : aggOk v x ∧ R E v (fun q => x.cells[q]?) 0 := by cases v <;> first | exact ht | simp [V.one] at h
  have h1 : x.oneCell' = true := by
    rcases h'.1 with h2 | h2
    · rw [ha] at h2; cases h2.1
    · exact h2.2
  refine ⟨h1, R_shift v _ _ 0 0 (fun q hq => ?_) h'.2⟩
  rw [hz] at hq
  obtain rfl : q = 0 := by omega
  simp [cells_one h1]
theorem T_mk {E : Env} {v : V} {x : Value} (h : v.one = true) (h1 : x.oneCell' = true) (hr : R E v (fun _ => some x) 0) : T E v x := by
  have hz : vsize v = 1 := by cases v <;> simp_all [V.one, vsize]
  have ha : v.isAgg = false := by cases v <;> simp_all [V.one, V.isAgg]
  have h' : aggOk v x ∧ R E v (fun q => x.cells[q]?) 0 := ⟨.inr ⟨ha, h1⟩, R_shift v _ _ 0 0 (fun q hq => by
    rw [hz] at hq
    obtain rfl : q = 0 := by omega
    simp [cells_one h1]) hr⟩
  cases v <;> first | exact h' | simp [V.one] at h
theorem T_agg {E : Env} {v : V} {x : Value} (h : v.isAgg = true) (ht : T E v x) : ∃ cs, x = .agg cs ∧ cs.size = vsize v ∧ R E v (fun q => cs[q]?) 0 := by
  have h' : aggOk v x ∧ R E v (fun q => x.cells[q]?) 0 := by cases v <;> first | exact ht | simp [V.isAgg] at h
  rcases h'.1 with ⟨_, ⟨cs, rfl⟩, h3⟩ | ⟨h2, _⟩
  · exact ⟨cs, rfl, h3, h'.2⟩
  · rw [h] at h2; cases h2
theorem T_mkAgg {E : Env} {v : V} {cs : Array Value} (h : v.isAgg = true) (hz : cs.size = vsize v) (hr : R E v (fun q => cs[q]?) 0) : T E v (.agg cs) := by
  have h' : aggOk v (.agg cs) ∧ R E v (fun q => (Value.agg cs).cells[q]?) 0 := ⟨.inl ⟨h, ⟨cs, rfl⟩, hz⟩, hr⟩
  cases v <;> first | exact h' | simp [V.isAgg] at h

section
variable {E : Env} {x : Value}
theorem T_int {k : IntKind} {n : Int} : T E (.int k n) x ↔ x = .int k n :=
  ⟨fun h => by have := (T_one rfl h).2; simpa [R] using this, fun h => by subst h; exact T_mk rfl rfl (by simp [R])⟩
theorem T_tt : T E .tt x ↔ x = .bool true := ⟨fun h => by have := (T_one rfl h).2; simpa [R] using this, fun h => by subst h; exact T_mk rfl rfl (by simp [R])⟩
theorem T_ff : T E .ff x ↔ x = .bool false := ⟨fun h => by have := (T_one rfl h).2; simpa [R] using this, fun h => by subst h; exact T_mk rfl rfl (by simp [R])⟩
theorem T_bool {b : Bool} : T E (.bool b) x ↔ x = .bool b := ⟨fun h => by have := (T_one rfl h).2; simpa [R] using this, fun h => by subst h; exact T_mk rfl rfl (by simp [R])⟩
theorem T_str {s : List UInt8} : T E (.str s) x ↔ x = .string ⟨s.toArray⟩ := ⟨fun h => by have := (T_one rfl h).2; simpa [R] using this, fun h => by subst h; exact T_mk rfl rfl (by simp [R])⟩
theorem T_nilp : T E .nilp x ↔ x = .pointer none := ⟨fun h => by have := (T_one rfl h).2; simpa [R] using this, fun h => by subst h; exact T_mk rfl rfl (by simp [R])⟩
theorem T_nilf : T E .nilf x ↔ x = .nilFunc := ⟨fun h => by have := (T_one rfl h).2; simpa [R] using this, fun h => by subst h; exact T_mk rfl rfl (by simp [R])⟩
theorem T_nili : T E .nili x ↔ x = .nilIface := ⟨fun h => by have := (T_one rfl h).2; simpa [R] using this, fun h => by subst h; exact T_mk rfl rfl (by simp [R])⟩
theorem T_ref {i : Nat} {p : List Step} : T E (.ref i p) x ↔ i < E.N ∧ x = .pointer (some ⟨E.ρ i, poff p, none⟩) :=
  ⟨fun h => by have := (T_one rfl h).2; simpa [R] using this, fun ⟨h, h2⟩ => by subst h2; exact T_mk rfl rfl (by simpa [R] using h)⟩
theorem T_rref {i : Nat} {p : List Step} {sz lo n : Nat} : T E (.rref i p sz lo n) x ↔ i < E.N ∧ x = .pointer (some ⟨E.ρ i, poff p + lo * sz, none⟩) :=
  ⟨fun h => by have := (T_one rfl h).2; simpa [R] using this, fun ⟨h, h2⟩ => by subst h2; exact T_mk rfl rfl (by simpa [R] using h)⟩
theorem T_pim {l : Bool} {v : V} : T E (.pim l v) x ↔ ∃ b off, x = .pointer (some ⟨b, off, none⟩) ∧ E.foot l b ∧ R E.bare v (cellsAt E.w b) off :=
  ⟨fun h => by have := (T_one rfl h).2; simpa only [R, Option.some.injEq] using this, fun ⟨b, off, h, h2⟩ => by subst h; exact T_mk rfl rfl (by simp only [R, Option.some.injEq]; exact ⟨b, off, rfl, h2⟩)⟩
theorem T_emp : T E .emp x ↔ ∃ a, x = .slice a 0 0 :=
  ⟨fun h => by have := (T_one rfl h).2; simpa only [R, Option.some.injEq] using this, fun ⟨a, h⟩ => by subst h; exact T_mk rfl rfl (by simp only [R]; exact ⟨a, rfl⟩)⟩
theorem T_sl {i : Nat} {p : List Step} {sz lo len cap : Nat} : T E (.sl i p sz lo len cap) x ↔ i < E.N ∧ ∃ a cp, x = .slice a len cp ∧ len ≤ cap ∧ cap ≤ cp ∧
      (cp = 0 ∨ (E.vt i = false ∧ a = some ⟨E.ρ i, poff p + lo * sz, none⟩ ∧ ∃ cs t fr, E.w.heap[E.ρ i]? = some (.cells cs t fr) ∧ poff p + (lo + cp) * sz ≤ cs.size)) :=
  ⟨fun h => by have := (T_one rfl h).2; simpa only [R, Option.some.injEq] using this, fun ⟨h0, a, cp, h, h2⟩ => by subst h; exact T_mk rfl rfl (by simp only [R, Option.some.injEq]; exact ⟨h0, a, cp, rfl, h2⟩)⟩
theorem T_imm {l : Bool} {sz n : Nat} {f : Nat → V} : T E (.imm l sz n f) x ↔ ∃ a cp, x = .slice a n cp ∧ n ≤ cp ∧
      (n = 0 ∨ ∃ b off, a = some ⟨b, off, none⟩ ∧ E.foot l b ∧ ∀ k, k < n → vsize (f k) = sz ∧ R E.bare (f k) (cellsAt E.w b) (off + k * sz)) :=
  ⟨fun h => by have := (T_one rfl h).2; simpa only [R, Option.some.injEq] using this, fun ⟨a, cp, h, h2⟩ => by subst h; exact T_mk rfl rfl (by simp only [R, Option.some.injEq]; exact ⟨a, cp, rfl, h2⟩)⟩
theorem T_fn {f : FuncId} {caps : Vs} : T E (.fn f caps) x ↔ ∃ xs, x = .func (.func f) #[] xs ∧ xs.size = vsizes caps ∧ caps.flat = true ∧ RL E caps (fun k => xs[k]?) 0 :=
  ⟨fun h => by have := (T_one rfl h).2; simpa only [R, Option.some.injEq] using this, fun ⟨xs, h, h2⟩ => by subst h; exact T_mk rfl rfl (by simp only [R, Option.some.injEq]; exact ⟨xs, rfl, h2⟩)⟩
theorem T_iface {t : TypeId} {v : V} : T E (.iface t v) x ↔ ∃ y, x = .iface t y ∧ aggOk v y ∧ R E v (fun k => y.cells[k]?) 0 :=
  ⟨fun h => by have := (T_one rfl h).2; simpa only [R, Option.some.injEq] using this, fun ⟨xs, h, h2⟩ => by subst h; exact T_mk rfl rfl (by simp only [R, Option.some.injEq]; exact ⟨xs, rfl, h2⟩)⟩
end

/-! ### Types -/
inductive TD where
  | int (k : IntKind) | bool | str | ptr (e : Nat) | slice (e : Nat) | arr (n e : Nat) | st (fs : List (Nat × Nat)) | fn | iface | other
  deriving DecidableEq
structure TI where
  d : TD
  sz : Nat
  by_ : Nat
  z : V

def TD.isAgg : TD → Bool | .arr .. | .st _ => true | _ => false
def getT : List (Option TI) → Nat → Option TI | [], _ => none | x :: _, 0 => x | _ :: l, k + 1 => getT l k

mutual
def zchk : V → (Nat → Option Value) → Nat → Bool
  | .int k n, c, o => match c o with | some (.int k' n') => k == k' && n == n' | _ => false
  | .ff, c, o => match c o with | some (.bool b) => !b | _ => false
  | .str s, c, o => match c o with | some (.string t) => t.data.toList == s | _ => false
  | .nilp, c, o => match c o with | some (.pointer none) => true | _ => false
  | .emp, c, o => match c o with | some (.slice _ 0 0) => true | _ => false
  | .nilf, c, o => match c o with | some .nilFunc => true | _ => false
  | .nili, c, o => match c o with | some .nilIface => true | _ => false
  | .row sz n f, c, o => (List.range n).all fun k => vsize (f k) == sz && zchk (f k) c (o + k * sz)
  | .st l, c, o => zchkL l c o
  | _, _, _ => false
def zchkL : Vs → (Nat → Option Value) → Nat → Bool
  | .nil, _, _ => true
  | .cons v l, c, o => zchk v c o && zchkL l c (o + vsize v)
end
mutual
theorem zchk_ok {E : Env} : ∀ (v : V) (c : Nat → Option Value) (o : Nat), zchk v c o = true → R E v c o
  | .int k n, c, o, h => by
    simp only [zchk] at h; split at h
    · rename_i k' n' hc; simp at h; simp only [R]; rw [hc, h.1, h.2]
    · cases h
  | .ff, c, o, h => by
    simp only [zchk] at h; split at h
    · rename_i b hc; simp at h; simp only [R]; rw [hc, h]
    · cases h
  | .str s, c, o, h => by
    simp only [zchk] at h; split at h
    · rename_i t hc
      simp only [beq_iff_eq] at h
      simp only [R]; rw [hc, ← h]
    · cases h
  | .nilp, c, o, h => by
    simp only [zchk] at h; split at h
    · rename_i hc; simp only [R]; rw [hc]
    · cases h
  | .emp, c, o, h => by
    simp only [zchk] at h; split at h
    · rename_i a hc; simp only [R]; exact ⟨_, hc⟩
    · cases h
  | .nilf, c, o, h => by
    simp only [zchk] at h; split at h
    · rename_i hc; simp only [R]; rw [hc]
    · cases h
  | .nili, c, o, h => by
    simp only [zchk] at h; split at h
    · rename_i hc; simp only [R]; rw [hc]
    · cases h
  | .row sz n f, c, o, h => by
    simp only [zchk, List.all_eq_true, List.mem_range, Bool.and_eq_true, beq_iff_eq] at h
    simp only [R]
    exact fun k hk => ⟨(h k hk).1, zchk_ok (f k) c _ (h k hk).2⟩
  | .st l, c, o, h => by
    simp only [zchk] at h
    simp only [R]
    exact zchkL_ok l c o h
  | .tt, _, _, h | .bool _, _, _, h | .ref .., _, _, h | .rref .., _, _, h | .pim .., _, _, h | .sl .., _, _, h | .imm .., _, _, h | .fn .., _, _, h | .iface .., _, _, h | .tup _, _, _, h | .any, _, _, h => by simp [zchk] at h
theorem zchkL_ok {E : Env} : ∀ (l : Vs) (c : Nat → Option Value) (o : Nat), zchkL l c o = true → RL E l c o
  | .nil, _, _, _ => by simp only [RL]
  | .cons v l, c, o, h => by
    simp only [zchkL, Bool.and_eq_true] at h
    simp only [RL]
    exact ⟨zchk_ok v c o h.1, zchkL_ok l c _ h.2⟩
end

def tdOk (P : Program) (t : Nat) : TD → Bool
  | .int k => match P.underlying t with | some (.int k') => k == k' | _ => false
  | .bool => match P.underlying t with | some .bool => true | _ => false
  | .str => match P.underlying t with | some .string => true | _ => false
  | .ptr e => match P.underlying t with | some (.pointer e') => e == e' | _ => false
  | .slice e => match P.underlying t with | some (.slice e') => e == e' | _ => false
  | .arr n e => match P.underlying t with | some (.array n' e') => n == n' && e == e' | _ => false
  | .st fs => match P.underlying t with | some (.struct gs) => gs.toList.map (fun f => (f.offset, f.type)) == fs && gs.toList.all (fun f => (P.info? f.type).isSome) | _ => false
  | .fn => match P.underlying t with | some (.func ..) => true | _ => false
  | .iface => match P.underlying t with | some (.interface _) => true | _ => false
  | .other => false
/-- What an entry of the table says is so. -/
def tiOk (P : Program) (t : Nat) (i : TI) : Bool :=
  tdOk P t i.d && match P.info? t with
    | some f => f.size == i.sz && f.bytes == i.by_ && (match f.zero with
      | some z => (match z with | .agg cs => i.d.isAgg && cs.size == i.sz | z => !i.d.isAgg && z.oneCell' && i.sz == 1) && zchk i.z (fun k => z.cells[k]?) 0 && i.z.isAgg == i.d.isAgg && i.z.one == !i.d.isAgg && vsize i.z == i.sz
      | none => false)
    | none => false
def tabOk (P : Program) : List (Option TI) → Nat → Bool
  | [], _ => true
  | none :: l, t => tabOk P l (t + 1)
  | some i :: l, t => tiOk P t i && tabOk P l (t + 1)
def TabOk (P : Program) (tb : List (Option TI)) : Prop := tabOk P tb 0 = true
theorem tabOk_get {P : Program} : ∀ {tb : List (Option TI)} {s t : Nat} {i : TI}, tabOk P tb s = true → getT tb t = some i → tiOk P (s + t) i = true
  | [], _, _, _, _, h => by simp [getT] at h
  | none :: l, s, 0, i, _, h => by simp [getT] at h
  | some j :: l, s, 0, i, hok, h => by
    simp only [getT, Option.some.injEq] at h
    subst h
    simp only [tabOk, Bool.and_eq_true] at hok
    exact hok.1
  | none :: l, s, t + 1, i, hok, h => by
    simp only [getT] at h
    have := tabOk_get (s := s + 1) (by simpa only [tabOk] using hok) h
    rwa [Nat.add_assoc, Nat.add_comm 1 t] at this
  | some j :: l, s, t + 1, i, hok, h => by
    simp only [getT] at h
    simp only [tabOk, Bool.and_eq_true] at hok
    have := tabOk_get (s := s + 1) hok.2 h
    rwa [Nat.add_assoc, Nat.add_comm 1 t] at this

structure TypeOk (P : Program) (t : Nat) (i : TI) : Prop where
  td : tdOk P t i.d = true
  info : ∃ f z, P.info? t = some f ∧ f.size = i.sz ∧ f.bytes = i.by_ ∧ f.zero = some z ∧ (∀ E, T E i.z z) ∧ z.cells.size = i.sz
  agg : i.z.isAgg = i.d.isAgg
  one : i.z.one = !i.d.isAgg
  size : vsize i.z = i.sz
theorem TabOk.get {P : Program} {tb : List (Option TI)} (h : TabOk P tb) {t : Nat} {i : TI} (hg : getT tb t = some i) : TypeOk P t i := by
  have h1 := tabOk_get (s := 0) h hg
  rw [Nat.zero_add] at h1
  simp only [tiOk, Bool.and_eq_true] at h1
  obtain ⟨h2, h3⟩ := h1
  split at h3
  · rename_i f hf
    simp only [Bool.and_eq_true, beq_iff_eq] at h3
    obtain ⟨⟨h4, h5⟩, h6⟩ := h3
    split at h6
    · rename_i z hz
      simp only [Bool.and_eq_true, beq_iff_eq] at h6
      obtain ⟨⟨⟨⟨h7, h8⟩, h9⟩, h10⟩, h11⟩ := h6
      have hr : ∀ E, R E i.z (fun k => z.cells[k]?) 0 := fun E => zchk_ok _ _ _ h8
      have hag : ∀ E, T E i.z z ∧ z.cells.size = i.sz := fun E => by
        cases z with
        | agg cs =>
          simp only [Bool.and_eq_true, beq_iff_eq] at h7
          exact ⟨T_mkAgg (h9.trans h7.1) (h7.2.trans h11.symm) (hr E), h7.2⟩
        | _ =>
          simp only [Bool.and_eq_true, Bool.not_eq_true', beq_iff_eq] at h7
          first
            | (simp [Value.oneCell'] at h7; done)
            | exact ⟨T_mk (by rw [h10, h7.1.1]; rfl) h7.1.2 (R_shift _ _ _ 0 0 (fun q hq => by
                rw [h11, h7.2] at hq
                obtain rfl : q = 0 := by omega
                simp [Value.cells]) (hr E)), by simp [Value.cells, h7.2]⟩
      exact ⟨h2, ⟨f, z, hf, h4, h5, hz, fun E => (hag E).1, (hag ⟨default, fun _ => 0, fun _ => false, 0, fun _ => False, fun _ => False, fun _ => False⟩).2⟩, h9, h10, h11⟩
    · cases h6
  · cases h3
end Go.DD
