/- Lengths, parts of values, conversions of numbers; picking. -/
import Derived.Test.YtaekeldgnlphkaaD10
import Derived.Lib.MinMax
import Derived.Laws.Cover3
namespace Go.DD
set_option linter.unusedVariables false
open Go.RowKit

def lenD (tb : List (Option TI)) (t : Nat) (x : V) (κ : V → Prop) : Prop :=
  match getT tb t with
  | some ⟨.slice _, _, _, _⟩ =>
    match x with
    | .sl _ _ _ _ n _ => κ (.int .i64 n)
    | .imm _ _ n _ => κ (.int .i64 n)
    | .emp => κ (.int .i64 0)
    | _ => False
  | some ⟨.str, _, _, _⟩ => match x with | .str s => κ (.int .i64 s.length) | _ => False
  | some ⟨.arr n _, _, _, _⟩ => κ (.int .i64 n)
  | some ⟨.ptr a, _, _, _⟩ => match getT tb a with | some ⟨.arr n _, _, _, _⟩ => κ (.int .i64 n) | _ => False
  | _ => False
def capD (tb : List (Option TI)) (t : Nat) (x : V) (κ : V → Prop) : Prop :=
  match getT tb t with
  | some ⟨.slice _, _, _, _⟩ =>
    match x with
    | .sl _ _ _ _ _ cap => ∀ c : Nat, cap ≤ c → κ (.int .i64 c)
    | .imm _ _ n _ => ∀ c : Nat, n ≤ c → κ (.int .i64 c)
    | .emp => κ (.int .i64 0)
    | _ => False
  | _ => False
def minmaxD (mx : Bool) (l : List V) (κ : V → Prop) : Prop :=
  match l with
  | [.int k a, .int _ b] => (match mx with | true => κ (.int k (max a b)) | false => κ (.int k (min a b)))
  | _ => False
def extractD (x : V) (k : Nat) (κ : V → Prop) : Prop :=
  match x with
  | .tup l => match Nat.blt k l.len with | true => κ (l.get k) | false => False
  | _ => False
def nilCheckD (x : V) (κ : V → Prop) : Prop :=
  match x with
  | .ref .. | .rref .. | .pim .. | .fn .. | .iface .. => κ x
  | _ => False
def pickD (c a b : V) (κ : V → Prop) : Prop :=
  match c with
  | .tt => κ a
  | .ff => κ b
  | .bool c => (c = true → κ a) ∧ (c = false → κ b)
  | _ => False
def convNum (tb : List (Option TI)) (s d : Nat) (x : V) (κ : V → Prop) : Prop :=
  match getT tb s, getT tb d with
  | some _, some ⟨.int k, _, _, _⟩ => match x with | .int _ n => κ (.int k (k.wrap n)) | _ => False
  | some _, some ⟨.str, _, _, _⟩ => match x with | .str s => κ (.str s) | _ => False
  | _, _ => False
def fieldD (tb : List (Option TI)) (s : Nat) (x : V) (k : Nat) (κ : V → Prop) : Prop :=
  match getT tb s with
  | some ⟨.st fs, _, _, _⟩ =>
    match fs[k]? with
    | some (off, ft) =>
      match getT tb ft with
      | some fi =>
        match x with
        | .st vs => match Nat.blt k vs.len && Nat.beq (presz vs k) off && fitB fi (vs.get k) with | true => κ (vs.get k) | false => False
        | _ => False
      | none => False
    | none => False
  | _ => False
def indexD (tb : List (Option TI)) (t : Nat) (x ix : V) (κ : V → Prop) : Prop :=
  match ix with
  | .int _ n =>
    match getT tb t with
    | some ⟨.arr m e, _, _, _⟩ =>
      match getT tb e with
      | some ei =>
        match x with
        | .row sz m' f => match Nat.beq ei.sz sz && Nat.beq m' m with | true => Ob (0 ≤ n ∧ n < m) ∧ (match fitB ei (f n.toNat) with | true => κ (f n.toNat) | false => False) | false => False
        | _ => False
      | none => False
    | some ⟨.str, _, _, _⟩ => match x with | .str s => Ob (0 ≤ n ∧ n < s.length) ∧ κ (.int .u8 ((s.getD n.toNat 0).toNat)) | _ => False
    | _ => False
  | _ => False
def arrayAtD (tb : List (Option TI)) (t : Nat) (x : V) (κ : V → Prop) : Prop :=
  match getT tb t with
  | some ⟨.arr m e, _, _, _⟩ =>
    match getT tb e with
    | some ei =>
      match x with
      | .sl j p sz lo len _ => match Nat.beq ei.sz sz && !Nat.beq m 0 with | true => Ob (m ≤ len) ∧ κ (.rref j p sz lo m) | false => False
      | .imm b sz n f => match Nat.beq ei.sz sz && !Nat.beq m 0 with | true => Ob (m ≤ n) ∧ κ (.pim b (.row sz m f)) | false => False
      | _ => False
    | none => False
  | _ => False
def makeInterfaceD (tb : List (Option TI)) (t : Nat) (x : V) (κ : V → Prop) : Prop :=
  match getT tb t with
  | some ⟨.iface, _, _, _⟩ => False
  | some ⟨.other, _, _, _⟩ => False
  | some i => match fitB i x with | true => κ (.iface t x) | false => False
  | none => False

section
variable {P : Program} {t : Nat}
theorem TypeOk.int {k : IntKind} {a b : Nat} {z : V} (h : TypeOk P t ⟨.int k, a, b, z⟩) : P.underlying t = some (.int k) := by
  have := h.td
  simp only [tdOk] at this
  split at this
  · rename_i k' hu; rw [hu, eq_of_beq this]
  · cases this
theorem TypeOk.str {a b : Nat} {z : V} (h : TypeOk P t ⟨.str, a, b, z⟩) : P.underlying t = some .string := by
  have := h.td
  simp only [tdOk] at this
  split at this
  · assumption
  · cases this
theorem TypeOk.ptr {e a b : Nat} {z : V} (h : TypeOk P t ⟨.ptr e, a, b, z⟩) : P.underlying t = some (.pointer e) := by
  have := h.td
  simp only [tdOk] at this
  split at this
  · rename_i k' hu; rw [hu, eq_of_beq this]
  · cases this
theorem TypeOk.slice {e a b : Nat} {z : V} (h : TypeOk P t ⟨.slice e, a, b, z⟩) : P.underlying t = some (.slice e) := by
  have := h.td
  simp only [tdOk] at this
  split at this
  · rename_i k' hu; rw [hu, eq_of_beq this]
  · cases this
theorem TypeOk.arr {n e a b : Nat} {z : V} (h : TypeOk P t ⟨.arr n e, a, b, z⟩) : P.underlying t = some (.array n e) := by
  have := h.td
  simp only [tdOk] at this
  split at this
  · rename_i n' e' hu
    simp only [Bool.and_eq_true, beq_iff_eq] at this
    rw [hu, this.1, this.2]
  · cases this
theorem TypeOk.st {fs : List (Nat × Nat)} {a b : Nat} {z : V} (h : TypeOk P t ⟨.st fs, a, b, z⟩) : ∃ gs, P.underlying t = some (.struct gs) ∧ gs.toList.map (fun f => (f.offset, f.type)) = fs ∧ ∀ f ∈ gs.toList, (P.info? f.type).isSome = true := by
  have := h.td
  simp only [tdOk] at this
  split at this
  · rename_i gs hu
    simp only [Bool.and_eq_true, beq_iff_eq, List.all_eq_true] at this
    exact ⟨gs, hu, this.1, this.2⟩
  · cases this
end

section
variable {P : Program} {tb : List (Option TI)} {E : Env}

theorem lenD_ok (ht : TabOk P tb) {t ty : Nat} {x : V} {X : Value} {κ : V → Prop} (hl : lenD tb t x κ) (hx : T E x X) : ResP E κ ((Builtin.len_ #[t] ty #[X]).run P E.w) := by
  unfold lenD at hl
  split at hl
  · rename_i e _ _ _ hg
    have hu := (ht.get hg).slice
    have key : ∀ A n c, (Builtin.len_ #[t] ty #[.slice A n c]).run P E.w = .ok (.int .i64 n) E.w := fun A n c => by simp [Builtin.len_, run_underlying hu, goInt]
    split at hl
    · obtain ⟨_, a, cp, rfl, _⟩ := T_sl.1 hx
      exact .mk _ _ (key _ _ _) (T_int.2 rfl) hl
    · obtain ⟨a, cp, rfl, _⟩ := T_imm.1 hx
      exact .mk _ _ (key _ _ _) (T_int.2 rfl) hl
    · obtain ⟨a, rfl⟩ := T_emp.1 hx
      exact .mk _ _ (key _ _ _) (T_int.2 rfl) hl
    · exact hl.elim
  · rename_i _ _ _ hg
    have hu := (ht.get hg).str
    split at hl
    · rename_i s
      rw [T_str] at hx
      subst hx
      refine .mk _ _ ?_ (T_int.2 rfl) hl
      have hsz : (⟨s.toArray⟩ : ByteArray).size = s.length := rfl
      generalize (⟨s.toArray⟩ : ByteArray) = b at hsz
      simp [Builtin.len_, run_underlying hu, goInt, hsz]
    · exact hl.elim
  · rename_i n e _ _ _ hg
    have hu := (ht.get hg).arr
    refine .mk _ _ ?_ (T_int.2 rfl) hl
    simp [Builtin.len_, run_underlying hu, goInt]
  · rename_i a _ _ _ hg
    have hu := (ht.get hg).ptr
    split at hl
    · rename_i n e _ _ _ hg'
      have hu' := (ht.get hg').arr
      refine .mk _ _ ?_ (T_int.2 rfl) hl
      simp [Builtin.len_, run_underlying hu, run_underlying hu', goInt]
    · exact hl.elim
  · exact hl.elim

theorem capD_ok (ht : TabOk P tb) {t ty : Nat} {x : V} {X : Value} {κ : V → Prop} (hl : capD tb t x κ) (hx : T E x X) : ResP E κ ((Builtin.cap_ #[t] ty #[X]).run P E.w) := by
  unfold capD at hl
  split at hl
  · rename_i e _ _ _ hg
    have hu := (ht.get hg).slice
    have key : ∀ A n c, (Builtin.cap_ #[t] ty #[.slice A n c]).run P E.w = .ok (.int .i64 c) E.w := fun A n c => by simp [Builtin.cap_, run_underlying hu, goInt]
    split at hl
    · obtain ⟨_, a, cp, rfl, _, h, _⟩ := T_sl.1 hx
      exact .mk _ _ (key _ _ _) (T_int.2 rfl) (hl _ h)
    · obtain ⟨a, cp, rfl, h, _⟩ := T_imm.1 hx
      exact .mk _ _ (key _ _ _) (T_int.2 rfl) (hl _ h)
    · obtain ⟨a, rfl⟩ := T_emp.1 hx
      exact .mk _ _ (key _ _ _) (T_int.2 rfl) hl
    · exact hl.elim
  · exact hl.elim

theorem minmaxD_ok {mx : Bool} {ts : Array TypeId} {ty : Nat} {x y : V} {X Y : Value} {κ : V → Prop} (hl : minmaxD mx [x, y] κ) (hx : T E x X) (hy : T E y Y) :
    ResP E κ (match mx with | true => (Builtin.max_ ts ty #[X, Y]).run P E.w | false => (Builtin.min_ ts ty #[X, Y]).run P E.w) := by
  unfold minmaxD at hl
  split at hl
  · rename_i k a k' b he
    simp only [List.cons.injEq, and_true] at he
    obtain ⟨rfl, rfl⟩ := he
    rw [T_int] at hx hy
    subst hx; subst hy
    cases mx
    · exact .mk _ _ (Lib.run_min_ints _ _ _ _ _ _ _) (T_int.2 rfl) hl
    · exact .mk _ _ (Lib.run_max_ints _ _ _ _ _ _ _) (T_int.2 rfl) hl
  · exact hl.elim

theorem extractD_ok {x : V} {X : Value} {k : Nat} {κ : V → Prop} (hl : extractD x k κ) (hx : T E x X) : ResP E κ ((Instr.extract X k).run P E.w) := by
  unfold extractD at hl
  split at hl
  · rename_i l
    split at hl
    · rename_i hlt
      obtain ⟨xs, rfl, hs, h⟩ := hx
      simp only [Nat.blt_eq] at hlt
      obtain ⟨y, hy⟩ : ∃ y, xs[k]? = some y := ⟨_, Array.getElem?_eq_getElem (by omega)⟩
      refine .mk y (l.get k) (by simp [Instr.extract, hy]) ?_ hl
      have := h k y hy
      generalize l.get k = u at this ⊢
      cases u <;> first | trivial | exact this.2 | simp [V.isTup] at this
    · exact hl.elim
  · exact hl.elim

theorem nilCheckD_ok {o : Oper} {a : Act} {xo : Operand} (ho : o.op = .nilCheck xo) {x : V} {κ : V → Prop} (hl : nilCheckD x κ) (hx : T E x (a.eval xo)) :
    (execOp a.eval o).run P E.w = .ok (.value (a.eval xo)) E.w ∧ κ x := by
  have key : ∀ X, X = a.eval xo → (match X with | .pointer none | .nilIface | .nilFunc => False | .func (.method _) _ _ => False | _ => True) → (execOp a.eval o).run P E.w = .ok (.value (a.eval xo)) E.w := by
    intro X hX hm
    unfold execOp
    rw [ho]
    simp only [← hX]
    cases X with
    | pointer A => cases A <;> first | exact hm.elim | rfl
    | func f x y => cases f <;> first | exact hm.elim | rfl
    | _ => first | exact hm.elim | rfl
  unfold nilCheckD at hl
  split at hl
  · exact ⟨key _ (T_ref.1 hx).2.symm trivial, hl⟩
  · exact ⟨key _ (T_rref.1 hx).2.symm trivial, hl⟩
  · obtain ⟨b, off, h, _⟩ := T_pim.1 hx
    exact ⟨key _ h.symm trivial, hl⟩
  · obtain ⟨xs, h, _⟩ := T_fn.1 hx
    exact ⟨key _ h.symm trivial, hl⟩
  · obtain ⟨y, h, _⟩ := T_iface.1 hx
    exact ⟨key _ h.symm trivial, hl⟩
  · exact hl.elim

theorem convNum_ok (ht : TabOk P tb) {s d : Nat} {x : V} {X : Value} {κ : V → Prop} (hl : convNum tb s d x κ) (hx : T E x X) : ResP E κ ((convert s d X).run P E.w) := by
  unfold convNum at hl
  split at hl
  · rename_i i k _ _ _ hg hg'
    obtain ⟨e, hu, _⟩ := (ht.get hg).isAgg
    have hu' := (ht.get hg').int
    split at hl
    · rw [T_int] at hx
      subst hx
      refine .mk _ _ ?_ (T_int.2 rfl) hl
      simp [convert, run_underlying hu, run_underlying hu', Conv.intToInt]
    · exact hl.elim
  · rename_i i _ _ _ hg hg'
    obtain ⟨e, hu, _⟩ := (ht.get hg).isAgg
    have hu' := (ht.get hg').str
    split at hl
    · rw [T_str] at hx
      subst hx
      refine .mk _ _ ?_ (T_str.2 rfl) hl
      cases e <;> simp [convert, run_underlying hu, run_underlying hu']
    · exact hl.elim
  · exact hl.elim

theorem part_ok (ht : TabOk P tb) {t : Nat} {i : TI} (hg : getT tb t = some i) {v : V} (hf : fitB i v = true) {cs : Array Value} {o : Nat} (hr : R E v (fun q => cs[q]?) o) :
    ∃ x, (part t cs o).run P E.w = .ok x E.w ∧ T E v x := by
  have hty := ht.get hg
  obtain ⟨d, hu, hd⟩ := hty.isAgg
  obtain ⟨f, z, hi, hsz, _⟩ := hty.info
  by_cases hagg : v.isAgg = true
  · have hs : i.d.isAgg = true ∧ i.sz = vsize v := by
      cases v <;> simp_all [fitB, V.isAgg]
    refine ⟨.agg (cs.extract o (o + vsize v)), ?_, ?_⟩
    · simp [part, run_isAgg' hu, hd, hs.1, sizeOf, typeInfo, hi, hsz, hs.2]
    · have hle : ∀ q, q < vsize v → (cs.extract o (o + vsize v))[q]? = cs[o + q]? := fun q hq => by
        rw [Array.getElem?_extract]
        obtain ⟨x, h1, _⟩ := R_one v _ o q hr hq
        have h2 := (Array.getElem?_eq_some_iff.1 h1).1
        rw [if_pos (by omega)]
      refine T_mkAgg hagg ?_ (R_shift v _ _ o 0 (fun q hq => ?_) hr)
      · rw [Array.size_extract]
        by_cases h0 : vsize v = 0
        · omega
        · obtain ⟨x, h1, _⟩ := R_one v _ o (vsize v - 1) hr (by omega)
          have h2 := (Array.getElem?_eq_some_iff.1 h1).1
          omega
      · simpa using hle q hq
  · have hone : v.one = true ∧ i.d.isAgg = false := by
      cases v <;> simp_all [fitB, V.isAgg, V.one]
    have hz : vsize v = 1 := by cases v <;> simp_all [V.one, vsize]
    obtain ⟨x, h1, h2⟩ := R_one v _ o 0 hr (by omega)
    refine ⟨x, ?_, T_mk hone.1 h2 (R_shift v _ _ o 0 (fun q hq => by obtain rfl : q = 0 := by omega
                                                                     exact h1.symm) hr)⟩
    have hc : cs[o]? = some x := h1
    simp [part, run_isAgg' hu, hd, hone.2, hc]

theorem fieldD_ok (ht : TabOk P tb) {s : Nat} {x : V} {X : Value} {k : Nat} {κ : V → Prop} (hl : fieldD tb s x k κ) (hx : T E x X) : ResP E κ ((Instr.field s X k).run P E.w) := by
  unfold fieldD at hl
  split at hl
  · rename_i fs _ _ _ hg
    split at hl
    · rename_i off ft hk
      split at hl
      · rename_i fi hgf
        split at hl
        · rename_i vs
          split at hl
          · rename_i hc
            simp only [Bool.and_eq_true, Nat.blt_eq, Nat.beq_eq] at hc
            obtain ⟨⟨h1, h2⟩, h3⟩ := hc
            obtain ⟨cs, rfl, _, hr⟩ := T_agg rfl hx
            simp only [R] at hr
            have hr' := RL_get vs k _ 0 h1 hr
            rw [h2, Nat.zero_add] at hr'
            obtain ⟨gs, hu, hgs, _⟩ := (ht.get hg).st
            obtain ⟨y, h4, h5⟩ := part_ok ht hgf h3 hr'
            refine .mk y _ ?_ h5 hl
            have hf : ∃ f, gs[k]? = some f ∧ f.offset = off ∧ f.type = ft := by
              have := hk
              rw [← hgs] at this
              simp only [List.getElem?_map, Option.map_eq_some_iff, Prod.mk.injEq] at this
              obtain ⟨f, h6, h7, h8⟩ := this
              exact ⟨f, by simpa using h6, h7, h8⟩
            obtain ⟨f, h6, h7, h8⟩ := hf
            simp only [Instr.field, Sem.run_bind, run_underlying hu, Result.andThen_ok, h6, h7, h8, asAgg, Sem.run_pure]
            exact h4
          · exact hl.elim
        · exact hl.elim
      · exact hl.elim
    · exact hl.elim
  · exact hl.elim

theorem indexD_ok (ht : TabOk P tb) {t : Nat} {x ix : V} {X I : Value} {κ : V → Prop} (hl : indexD tb t x ix κ) (hx : T E x X) (hi : T E ix I) : ResP E κ ((Instr.index t X I).run P E.w) := by
  unfold indexD at hl
  split at hl
  · rename_i k n
    rw [T_int] at hi
    subst hi
    split at hl
    · rename_i m e _ _ _ hg
      have hu := (ht.get hg).arr
      split at hl
      · rename_i ei hge
        split at hl
        · rename_i sz m' f
          split at hl
          · rename_i hc
            simp only [Bool.and_eq_true, Nat.beq_eq] at hc
            obtain ⟨hsz, rfl⟩ := hc
            obtain ⟨⟨⟨h0, h1⟩⟩, hl⟩ := hl
            split at hl
            · rename_i hfit
              obtain ⟨cs, rfl, _, hr⟩ := T_agg rfl hx
              simp only [R] at hr
              have hr' := (hr n.toNat (by omega)).2
              rw [Nat.zero_add] at hr'
              obtain ⟨y, h4, h5⟩ := part_ok ht hge hfit hr'
              refine .mk y _ ?_ h5 hl
              obtain ⟨fi, z, hi, hfsz, _⟩ := (ht.get hge).info
              have hso : (sizeOf e).run P E.w = .ok sz E.w := by simp [sizeOf, typeInfo, hi, hfsz, hsz]
              simp only [Instr.index, asIntOf, Sem.run_bind, Sem.run_pure, run_underlying hu, Result.andThen_ok, h0, h1, and_self, if_true, hso]
              exact h4
            · exact hl.elim
          · exact hl.elim
        · exact hl.elim
      · exact hl.elim
    · rename_i _ _ _ hg
      have hu := (ht.get hg).str
      split at hl
      · rename_i s
        obtain ⟨⟨⟨h0, h1⟩⟩, hl⟩ := hl
        rw [T_str] at hx
        subst hx
        refine .mk _ _ ?_ (T_int.2 rfl) hl
        have hlt : n.toNat < s.length := by omega
        have hget : (⟨s.toArray⟩ : ByteArray)[n.toNat]? = some (s.getD n.toNat 0) := by
          have hlt' : n.toNat < (⟨s.toArray⟩ : ByteArray).size := hlt
          rw [getElem?_pos (⟨s.toArray⟩ : ByteArray) n.toNat hlt', List.getD_eq_getElem?_getD, List.getElem?_eq_getElem hlt]
          rfl
        simp only [Instr.index, asIntOf, Sem.run_bind, Sem.run_pure, run_underlying hu, Result.andThen_ok, h0, if_true, hget]
      · exact hl.elim
    · exact hl.elim
  · exact hl.elim

theorem fitB_agg {i : TI} {v : V} (h : fitB i v = true) : v.isAgg = i.d.isAgg ∧ v.isTup = false ∧ (∀ E x, T E v x → aggOk v x ∧ R E v (fun q => x.cells[q]?) 0) := by
  cases v <;> simp_all [fitB, V.isAgg, V.isTup] <;> exact fun E x h => h
theorem makeInterfaceD_ok (ht : TabOk P tb) {t : Nat} {x : V} {X : Value} {κ : V → Prop} (hl : makeInterfaceD tb t x κ) (hx : T E x X) : ResP E κ ((Instr.makeInterface t X).run P E.w) := by
  unfold makeInterfaceD at hl
  split at hl
  · exact hl.elim
  · exact hl.elim
  · rename_i i hn hn' hg
    split at hl
    · rename_i hfit
      have hT := (ht.get hg).td
      have hu : ∃ d, P.underlying t = some d ∧ ∀ ms, d ≠ .interface ms := by
        cases i with
        | mk d a b z =>
          cases d <;> simp only [tdOk] at hT <;> first
            | (exact absurd rfl (hn _ _ _)) | (exact absurd rfl (hn' _ _ _))
            | (split at hT <;> first | exact ⟨_, ‹_›, by simp⟩ | cases hT)
            | cases hT
      obtain ⟨d, hu, hd⟩ := hu
      refine .mk _ _ ?_ (T_iface.2 ⟨X, rfl, (fitB_agg hfit).2.2 E X hx⟩) hl
      cases d <;> first | (exact absurd rfl (hd _)) | simp [Instr.makeInterface, run_underlying hu]
    · exact hl.elim
  · exact hl.elim
theorem arrayAtD_ok (ht : TabOk P tb) {t : Nat} {x : V} {X : Value} {κ : V → Prop} (hl : arrayAtD tb t x κ) (hx : T E x X) : ResP E κ ((Instr.arrayAt t X).run P E.w) := by
  unfold arrayAtD at hl
  split at hl
  · rename_i m e _ _ _ hg
    have hu := (ht.get hg).arr
    split at hl
    · rename_i ei hge
      split at hl
      · rename_i j p sz lo len cap
        split at hl
        · rename_i hc
          simp only [Bool.and_eq_true, Nat.beq_eq, Bool.not_eq_true'] at hc
          obtain ⟨⟨hle⟩, hl⟩ := hl
          obtain ⟨hj, A, cp, rfl, h1, h2, h3⟩ := T_sl.1 hx
          have hm : m ≠ 0 := fun e => by simp [e] at hc
          rcases h3 with h3 | ⟨_, rfl, _⟩
          · omega
          · exact .mk _ _ (run_arrayAt E.w t e m _ len cp hu hle) (T_rref.2 ⟨hj, rfl⟩) hl
        · exact hl.elim
      · rename_i b sz n f
        split at hl
        · rename_i hc
          simp only [Bool.and_eq_true, Nat.beq_eq, Bool.not_eq_true'] at hc
          obtain ⟨⟨hle⟩, hl⟩ := hl
          have hm : m ≠ 0 := fun e => by simp [e] at hc
          obtain ⟨A, cp, rfl, h1, h2⟩ := T_imm.1 hx
          rcases h2 with h2 | ⟨bb, off, rfl, h4, h5⟩
          · omega
          · exact .mk _ _ (run_arrayAt E.w t e m _ n cp hu hle) (T_pim.2 ⟨bb, off, rfl, h4, by simp only [R]; exact fun k hk => h5 k (by omega)⟩) hl
        · exact hl.elim
      · exact hl.elim
    · exact hl.elim
  · exact hl.elim
end
end Go.DD
