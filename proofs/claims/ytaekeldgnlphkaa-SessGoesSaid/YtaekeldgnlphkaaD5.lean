/- Arithmetic, comparisons, conversions between numbers. -/
import Derived.Test.YtaekeldgnlphkaaD4
import Derived.DeepKeys
import Derived.Laws.StructEq
import Derived.Laws.Strings
namespace Go.DD
set_option linter.unusedVariables false
open Go.RowKit

structure Ob (p : Prop) : Prop where
  out : p

/-- A pure operation's outcome. -/
def ResP (E : Env) (κ : V → Prop) (r : Result Value) : Prop := ∃ x v, r = .ok x E.w ∧ T E v x ∧ κ v
theorem ResP.mk {E : Env} {κ : V → Prop} {r : Result Value} (x : Value) (v : V) (h : r = .ok x E.w) (ht : T E v x) (hk : κ v) : ResP E κ r := ⟨x, v, h, ht, hk⟩

def bitsI (op : BinOp) (k : IntKind) (x y : Int) : Int :=
  match op with
  | .and => k.wrap (BitVec.ofInt k.bits x &&& BitVec.ofInt k.bits y).toNat
  | .or => k.wrap (BitVec.ofInt k.bits x ||| BitVec.ofInt k.bits y).toNat
  | .xor => k.wrap (BitVec.ofInt k.bits x ^^^ BitVec.ofInt k.bits y).toNat
  | _ => k.wrap (BitVec.ofInt k.bits x &&& ~~~BitVec.ofInt k.bits y).toNat
def shlI (k : IntKind) (x y : Int) : Int := k.wrap (x * 2 ^ min y.toNat k.bits)
def shrI (k : IntKind) (x y : Int) : Int := x.fdiv (2 ^ min y.toNat k.bits)

def vb : V → Option Bool | .tt => some true | .ff => some false | .bool b => some b | _ => none
def isInt (k : IntKind) : V → Bool | .int k' _ => k' == k | _ => false
def intOfV : V → Int | .int _ n => n | _ => 0
/-- Are two rows of numbers alike? -/
def rowEq (n : Nat) (f g : Nat → V) : Bool := (List.range n).all fun k => intOfV (f k) == intOfV (g k)

def intBin (op : BinOp) (k : IntKind) (a b : Int) (κ : V → Prop) : Prop :=
  match op with
  | .add => κ (.int k (k.wrap (a + b)))
  | .sub => κ (.int k (k.wrap (a - b)))
  | .mul => κ (.int k (k.wrap (a * b)))
  | .quo => Ob (b ≠ 0) ∧ κ (.int k (k.wrap (a.tdiv b)))
  | .rem => Ob (b ≠ 0) ∧ κ (.int k (a.tmod b))
  | .and => κ (.int k (bitsI .and k a b))
  | .or => κ (.int k (bitsI .or k a b))
  | .xor => κ (.int k (bitsI .xor k a b))
  | .andNot => κ (.int k (bitsI .andNot k a b))
  | .eql => κ (.bool (a == b))
  | .neq => κ (.bool (a != b))
  | .lss => κ (.bool (decide (a < b)))
  | .leq => κ (.bool (decide (a ≤ b)))
  | .gtr => κ (.bool (decide (b < a)))
  | .geq => κ (.bool (decide (b ≤ a)))
  | _ => False
def strBin (op : BinOp) (a b : List UInt8) (κ : V → Prop) : Prop :=
  match op with
  | .add => Ob (a.length + b.length ≤ 140737488355328) ∧ κ (.str (a ++ b))
  | .eql => κ (.bool (a == b))
  | .neq => κ (.bool (!(a == b)))
  | .lss => κ (.bool (Op.bytesLess a b))
  | .leq => κ (.bool (Op.bytesLess a b || a == b))
  | .gtr => κ (.bool (!(Op.bytesLess a b || a == b)))
  | .geq => κ (.bool (!Op.bytesLess a b))
  | _ => False
/-- Is it nil? (Of a slice without elements nobody knows.) -/
def nilD (d : TD) (x : V) (κ : Bool → Prop) : Prop :=
  match d, x with
  | .ptr _, .nilp | .fn, .nilf | .iface, .nili => κ true
  | .ptr _, .ref .. | .ptr _, .rref .. | .ptr _, .pim .. | .fn, .fn .. | .iface, .iface .. => κ false
  | .slice _, .emp => ∀ b, κ b
  | .slice _, .imm _ _ n _ => ∀ b : Bool, (b = true → n = 0) → κ b
  | .slice _, .sl _ _ _ _ n _ => ∀ b : Bool, (b = true → n = 0) → κ b
  | _, _ => False
/-- Is the operand the literal nil of such a type? -/
def isNilC (d : TD) (y : Operand) : Bool :=
  match d, y with
  | .ptr _, .const (.pointer none) | .fn, .const .nilFunc | .iface, .const .nilIface | .slice _, .const (.slice none 0 0) => true
  | _, _ => false

def eqRow (tb : List (Option TI)) (t n : Nat) (f : Nat → V) (m : Nat) (g : Nat → V) (κ : Bool → Prop) : Prop :=
  match getT tb t with
  | some ⟨.arr l e, _, _, _⟩ =>
    match getT tb e with
    | some ⟨.int k, 1, _, _⟩ =>
      match Nat.beq n l && Nat.beq m l with
      | true => Ob (∀ i, i < l → isInt k (f i) = true) ∧ Ob (∀ i, i < l → isInt k (g i) = true) ∧ κ (rowEq l f g)
      | false => False
    | _ => False
  | _ => False
def eqD (tb : List (Option TI)) (t : Nat) (x y : V) (κ : Bool → Prop) : Prop :=
  match vb x, vb y with
  | some a, some b => (match getT tb t with | some ⟨.bool, _, _, _⟩ => κ (a == b) | _ => False)
  | _, _ =>
    match x, y with
    | .row _ n f, .row _ m g => eqRow tb t n f m g κ
    | _, _ => False

def eqlD (tb : List (Option TI)) (t : Nat) (yo : Operand) (x y : V) (κ : Bool → Prop) : Prop :=
  match getT tb t with
  | some i =>
    match isNilC i.d yo with
    | true => nilD i.d x κ
    | false => eqD tb t x y κ
  | none => False
def binD (tb : List (Option TI)) (op : BinOp) (t : Nat) (_xo yo : Operand) (x y : V) (κ : V → Prop) : Prop :=
  match x, y with
  | .int k a, .int k' b =>
    (match op with
    | .shl => Ob (0 ≤ b) ∧ κ (.int k (shlI k a b))
    | .shr => Ob (0 ≤ b) ∧ κ (.int k (shrI k a b))
    | op => if k = k' then intBin op k a b κ else False)
  | .str a, .str b => strBin op a b κ
  | x, y =>
    match op with
    | .eql => eqlD tb t yo x y (fun b => κ (.bool b))
    | .neq => eqlD tb t yo x y (fun b => κ (.bool (!b)))
    | _ => False
def unD (op : UnOp) (x : V) (κ : V → Prop) : Prop :=
  match op, x with
  | .not, .tt => κ .ff
  | .not, .ff => κ .tt
  | .not, .bool b => κ (.bool (!b))
  | .neg, .int k n => κ (.int k (k.wrap (0 - n)))
  | .xor, .int k n => κ (.int k (bitsI .xor k (if k.signed then -1 else k.max) n))
  | _, _ => False

theorem vb_T {E : Env} {v : V} {x : Value} {b : Bool} (h : vb v = some b) (ht : T E v x) : x = .bool b := by
  cases v <;> simp [vb] at h
  · subst h; exact T_tt.1 ht
  · subst h; exact T_ff.1 ht
  · subst h; exact T_bool.1 ht

section
variable {P : Program} {tb : List (Option TI)} {E : Env}

theorem T_boolv (b : Bool) : T E (.bool b) (.bool b) := T_bool.2 rfl

theorem eqGuard_int (op : BinOp) (t : TypeId) (xo yo : Operand) (k k' : IntKind) (a b : Int) (w : World) : (eqGuard op t xo yo (.int k a) (.int k' b)).run P w = .ok () w := by
  cases op <;> rfl

theorem intBin_ok {op : BinOp} {k : IntKind} {a b : Int} {κ : V → Prop} (h : intBin op k a b κ) (hs : op ≠ .shl) (hr : op ≠ .shr) (t : TypeId) : ResP E κ ((binOp op t (.int k a) (.int k b)).run P E.w) := by
  cases op <;> simp only [intBin] at h <;> first | exact h.elim | (exact absurd rfl hs) | (exact absurd rfl hr) | skip
  all_goals simp only [binOp, ne_eq, not_true, if_false, Op.intArith, Op.intDiv, Op.intBits, Op.intCmp, Sem.run_ite, Sem.run_pure]
  case quo => rw [if_neg h.1.out]; exact .mk _ _ rfl (T_int.2 rfl) h.2
  case rem => rw [if_neg h.1.out]; exact .mk _ _ rfl (T_int.2 rfl) h.2
  all_goals first
    | exact .mk _ _ rfl (T_int.2 rfl) h
    | exact .mk _ _ rfl (T_bool.2 rfl) h

theorem strBin_ok {op : BinOp} {a b : List UInt8} {κ : V → Prop} (h : strBin op a b κ) (t : TypeId) : ResP E κ ((binOp op t (.string ⟨a.toArray⟩) (.string ⟨b.toArray⟩)).run P E.w) := by
  cases op <;> simp only [strBin] at h <;> first | exact h.elim | skip
  all_goals simp only [binOp, Op.stringOp, ByteArray.toList_mk, Sem.run_ite, Sem.run_pure]
  case add =>
    have h1 := h.1.out
    rw [if_neg (by
      show ¬ ((((ByteArray.mk a.toArray).size + (ByteArray.mk b.toArray).size : Nat) : Int) > IntKind.i64.max)
      have ha : (ByteArray.mk a.toArray).size = a.length := by simp [ByteArray.size]
      have hb : (ByteArray.mk b.toArray).size = b.length := by simp [ByteArray.size]
      rw [ha, hb]
      have : IntKind.i64.max = 9223372036854775807 := by decide
      rw [this]; omega)]
    refine .mk _ _ rfl (T_str.2 ?_) h.2
    congr 1
    first | done | (apply ByteArray.ext; first | done | simp)
  all_goals exact .mk _ _ rfl (T_bool.2 rfl) h

theorem eqGuard_str (op : BinOp) (t : TypeId) (xo yo : Operand) (a b : ByteArray) (w : World) : (eqGuard op t xo yo (.string a) (.string b)).run P w = .ok () w := by
  cases op <;> rfl

theorem row_ints {l : Nat} {f : Nat → V} {k : IntKind} {cs : Array Value} {sz : Nat} (h : ∀ i, i < l → isInt k (f i) = true) (hr : ∀ i, i < l → vsize (f i) = sz ∧ R E (f i) (fun q => cs[q]?) (0 + i * sz)) :
    ∀ j, j < l → cs[j]? = some (.int k (intOfV (f j))) := fun j hj => by
  have h1 := hr j hj
  have h2 := h j hj
  generalize f j = u at h1 h2
  cases u <;> simp [isInt] at h2
  subst h2
  obtain ⟨h3, h4⟩ := h1
  simp only [vsize] at h3
  subst h3
  simpa [R, intOfV] using h4
theorem eqRow_ok (ht : TabOk P tb) {t : Nat} {sz n sz' m : Nat} {f g : Nat → V} {X Y : Value} {κ : Bool → Prop} (h : eqRow tb t n f m g κ) (hx : T E (.row sz n f) X) (hy : T E (.row sz' m g) Y) (op : BinOp) (xo yo : Operand) :
    (eqGuard op t xo yo X Y).run P E.w = .ok () E.w ∧ ∃ b, κ b ∧ (Op.equal t X Y).run P E.w = .ok b E.w ∧ ∃ a c, X = .agg a ∧ Y = .agg c := by
  unfold eqRow at h
  split at h
  · rename_i l e zs zb zz hg
    split at h
    · rename_i k zb' zz' hg'
      split at h
      · rename_i hnm
        obtain ⟨hf, hg2, hk⟩ := h
        simp only [Bool.and_eq_true, Nat.beq_eq] at hnm
        obtain ⟨rfl, rfl⟩ := hnm
        have hT := (ht.get hg).td
        simp only [tdOk] at hT
        have hTe := ht.get hg'
        have hTd := hTe.td
        simp only [tdOk] at hTd
        split at hT
        · rename_i n' e' hu
          simp only [Bool.and_eq_true, beq_iff_eq] at hT
          obtain ⟨rfl, rfl⟩ := hT
          split at hTd
          · rename_i k' hue
            simp only [beq_iff_eq] at hTd
            subst hTd
            obtain ⟨i, zv, hi, hsz, _⟩ := hTe.info
            obtain ⟨xs, rfl, hxs, hrx⟩ := T_agg rfl hx
            obtain ⟨ys, rfl, hys, hry⟩ := T_agg rfl hy
            simp only [R] at hrx hry
            have hfx := row_ints hf.out hrx
            have hgx := row_ints hg2.out hry
            have hguard : P.eqGuardType P.depth t = false := by
              have : P.depth = (2 * (P.types.size + Made.depth)) + 1 + 1 := rfl
              rw [this]
              simp only [Program.eqGuardType, hu, hue]
            refine ⟨run_eqGuard_agg E.w op t xo yo xs ys hguard, _, hk, ?_, xs, ys, rfl, rfl⟩
            show (Op.equalIn (9999 + 1) t (.agg xs) (.agg ys)).run P E.w = _
            rw [run_equalIn_array E.w 9999 xs ys hu hi]
            have hc : P.cellsOf e = 1 := by simp [Program.cellsOf, hi, hsz]
            rw [hc]
            have hpart : ∀ (cs : Array Value) (j : Nat) (v : Value), cs[j]? = some v → (part e cs (j * 1)).run P E.w = .ok v E.w := fun cs j v hv => by
              simp only [part, isAgg, Sem.run_bind, run_underlying hue, Result.andThen_ok, Sem.run_pure, Nat.mul_one, hv, Bool.false_eq_true, if_false]
            have key : ∀ (is : List Nat), (∀ j ∈ is, j < m) → (Op.eqItems 9999 e 1 xs ys is).run P E.w = .ok (is.all fun j => intOfV (f j) == intOfV (g j)) E.w := by
              intro is
              induction is with
              | nil => intro _; simp [Op.eqItems]
              | cons j is ih =>
                intro hall
                have hj := hall j (by simp)
                simp only [Op.eqItems, Sem.run_bind, hpart _ _ _ (hfx j hj), hpart _ _ _ (hgx j hj), Result.andThen_ok, run_equalIn_int E.w 9998 e k k _ _ hue, List.all_cons]
                cases hb : (intOfV (f j) == intOfV (g j))
                · simp
                · simpa using ih (fun q hq => hall q (by simp [hq]))
            exact key (List.range m) (fun j hj => List.mem_range.1 hj)
          · cases hTd
        · cases hT
      · exact h.elim
    · exact h.elim
  · exact h.elim
theorem eqD_ok (ht : TabOk P tb) {t : Nat} {x y : V} {X Y : Value} {κ : Bool → Prop} (h : eqD tb t x y κ) (hx : T E x X) (hy : T E y Y) (op : BinOp) (xo yo : Operand) :
    (eqGuard op t xo yo X Y).run P E.w = .ok () E.w ∧ ∃ b, κ b ∧ (Op.equal t X Y).run P E.w = .ok b E.w ∧ ((∃ a c, X = .bool a ∧ Y = .bool c) ∨ (∃ a c, X = .agg a ∧ Y = .agg c)) := by
  unfold eqD at h
  split at h
  · rename_i a b ha hb
    have h1 := vb_T ha hx
    have h2 := vb_T hb hy
    subst h1; subst h2
    split at h
    · rename_i hg
      have hT := (ht.get hg).td
      simp only [tdOk] at hT
      split at hT
      · rename_i hu
        refine ⟨by cases op <;> rfl, a == b, h, run_equalIn_bool E.w 9999 t a b hu, .inl ⟨a, b, rfl, rfl⟩⟩
      · cases hT
    · exact h.elim
  · cases x <;> cases y <;> first | exact h.elim | skip
    obtain ⟨h1, b, h2, h3, h4⟩ := eqRow_ok ht h hx hy op xo yo
    exact ⟨h1, b, h2, h3, .inr h4⟩

theorem eq_pp {t e : TypeId} (hu : P.underlying t = some (.pointer e)) (A : Option Addr) (w : World) : (Op.equal t (.pointer A) (.pointer none)).run P w = .ok A.isNone w := by
  show (Op.equalIn (9999 + 1) t _ _).run P w = _
  unfold Op.equalIn
  simp only [Sem.run_bind, run_underlying hu, Result.andThen_ok]
  cases A <;> rfl
theorem eq_nf {t : TypeId} {a b : Array TypeId} {v : Bool} (hu : P.underlying t = some (.func a b v)) (w : World) : (Op.equal t .nilFunc .nilFunc).run P w = .ok true w := by
  show (Op.equalIn (9999 + 1) t _ _).run P w = _
  unfold Op.equalIn
  simp only [Sem.run_bind, run_underlying hu, Result.andThen_ok]
  rfl
theorem eq_fn {t : TypeId} {a b : Array TypeId} {v : Bool} (hu : P.underlying t = some (.func a b v)) (f : Fn) (x y : Array Value) (w : World) : (Op.equal t (.func f x y) .nilFunc).run P w = .ok false w := by
  show (Op.equalIn (9999 + 1) t _ _).run P w = _
  unfold Op.equalIn
  simp only [Sem.run_bind, run_underlying hu, Result.andThen_ok]
  rfl
theorem eq_ni {t : TypeId} {ms : Array (String × TypeId)} (hu : P.underlying t = some (.interface ms)) (w : World) : (Op.equal t .nilIface .nilIface).run P w = .ok true w := by
  show (Op.equalIn (9999 + 1) t _ _).run P w = _
  unfold Op.equalIn
  simp only [Sem.run_bind, run_underlying hu, Result.andThen_ok]
  rfl
theorem eq_in {t : TypeId} {ms : Array (String × TypeId)} (hu : P.underlying t = some (.interface ms)) (u : TypeId) (v : Value) (w : World) : (Op.equal t (.iface u v) .nilIface).run P w = .ok false w := by
  show (Op.equalIn (9999 + 1) t _ _).run P w = _
  unfold Op.equalIn
  simp only [Sem.run_bind, run_underlying hu, Result.andThen_ok]
  rfl
theorem eq_sl {t e : TypeId} (hu : P.underlying t = some (.slice e)) (A : Option Addr) (n c : Nat) (w : World) : (Op.equal t (.slice A n c) (.slice none 0 0)).run P w = .ok A.isNone w := by
  show (Op.equalIn (9999 + 1) t _ _).run P w = _
  unfold Op.equalIn
  simp only [Sem.run_bind, run_underlying hu, Result.andThen_ok]
  cases A <;> rfl

theorem nilD_ok (ht : TabOk P tb) {t : Nat} {i : TI} (hg : getT tb t = some i) {x : V} {a : Act} {xo yo : Operand} {κ : Bool → Prop} (hn : isNilC i.d yo = true) (h : nilD i.d x κ) (hx : T E x (a.eval xo)) (op : BinOp) :
    (eqGuard op t xo yo (a.eval xo) (a.eval yo)).run P E.w = .ok () E.w ∧ ∃ b, κ b ∧ (Op.equal t (a.eval xo) (a.eval yo)).run P E.w = .ok b E.w ∧
      ((∀ (op : BinOp), op = .eql → binOp op t (a.eval xo) (a.eval yo) = (do pure (.bool (← Op.equal t (a.eval xo) (a.eval yo))))) ∧ (∀ (op : BinOp), op = .neq → binOp op t (a.eval xo) (a.eval yo) = (do pure (.bool (!(← Op.equal t (a.eval xo) (a.eval yo))))))) := by
  have hT := (ht.get hg).td
  generalize hX : a.eval xo = X at *
  unfold isNilC at hn
  split at hn <;> first | cases hn | skip
  · rename_i e hd
    rw [hd] at h hT
    simp only [tdOk] at hT
    split at hT
    · rename_i e' hu
      cases x <;> simp only [nilD] at h <;> first | exact h.elim | skip
      · obtain rfl := T_nilp.1 hx
        exact ⟨by cases op <;> rfl, true, h, eq_pp hu _ _, fun op ho => by subst ho; rfl, fun op ho => by subst ho; rfl⟩
      · obtain ⟨_, rfl⟩ := T_ref.1 hx
        exact ⟨by cases op <;> rfl, false, h, eq_pp hu _ _, fun op ho => by subst ho; rfl, fun op ho => by subst ho; rfl⟩
      · obtain ⟨_, rfl⟩ := T_rref.1 hx
        exact ⟨by cases op <;> rfl, false, h, eq_pp hu _ _, fun op ho => by subst ho; rfl, fun op ho => by subst ho; rfl⟩
      · obtain ⟨b, off, rfl, _⟩ := T_pim.1 hx
        exact ⟨by cases op <;> rfl, false, h, eq_pp hu _ _, fun op ho => by subst ho; rfl, fun op ho => by subst ho; rfl⟩
    · cases hT
  · rename_i hd
    rw [hd] at h hT
    simp only [tdOk] at hT
    split at hT
    · rename_i hu
      cases x <;> simp only [nilD] at h <;> first | exact h.elim | skip
      · obtain ⟨xs, rfl, _⟩ := T_fn.1 hx
        exact ⟨by cases op <;> rfl, false, h, eq_fn hu _ _ _ _, fun op ho => by subst ho; rfl, fun op ho => by subst ho; rfl⟩
      · obtain rfl := T_nilf.1 hx
        exact ⟨by cases op <;> rfl, true, h, eq_nf hu _, fun op ho => by subst ho; rfl, fun op ho => by subst ho; rfl⟩
    · cases hT
  · rename_i hd
    rw [hd] at h hT
    simp only [tdOk] at hT
    split at hT
    · rename_i hu
      cases x <;> simp only [nilD] at h <;> first | exact h.elim | skip
      · obtain ⟨y, rfl, _⟩ := T_iface.1 hx
        exact ⟨by cases op <;> rfl, false, h, eq_in hu _ _ _, fun op ho => by subst ho; rfl, fun op ho => by subst ho; rfl⟩
      · obtain rfl := T_nili.1 hx
        exact ⟨by cases op <;> cases xo <;> rfl, true, h, eq_ni hu _, fun op ho => by subst ho; rfl, fun op ho => by subst ho; rfl⟩
    · cases hT
  · rename_i e hd
    rw [hd] at h hT
    simp only [tdOk] at hT
    split at hT
    · rename_i e' hu
      have key : ∀ (A : Option Addr) (n c : Nat), κ A.isNone → X = .slice A n c → (eqGuard op t xo (.const (.slice none 0 0)) X (a.eval (.const (.slice none 0 0)))).run P E.w = .ok () E.w ∧ ∃ b, κ b ∧ (Op.equal t X (a.eval (.const (.slice none 0 0)))).run P E.w = .ok b E.w ∧
          ((∀ (op : BinOp), op = .eql → binOp op t X (a.eval (.const (.slice none 0 0))) = (do pure (.bool (← Op.equal t X (a.eval (.const (.slice none 0 0))))))) ∧ (∀ (op : BinOp), op = .neq → binOp op t X (a.eval (.const (.slice none 0 0))) = (do pure (.bool (!(← Op.equal t X (a.eval (.const (.slice none 0 0))))))))) := fun A n c hk hX => by
        subst hX
        exact ⟨by cases op <;> rfl, A.isNone, hk, eq_sl hu _ _ _ _, fun op ho => by subst ho; rfl, fun op ho => by subst ho; rfl⟩
      cases x <;> simp only [nilD] at h <;> first | exact h.elim | skip
      · obtain ⟨_, A, cp, h1, h2, h3, h4⟩ := T_sl.1 hx
        exact key A _ cp (h _ fun ha => by
          rcases h4 with h4 | ⟨_, h4, _⟩
          · omega
          · subst h4; cases ha) h1
      · obtain ⟨A, h1⟩ := T_emp.1 hx
        exact key A _ _ (h _) h1
      · obtain ⟨A, cp, h1, h2, h3⟩ := T_imm.1 hx
        exact key A _ cp (h _ fun ha => by
          rcases h3 with h3 | ⟨b, off, h3, _⟩
          · exact h3
          · subst h3; cases ha) h1
    · cases hT

theorem eqlD_ok (ht : TabOk P tb) {t : Nat} {x y : V} {a : Act} {xo yo : Operand} {κ : Bool → Prop} (h : eqlD tb t yo x y κ) (hx : T E x (a.eval xo)) (hy : T E y (a.eval yo)) (op : BinOp) :
    (eqGuard op t xo yo (a.eval xo) (a.eval yo)).run P E.w = .ok () E.w ∧ ∃ b, κ b ∧ (Op.equal t (a.eval xo) (a.eval yo)).run P E.w = .ok b E.w ∧
      ((∀ (op : BinOp), op = .eql → binOp op t (a.eval xo) (a.eval yo) = (do pure (.bool (← Op.equal t (a.eval xo) (a.eval yo))))) ∧ (∀ (op : BinOp), op = .neq → binOp op t (a.eval xo) (a.eval yo) = (do pure (.bool (!(← Op.equal t (a.eval xo) (a.eval yo))))))) := by
  unfold eqlD at h
  split at h
  · rename_i i hg
    split at h
    · rename_i hn
      exact nilD_ok ht hg hn h hx op
    · obtain ⟨h1, b, h2, h3, h4⟩ := eqD_ok ht h hx hy op xo yo
      refine ⟨h1, b, h2, h3, ?_⟩
      rcases h4 with ⟨p, q, h5, h6⟩ | ⟨p, q, h5, h6⟩
      · rw [h5, h6]; exact ⟨fun op ho => by subst ho; rfl, fun op ho => by subst ho; rfl⟩
      · rw [h5, h6]; exact ⟨fun op ho => by subst ho; rfl, fun op ho => by subst ho; rfl⟩
  · exact h.elim

theorem binD_ok (ht : TabOk P tb) {op : BinOp} {t : Nat} {x y : V} {a : Act} {xo yo : Operand} {κ : V → Prop} (h : binD tb op t xo yo x y κ) (hx : T E x (a.eval xo)) (hy : T E y (a.eval yo)) :
    ResP E κ ((do eqGuard op t xo yo (a.eval xo) (a.eval yo); binOp op t (a.eval xo) (a.eval yo)).run P E.w) := by
  have eqs : ∀ κ' : V → Prop, (op = .eql ∧ eqlD tb t yo x y (fun b => κ' (.bool b)) ∨ op = .neq ∧ eqlD tb t yo x y (fun b => κ' (.bool (!b)))) → ResP E κ' ((do eqGuard op t xo yo (a.eval xo) (a.eval yo); binOp op t (a.eval xo) (a.eval yo)).run P E.w) := by
    rintro κ' (⟨rfl, hq⟩ | ⟨rfl, hq⟩)
    · obtain ⟨h1, b, h2, h3, h4, _⟩ := eqlD_ok ht hq hx hy .eql
      simp only [Sem.run_bind, h1, Result.andThen_ok, h4 _ rfl, h3, Sem.run_pure]
      exact .mk _ _ rfl (T_bool.2 rfl) h2
    · obtain ⟨h1, b, h2, h3, _, h4⟩ := eqlD_ok ht hq hx hy .neq
      simp only [Sem.run_bind, h1, Result.andThen_ok, h4 _ rfl, h3, Sem.run_pure]
      exact .mk _ _ rfl (T_bool.2 rfl) h2
  unfold binD at h
  split at h
  · rename_i k n k' m
    have h1 := T_int.1 hx
    have h2 := T_int.1 hy
    simp only [Sem.run_bind]
    rw [h1, h2, eqGuard_int]
    simp only [Result.andThen_ok]
    split at h
    · simp only [binOp, Op.shift, Sem.run_ite]
      rw [if_neg (by have := h.1.out; omega)]
      exact .mk _ _ rfl (T_int.2 rfl) h.2
    · simp only [binOp, Op.shift, Sem.run_ite]
      rw [if_neg (by have := h.1.out; omega)]
      exact .mk _ _ rfl (T_int.2 rfl) h.2
    · rename_i hs hr
      split at h
      · rename_i hk
        subst hk
        exact intBin_ok h (fun e => hs e) (fun e => hr e) t
      · exact h.elim
  · have h1 := T_str.1 hx
    have h2 := T_str.1 hy
    simp only [Sem.run_bind]
    rw [h1, h2, eqGuard_str]
    exact strBin_ok h t
  · split at h
    · exact eqs κ (.inl ⟨rfl, h⟩)
    · exact eqs κ (.inr ⟨rfl, h⟩)
    · exact h.elim

theorem unD_ok {op : UnOp} {x : V} {X : Value} {κ : V → Prop} (h : unD op x κ) (hx : T E x X) : ResP E κ ((Op.unary op X).run P E.w) := by
  unfold unD at h
  split at h
  · obtain rfl := T_tt.1 hx; exact .mk _ _ rfl (T_ff.2 rfl) h
  · obtain rfl := T_ff.1 hx; exact .mk _ _ rfl (T_tt.2 rfl) h
  · obtain rfl := T_bool.1 hx; exact .mk _ _ rfl (T_bool.2 rfl) h
  · obtain rfl := T_int.1 hx; exact .mk _ _ rfl (T_int.2 rfl) h
  · obtain rfl := T_int.1 hx; exact .mk _ _ rfl (T_int.2 rfl) h
  · exact h.elim
end
end Go.DD
