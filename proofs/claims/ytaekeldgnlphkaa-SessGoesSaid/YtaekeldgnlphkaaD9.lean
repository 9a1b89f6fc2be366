/- Rows that grow. -/
import Derived.Test.YtaekeldgnlphkaaD8
import Derived.Deep.Upon
namespace Go.DD
set_option linter.unusedVariables false
open Go.RowKit

/-- What a source of elements gives: how many, each of them. -/
def srcD (sz : Nat) (y : V) (h : List (Option V)) (κ : Nat → (Nat → V) → Prop) : Prop :=
  match y with
  | .imm _ sz' m g => match Nat.beq sz' sz with | true => κ m g | false => False
  | .emp => κ 0 (fun _ => .any)
  | .str s => match Nat.beq sz 1 with | true => κ s.length (fun k => .int .u8 (s.getD k 0).toNat) | false => False
  | .sl j p sz' lo m _ =>
    match hget h j with
    | some c => okq c p (match sub c p with
      | .row sz'' n f => match Nat.beq sz' sz && Nat.beq sz'' sz with
        | true => Ob (lo + m ≤ n) ∧ κ m (fun k => f (lo + k))
        | false => False
      | _ => False)
    | none => False
  | _ => False
def TD.srcOk : TD → Bool | .slice _ | .str => true | _ => false
/-- Behind the last element: the row grows, here or elsewhere. -/
def growD (ei : TI) (base : V) (m : Nat) (g : Nat → V) (h : List (Option V)) (κ : V → List (Option V) → Prop) : Prop :=
  match base with
  | .emp => Ob (m * ei.by_ ≤ 140737488355328 ∧ m ≤ 140737488355328) ∧ κ (.sl (hlen h) [] ei.sz 0 m m) (hsnoc h (.row ei.sz m g))
  | .sl i [] sz lo len _ =>
    match hget h i with
    | some (.row sz' n f) => match Nat.beq sz ei.sz && Nat.beq sz' ei.sz && Nat.beq lo 0 with
      | true => Ob (len = n) ∧ Ob ((n + m) * ei.by_ ≤ 140737488355328 ∧ n + m ≤ 140737488355328) ∧
          κ (.sl (hlen h) [] sz 0 (n + m) (n + m)) (hsnoc (h.set i none) (.row sz (n + m) fun k => if k < n then f k else g (k - n)))
      | false => False
    | _ => False
  | _ => False
/-- Where there is room. -/
def roomD (ei : TI) (base : V) (m : Nat) (g : Nat → V) (h : List (Option V)) (κ : V → List (Option V) → Prop) : Prop :=
  match base with
  | .sl i [] sz lo len cap =>
    match hget h i with
    | some (.row sz' n f) => match Nat.beq sz ei.sz && Nat.beq sz' ei.sz with
      | true => Ob (len + m ≤ cap ∧ lo + len + m ≤ n) ∧ κ (.sl i [] sz lo (len + m) cap) (h.set i (some (.row sz n fun k => if lo + len ≤ k ∧ k < lo + len + m then g (k - (lo + len)) else f k)))
      | false => False
    | _ => False
  | _ => False
def appendD (tb : List (Option TI)) (t tx : Nat) (base y : V) (h : List (Option V)) (κ : V → List (Option V) → Prop) : Prop :=
  match getT tb t, getT tb tx with
  | some ⟨.slice e, _, _, _⟩, some ti =>
    match ti.d.srcOk, getT tb e with
    | true, some ei => srcD ei.sz y h fun m g => growD ei base m g h κ ∨ roomD ei base m g h κ
    | _, _ => False
  | _, _ => False

section
variable {P : Program} {tb : List (Option TI)} {E : Env}

def cellList (c : Nat → Option Value) (o n : Nat) : List Value := (List.range n).map fun q => (c (o + q)).getD undef
theorem cellList_length (c : Nat → Option Value) (o n : Nat) : (cellList c o n).length = n := by simp [cellList]
theorem cellList_get {c : Nat → Option Value} {o n q : Nat} (hq : q < n) {x : Value} (hx : c (o + q) = some x) : (cellList c o n)[q]? = some x := by
  simp [cellList, hq, hx]
theorem rowcells {sz n : Nat} {f : Nat → V} {c : Nat → Option Value} {o : Nat} (h : ∀ k, k < n → vsize (f k) = sz ∧ R E (f k) c (o + k * sz)) : ∀ q, q < n * sz → ∃ x, c (o + q) = some x ∧ x.oneCell' = true := fun q hq => by
  refine R_one (.row sz n f) c o q (by simp only [R]; exact h) (by simp only [vsize]; rw [Nat.mul_comm]; exact hq)
theorem rowlist {sz n : Nat} {f : Nat → V} {c : Nat → Option Value} {o : Nat} (h : ∀ k, k < n → vsize (f k) = sz ∧ R E (f k) c (o + k * sz)) : ∀ k, k < n → vsize (f k) = sz ∧ R E (f k) (fun q => (cellList c o (n * sz))[q]?) (k * sz) := fun k hk => by
  refine ⟨(h k hk).1, R_shift (f k) c _ (o + k * sz) (k * sz) (fun q hq => ?_) (h k hk).2⟩
  rw [(h k hk).1] at hq
  have h1 : k * sz + sz ≤ n * sz := by rw [← Nat.succ_mul]; exact Nat.mul_le_mul_right _ hk
  obtain ⟨x, h2, _⟩ := rowcells h (k * sz + q) (by omega)
  show (cellList c o (n * sz))[k * sz + q]? = _
  rw [cellList_get (by omega) h2, Nat.add_assoc, h2]

theorem src_slice {tx : Nat} {sz : Nat} (hkind : (∃ e', P.underlying tx = some (.slice e')) ∨ P.underlying tx = some .string) (w : World) (a : Addr) (n c : Nat) (news : List Value) (hl : news.length = n * sz) (hnews : ∀ j u, news[j]? = some u → w.cell? (a.add j) = some u)
    (h1 : ∀ u ∈ news, u.oneCell' = true) : Src P sz tx (.slice (some a) n c) n news w :=
  ⟨hkind, fun _ => rfl, run_firstCells_some w sz n a n c news hl hnews, run_firstCells_some w.drew sz n a n c news hl (by simpa using hnews), hl, h1⟩
theorem src_nil {tx : Nat} {sz : Nat} (hkind : (∃ e', P.underlying tx = some (.slice e')) ∨ P.underlying tx = some .string) (w : World) (c : Nat) : Src P sz tx (.slice none 0 c) 0 [] w :=
  ⟨hkind, fun _ => rfl, run_firstCells_none w sz 0 0 c, run_firstCells_none w.drew sz 0 0 c, by simp, fun _ h => by cases h⟩

theorem srcD_ok (ht : TabOk P tb) (hw : Wf E) {h : List (Option V)} (hs : SimH E h) {sz : Nat} {tx : Nat} {ti : TI} (hg : getT tb tx = some ti) (hk : ti.d.srcOk = true) {y : V} {Y : Value} {κ : Nat → (Nat → V) → Prop} (hd : srcD sz y h κ) (hy : T E y Y) :
    ∃ m g news, κ m g ∧ Src P sz tx Y m news E.w ∧ ∀ k, k < m → vsize (g k) = sz ∧ R E (g k) (fun q => news[q]?) (k * sz) := by
  have hT := (ht.get hg).td
  have hkind : (∃ e', P.underlying tx = some (.slice e')) ∨ P.underlying tx = some .string := by
    cases hd' : ti.d <;> rw [hd'] at hk hT <;> simp [TD.srcOk] at hk <;> simp only [tdOk] at hT
    · split at hT
      · exact .inr ‹_›
      · cases hT
    · split at hT
      · exact .inl ⟨_, ‹_›⟩
      · cases hT
  have hslice : ∀ (A : Option Addr) (m cp : Nat) (g : Nat → V), Y = .slice A m cp → κ m g → (m = 0 ∨ ∃ b off, A = some ⟨b, off, none⟩ ∧ ∀ k, k < m → vsize (g k) = sz ∧ R E (g k) (cellsAt E.w b) (off + k * sz)) →
      ∃ m g news, κ m g ∧ Src P sz tx Y m news E.w ∧ ∀ k, k < m → vsize (g k) = sz ∧ R E (g k) (fun q => news[q]?) (k * sz) := fun A m cp g hY hk hr => by
    subst hY
    rcases hr with rfl | ⟨b, off, rfl, hr⟩
    · refine ⟨0, g, [], hk, ?_, fun k hk => absurd hk (by omega)⟩
      cases A with
      | none => exact src_nil hkind E.w cp
      | some a => exact src_slice hkind E.w a 0 cp [] (by simp) (by simp) (by simp)
    · refine ⟨m, g, cellList (cellsAt E.w b) off (m * sz), hk, src_slice hkind E.w _ m cp _ (cellList_length _ _ _) (fun j u hj => ?_) (fun u hu' => ?_), rowlist hr⟩
      · have hlt : j < m * sz := by
          have := (List.getElem?_eq_some_iff.1 hj).1
          rwa [cellList_length] at this
        obtain ⟨x, h1, _⟩ := rowcells hr j hlt
        rw [cellList_get hlt h1] at hj
        cases hj
        rw [Addr.add_mid]; exact h1
      · obtain ⟨q, hq, rfl⟩ := List.mem_map.1 hu'
        obtain ⟨x, h1, h2⟩ := rowcells hr q (List.mem_range.1 hq)
        rw [h1]; exact h2
  unfold srcD at hd
  split at hd
  · rename_i l sz' m g
    split at hd
    · rename_i hb
      simp only [Nat.beq_eq] at hb
      subst hb
      obtain ⟨A, cp, rfl, h1, h2⟩ := T_imm.1 hy
      exact hslice A m cp g rfl hd (h2.imp id fun ⟨b, off, h3, _, h4⟩ => ⟨b, off, h3, fun k hk => ⟨(h4 k hk).1, R_bare hw (h4 k hk).2⟩⟩)
    · exact hd.elim
  · obtain ⟨A, rfl⟩ := T_emp.1 hy
    exact hslice A 0 0 _ rfl hd (.inl rfl)
  · rename_i s
    split at hd
    · rename_i hb
      simp only [Nat.beq_eq] at hb
      subst hb
      obtain rfl := T_str.1 hy
      have hlen : (ByteArray.mk s.toArray).size = s.length := by simp [ByteArray.size]
      refine ⟨s.length, _, byteCells ⟨s.toArray⟩, hd, ⟨hkind, fun w => by simp [Builtin.lenOf, hlen], ?_, ?_, by rw [byteCells_length, hlen, Nat.mul_one], fun u hu => ?_⟩, fun k hk => ⟨rfl, ?_⟩⟩
      · have := firstCells_string (P := P) ⟨s.toArray⟩ E.w
        rwa [hlen] at this
      · have := firstCells_string (P := P) ⟨s.toArray⟩ E.w.drew
        rwa [hlen] at this
      · obtain ⟨_, _, rfl⟩ := List.mem_map.1 hu
        rfl
      · simp only [R, Nat.mul_one, byteCells, List.getElem?_map]
        rw [List.getElem?_eq_getElem hk]
        simp [hk]
    · exact hd.elim
  · rename_i j p sz' lo m _
    split at hd
    · rename_i c hc
      obtain ⟨hp, hd2⟩ := okq_okp p c _ hd
      clear hd
      split at hd2
      · rename_i sz'' n f hsub
        split at hd2
        · rename_i hb
          simp only [Bool.and_eq_true, Nat.beq_eq] at hb
          obtain ⟨rfl, rfl⟩ := hb
          obtain ⟨hle, hd2⟩ := hd2
          have hle := hle.out
          obtain ⟨h1, A, cp, rfl, h2, h3, h4⟩ := T_sl.1 hy
          refine hslice A m cp _ rfl hd2 ?_
          rcases h4 with h4 | ⟨hvt, rfl, cs, t, fr, hb, _⟩
          · exact .inl (by omega)
          · rcases hs.live j c ((hget_eq h j c).1 hc) with ⟨h5, _⟩ | ⟨_, _, cs', t', hb', _, hr⟩
            · rw [h5] at hvt; cases hvt
            · refine .inr ⟨_, _, rfl, fun k hk => ?_⟩
              have hr' : R E c (cellsAt E.w (E.ρ j)) 0 := by
                have : cellsAt E.w (E.ρ j) = fun q => cs'[q]? := by funext q; simp [cellsAt, World.cell?, hb']
                rw [this]; exact hr
              have h6 := R_sub p c _ 0 hp hr'
              rw [Nat.zero_add, hsub] at h6
              simp only [R] at h6
              have := h6 (lo + k) (by omega)
              refine ⟨this.1, ?_⟩
              have h7 := this.2
              rw [Nat.add_mul, ← Nat.add_assoc] at h7
              exact h7
        · exact hd2.elim
      · exact hd2.elim
    · exact hd.elim
  · exact hd.elim

/-- A new block behind an index of its own, in the place of a forgotten one. -/
theorem grown_new (hw : Wf E) {h : List (Option V)} (hs : SimH E h) {cs : Array Value} {t : TypeId} {v : V} (hv : R E v (fun q => cs[q]?) 0) (hz : vsize v ≤ cs.size) :
    Ext E (E.alloc (.cells cs t)) ∧ Wf (E.alloc (.cells cs t)) ∧ SimH (E.alloc (.cells cs t)) (hsnoc h v) :=
  ⟨Env.ext_alloc hw _, Env.wf_alloc hw _, by rw [hsnoc_eq]; exact alloc_ok hw hs hv hz⟩

/-- A row that grew where it was has an index of its own, too. -/
def Env.again (E : Env) (w' : World) (i : Nat) : Env := { E with w := w', ρ := fun k => if k = E.N then E.ρ i else E.ρ k, vt := fun k => if k = E.N then false else E.vt k, N := E.N + 1 }

theorem again_ok {h : List (Option V)} {w' : World} {i : Nat} {v v' : V} {cs cs' : Array Value} {t : TypeId} (hw : Wf E) (hs : SimH E h) (hi : h[i]? = some (some v)) (hvt : E.vt i = false)
    (hb : E.w.heap[E.ρ i]? = some (.cells cs t (0, 0))) (hk : ¬ E.K (E.ρ i)) (hsz : cs'.size = cs.size) (hwr : Wrote E.w w' (E.ρ i) cs' t) (hv : R E v' (fun q => cs'[q]?) 0) (hz : vsize v' ≤ cs'.size) :
    Ext E (E.again w' i) ∧ Wf (E.again w' i) ∧ SimH (E.again w' i) (hsnoc (h.set i none) v') := by
  have hiN : i < E.N := hs.lt hi
  have hx1 := Wrote.ext hb hk hsz hwr
  have hx : Ext E (E.again w' i) :=
    { hx1 with N := Nat.le_succ _, ρ := fun j hj => by simp only [Env.again]; rw [if_neg (by omega)], vt := fun j hj => by simp only [Env.again]; rw [if_neg (by omega)] }
  have hwf : Wf (E.again w' i) := ⟨hw.S, hw.L, fun c hc => by have := hw.K c hc; simp only [Env.again, hwr.size]; exact this⟩
  refine ⟨hx, hwf, ?_⟩
  rw [hsnoc_eq]
  have hlen : (h.set i none).length = E.N := by simpa using hs.len
  have old : ∀ j u, (h.set i none)[j]? = some (some u) → j ≠ i ∧ h[j]? = some (some u) ∧ j < E.N := fun j u hj => by
    rw [List.getElem?_set] at hj
    split at hj
    · split at hj <;> simp at hj
    · rename_i e
      exact ⟨fun e' => e e'.symm, hj, hs.lt hj⟩
  have get : ∀ j u, ((h.set i none) ++ [some v'])[j]? = some (some u) → (j = E.N ∧ u = v') ∨ (j < E.N ∧ j ≠ i ∧ h[j]? = some (some u)) := fun j u hj => by
    rw [List.getElem?_append] at hj
    split at hj
    · obtain ⟨h1, h2, h3⟩ := old j u hj
      exact .inr ⟨h3, h1, h2⟩
    · rename_i hlt
      have h1 := (List.getElem?_eq_some_iff.1 hj).1
      simp only [List.length_singleton] at h1
      rw [hlen] at h1 hlt hj
      have : j = E.N := by omega
      subst this
      simp at hj
      exact .inl ⟨rfl, hj.symm⟩
  refine ⟨by simp [Env.again, hs.len], fun j u hj => ?_, fun j k u u' hj hk' hne h1 h2 => ?_⟩
  · rcases get j u hj with ⟨rfl, rfl⟩ | ⟨h1, h2, h3⟩
    · refine .inr ⟨by simp [Env.again], ?_, cs', t, ?_, hz, R_ext hw hx _ _ _ hv⟩
      · simp only [Env.again, if_true]; exact hk
      · simp only [Env.again, if_true]; exact hwr.here
    · refine (hs.live j u h3).ext hw hx h1 (fun h _ => h) (fun hvj => hwr.other _ (hs.inj j i u v h3 hi h2 hvj hvt))
  · rcases get j u hj with ⟨rfl, rfl⟩ | ⟨a1, a2, a3⟩ <;> rcases get k u' hk' with ⟨rfl, rfl⟩ | ⟨b1, b2, b3⟩
    · exact absurd rfl hne
    · simp only [Env.again, if_true] at h2 ⊢
      rw [if_neg (by omega)] at h2 ⊢
      exact fun e => hs.inj k i u' v b3 hi b2 h2 hvt e.symm
    · simp only [Env.again, if_true] at h1 ⊢
      rw [if_neg (by omega)] at h1 ⊢
      exact hs.inj j i u v a3 hi a2 h1 hvt
    · simp only [Env.again] at h1 h2 ⊢
      rw [if_neg (by omega)] at h1 h2 ⊢
      rw [if_neg (by omega)]
      exact hs.inj j k u u' a3 b3 hne h1 h2

theorem setCells_eq {w : World} {b o : Nat} {cs : Array Value} {t : TypeId} {vs : List Value} (hb : w.heap[b]? = some (.cells cs t (0, 0))) (hl : o + vs.length ≤ cs.size) (h1 : ∀ v ∈ vs, v.oneCell' = true) : w.setCells b o vs = w.setRow b (putRow cs o vs) := by
  have e1 := run_storeCells_at (P := default) b o t vs 0 cs w hb (by simpa using hl) h1
  have e2 := run_storeCells_cells (P := default) b o vs 0 w (fun j hj => by
    have : w.cell? ⟨b, o + j, none⟩ = cs[o + j]? := by simp [World.cell?, hb]
    simp only [Nat.add_zero, this, Array.getElem?_eq_getElem (show o + j < cs.size by omega), Option.isSome_some]) (fun j hj => by simp [World.frozen?, hb]) h1
  rw [e1] at e2
  simp only [Nat.add_zero] at e2
  injection e2 with _ e2
  exact e2.symm

/-- A row of elements at the begin of a row of cells. -/
theorem R_row_cells {sz n m : Nat} {f g : Nat → V} {olds news rest : List Value} (ho : olds.length = n * sz) (hn : news.length = m * sz) (hf : ∀ k, k < n → vsize (f k) = sz ∧ R E (f k) (fun q => olds[q]?) (k * sz))
    (hg : ∀ k, k < m → vsize (g k) = sz ∧ R E (g k) (fun q => news[q]?) (k * sz)) : R E (.row sz (n + m) fun k => if k < n then f k else g (k - n)) (fun q => (olds ++ news ++ rest).toArray[q]?) 0 := by
  simp only [R]
  intro k hk
  by_cases hkn : k < n
  · rw [if_pos hkn]
    have h1 : k * sz + sz ≤ n * sz := by rw [← Nat.succ_mul]; exact Nat.mul_le_mul_right _ hkn
    refine ⟨(hf k hkn).1, R_shift (f k) _ _ (k * sz) _ (fun q hq => ?_) (hf k hkn).2⟩
    rw [(hf k hkn).1] at hq
    simp only [List.getElem?_toArray, Nat.zero_add]
    rw [List.append_assoc, List.getElem?_append_left (by omega)]
  · rw [if_neg hkn]
    have hkm : k - n < m := by omega
    have h1 : (k - n) * sz + sz ≤ m * sz := by rw [← Nat.succ_mul]; exact Nat.mul_le_mul_right _ hkm
    have h2 : k * sz = n * sz + (k - n) * sz := by rw [← Nat.add_mul]; congr 1; omega
    refine ⟨(hg _ hkm).1, R_shift (g (k - n)) _ _ ((k - n) * sz) _ (fun q hq => ?_) (hg _ hkm).2⟩
    rw [(hg _ hkm).1] at hq
    simp only [List.getElem?_toArray, Nat.zero_add]
    rw [List.append_assoc, List.getElem?_append_right (by omega), List.getElem?_append_left (by omega)]
    congr 1
    omega

theorem grownCap_ge (w : World) (need old : Nat) (e : TypeId) : need ≤ grownCap w need old e := by
  unfold grownCap
  simp only [Question.cut]
  omega

/-- What a new row behind an append is. -/
theorem newrow_ok (hw : Wf E) {h : List (Option V)} (hs : SimH E h) {e : Nat} {ei : TI} {z : Value} (hz : z.cells.size = ei.sz) {n m sCap : Nat} {f g : Nat → V} {olds news : List Value} (ho : olds.length = n * ei.sz) (hn : news.length = m * ei.sz)
    (hf : ∀ k, k < n → vsize (f k) = ei.sz ∧ R E (f k) (fun q => olds[q]?) (k * ei.sz)) (hg : ∀ k, k < m → vsize (g k) = ei.sz ∧ R E (g k) (fun q => news[q]?) (k * ei.sz)) {r : Result Value}
    (hr : r = .ok (.slice (some ⟨E.w.heap.size, 0, none⟩) (n + m) (grownCap E.w (n + m) sCap e)) (E.w.drew.alloc (.cells ((olds ++ news).toArray ++ Builtin.zeroCells z.cells (grownCap E.w (n + m) sCap e - (n + m))) e)))
    {κ : V → List (Option V) → Prop} (hk : κ (.sl (hlen h) [] ei.sz 0 (n + m) (n + m)) (hsnoc h (.row ei.sz (n + m) fun k => if k < n then f k else g (k - n)))) : ResH E κ r := by
  have hx := E.ext_drew
  have hwd := Env.wf_drew hw
  have hsd := drew_ok hw hs
  let cells := (olds ++ news).toArray ++ Builtin.zeroCells z.cells (grownCap E.w (n + m) sCap e - (n + m))
  have hcells : cells = (olds ++ news ++ (Builtin.zeroCells z.cells (grownCap E.w (n + m) sCap e - (n + m))).toList).toArray := by
    simp [cells]
  have hzc : (Builtin.zeroCells z.cells (grownCap E.w (n + m) sCap e - (n + m))).size = (grownCap E.w (n + m) sCap e - (n + m)) * ei.sz := by
    simp [Builtin.zeroCells, hz]
  have hge' := grownCap_ge E.w (n + m) sCap e
  have hsize : cells.size = grownCap E.w (n + m) sCap e * ei.sz := by
    simp only [cells, Array.size_append, List.size_toArray, List.length_append, ho, hn, hzc]
    rw [← Nat.add_mul, ← Nat.add_mul]
    congr 1
    omega
  have hR : R E.drew (.row ei.sz (n + m) fun k => if k < n then f k else g (k - n)) (fun q => cells[q]?) 0 := by
    rw [hcells]
    exact R_row_cells ho hn (fun k hk => ⟨(hf k hk).1, R_ext hw hx _ _ _ (hf k hk).2⟩) (fun k hk => ⟨(hg k hk).1, R_ext hw hx _ _ _ (hg k hk).2⟩)
  have hvs : vsize (.row ei.sz (n + m) fun k => if k < n then f k else g (k - n)) ≤ cells.size := by
    simp only [vsize]
    rw [hsize, Nat.mul_comm]
    exact Nat.mul_le_mul_right _ hge'
  obtain ⟨g1, g2, g3⟩ := grown_new (t := e) hwd hsd hR hvs
  refine ⟨_, E.drew.alloc (.cells cells e), _, _, hr, hx.trans g1, g2, g3, T_sl.2 ⟨?_, some ⟨E.w.heap.size, 0, none⟩, grownCap E.w (n + m) sCap e, rfl, Nat.le_refl _, hge', .inr ⟨?_, ?_, cells, e, (0, 0), ?_, ?_⟩⟩, hk⟩
  · rw [hlen_eq, hs.len]; simp [Env.alloc, Env.drew]
  · rw [hlen_eq, hs.len]; simp [Env.alloc, Env.drew]
  · rw [hlen_eq, hs.len]; simp [Env.alloc, Env.drew, poff]
  · rw [hlen_eq, hs.len]
    simp only [Env.alloc, Env.drew, if_true]
    exact World.heap_alloc_new _ _
  · simp only [poff, Nat.zero_add]; rw [hsize]; exact Nat.le_refl _

theorem firstCells_zero (size : Nat) (A : Option Addr) (c : Nat) (w : World) : (Builtin.firstCells size 0 (.slice A 0 c)).run P w = .ok (#[] : Array Value) w := by
  cases A with
  | none => exact run_firstCells_none w size 0 0 c
  | some a => exact run_firstCells_some w size 0 a 0 c [] (by simp) (by simp)

theorem growD_ok (ht : TabOk P tb) (hw : Wf E) {h : List (Option V)} (hs : SimH E h) {t e tx ty : Nat} {ei : TI} (hu : P.underlying t = some (.slice e)) (hge : getT tb e = some ei) {m : Nat} {g : Nat → V} {news : List Value} {Y B : Value} {base : V} {κ : V → List (Option V) → Prop}
    (hsrc : Src P ei.sz tx Y m news E.w) (hg : ∀ k, k < m → vsize (g k) = ei.sz ∧ R E (g k) (fun q => news[q]?) (k * ei.sz)) (hB : T E base B) (hd : growD ei base m g h κ) :
    ResH E κ ((Builtin.append_ #[t, tx] ty #[B, Y]).run P E.w) := by
  obtain ⟨i, z, hi, hsz, hby, hz, _, hzs⟩ := (ht.get hge).info
  have hsrc' : Src P i.size tx Y m news E.w := by rw [hsz]; exact hsrc
  have hnl : news.length = m * ei.sz := hsrc.newsLen
  -- nothing stands there, and there is no room
  have nothing : ∀ (A : Option Addr) (h0 : List (Option V)), SimH E h0 → hlen h0 = hlen h → B = .slice A 0 0 → m * ei.by_ ≤ 140737488355328 → m ≤ 140737488355328 → ∀ f : Nat → V, (∀ k, k < m → f k = g k) → κ (.sl (hlen h0) [] ei.sz 0 m m) (hsnoc h0 (.row ei.sz m f)) → ResH E κ ((Builtin.append_ #[t, tx] ty #[B, Y]).run P E.w) := fun A h0 hs0 _ hB hb1 hb2 f hfg hk => by
    subst hB
    rcases Nat.eq_zero_or_pos m with rfl | hm
    · have hnil : news = [] := List.eq_nil_of_length_eq_zero (by rw [hnl, Nat.zero_mul])
      subst hnil
      refine ⟨.slice A 0 0, E.valloc, _, _, run_append_nothing E.w t tx ty e i hu hi A 0 0 (Nat.le_refl _) Y hsrc', Env.ext_valloc, Env.wf_valloc hw, by rw [hsnoc_eq]; exact valloc_ok hw hs0 ei.sz f, T_sl.2 ⟨?_, A, 0, rfl, Nat.le_refl _, Nat.le_refl _, .inl rfl⟩, hk⟩
      rw [hlen_eq, hs0.len]; simp [Env.valloc]
    · have hrun := run_append_grow_src E.w t tx ty e i z hu hi hz A 0 0 [] (firstCells_zero i.size A 0 E.w.drew) Y m news hsrc' (by omega) (by omega) (growslice_fits (by omega) (by rw [hby, Nat.zero_add]; exact hb1))
      refine newrow_ok hw hs0 hzs (n := 0) (f := f) (g := f) (olds := []) (by simp) hnl (fun k hk => absurd hk (by omega)) (fun k hk => by rw [hfg k hk]; exact hg k hk) hrun ?_
      simpa using hk
  unfold growD at hd
  split at hd
  · obtain ⟨hob, hk⟩ := hd
    obtain ⟨A, hBA⟩ := T_emp.1 hB
    exact nothing A h hs rfl hBA hob.out.1 hob.out.2 g (fun _ _ => rfl) hk
  · rename_i j sz lo len cap
    split at hd
    · rename_i sz' n f hc
      split at hd
      · rename_i hb
        simp only [Bool.and_eq_true, Nat.beq_eq] at hb
        obtain ⟨⟨rfl, rfl⟩, rfl⟩ := hb
        obtain ⟨hlen', hob, hk⟩ := hd
        obtain rfl : n = len := hlen'.out.symm
        obtain ⟨hb1, hb2⟩ := hob.out
        obtain ⟨hjN, A, cp, rfl, h2, h3, h4⟩ := T_sl.1 hB
        have hcj := (hget_eq h j _).1 hc
        have hlenset : hlen (h.set j none) = hlen h := by rw [hlen_eq, hlen_eq]; simp
        rcases Nat.eq_zero_or_pos cp with rfl | hcp
        · have hn0 : n = 0 := by omega
          subst hn0
          refine nothing A (h.set j none) (hs.forget j) hlenset rfl (by simpa using hb1) (by simpa using hb2) (fun k => if k < 0 then f k else g (k - 0)) (fun k hk => by simp) ?_
          rw [hlenset]
          simpa using hk
        · rcases h4 with h4 | ⟨hvt, rfl, cs0, t0, fr, hcs0, hbound⟩
          · omega
          · rcases hs.live j _ hcj with ⟨h5, _⟩ | ⟨_, hnk, cs, t', hbk, hle, hr⟩
            · rw [h5] at hvt; cases hvt
            · have e1 := hbk.symm.trans hcs0
              injection e1 with e1
              injection e1 with e1 e2 e3
              subst e1
              simp only [poff, Nat.zero_add, Nat.zero_mul, Nat.add_zero] at hbound ⊢
              simp only [R] at hr
              have hca : cellsAt E.w (E.ρ j) = fun q => cs[q]? := by funext q; simp [cellsAt, World.cell?, hbk]
              by_cases hroom : n + m ≤ cp
              · -- here
                have hfit : n * ei.sz + news.length ≤ cs.size := by
                  rw [hnl, ← Nat.add_mul]
                  exact Nat.le_trans (Nat.mul_le_mul_right _ hroom) hbound
                have hrun := run_append_room_src E.w t tx ty e i hu hi (E.ρ j) 0 n cp Y m news hsrc' hroom (fun q hq => by
                  have : E.w.cell? ⟨E.ρ j, 0 + n * i.size + q, none⟩ = cs[0 + n * i.size + q]? := by simp [World.cell?, hbk]
                  rw [hsz] at this ⊢
                  simp only [this, Array.getElem?_eq_getElem (show 0 + n * ei.sz + q < cs.size by omega), Option.isSome_some]) (fun q hq => by simp [World.frozen?, hbk])
                rw [hsz, Nat.zero_add, setCells_eq hbk hfit hsrc.one] at hrun
                have hwr : Wrote E.w (E.w.setRow (E.ρ j) (putRow cs (n * ei.sz) news)) (E.ρ j) (putRow cs (n * ei.sz) news) t' := Wrote.setRow hbk
                have hps := putRow_size hfit
                have hR : R E (.row ei.sz (n + m) fun k => if k < n then f k else g (k - n)) (fun q => (putRow cs (n * ei.sz) news)[q]?) 0 := by
                  have hn' : (cs.toList.take (n * ei.sz)).length = n * ei.sz := by simp; omega
                  refine R_row_cells (rest := cs.toList.drop (n * ei.sz + news.length)) hn' hnl (fun k hk => ⟨(hr k hk).1, ?_⟩) hg
                  have h6 : k * ei.sz + ei.sz ≤ n * ei.sz := by rw [← Nat.succ_mul]; exact Nat.mul_le_mul_right _ hk
                  refine R_shift (f k) _ _ (0 + k * ei.sz) _ (fun q hq => ?_) (hr k hk).2
                  rw [(hr k hk).1] at hq
                  simp only [Nat.zero_add, List.getElem?_take]
                  rw [if_pos (by omega)]
                  simp
                obtain ⟨g1, g2, g3⟩ := again_ok hw hs hcj hvt hbk hnk hps hwr hR (by simp only [vsize]; rw [hps, Nat.mul_comm]; exact Nat.le_trans (Nat.mul_le_mul_right _ hroom) hbound)
                refine ⟨_, _, _, _, hrun, g1, g2, g3, T_sl.2 ⟨?_, some ⟨E.ρ j, 0, none⟩, cp, rfl, Nat.le_refl _, hroom, .inr ⟨?_, ?_, putRow cs (n * ei.sz) news, t', (0, 0), ?_, ?_⟩⟩, hk⟩
                · rw [hlen_eq, hs.len]; simp [Env.again]
                · rw [hlen_eq, hs.len]; simp [Env.again]
                · rw [hlen_eq, hs.len]; simp [Env.again, poff]
                · rw [hlen_eq, hs.len]; simp only [Env.again, if_true]; exact hwr.here
                · simp only [poff, Nat.zero_add]; rw [hps]; exact hbound
              · -- elsewhere
                have hold : n * ei.sz ≤ cs.size := Nat.le_trans (Nat.mul_le_mul_right _ (by omega)) hbound
                have hf' : ∀ k, k < n → vsize (f k) = ei.sz ∧ R E (f k) (cellsAt E.w (E.ρ j)) (0 + k * ei.sz) := fun k hk => by rw [hca]; exact hr k hk
                have hrun := run_append_grow_src E.w t tx ty e i z hu hi hz (some ⟨E.ρ j, 0, none⟩) n cp (cellList (cellsAt E.w (E.ρ j)) 0 (n * ei.sz)) (by
                  refine run_firstCells_some E.w.drew i.size n _ n cp _ (by rw [cellList_length, hsz]) (fun q v hq => ?_)
                  have hlt : q < n * ei.sz := by
                    have := (List.getElem?_eq_some_iff.1 hq).1
                    rwa [cellList_length] at this
                  obtain ⟨x, h1, _⟩ := rowcells hf' q hlt
                  rw [cellList_get hlt h1] at hq
                  cases hq
                  rw [Addr.add_mid]; exact h1) Y m news hsrc' (by omega) (by omega) (growslice_fits (by omega) (by rw [hby]; exact hb1))
                refine newrow_ok hw (hs.forget j) hzs (n := n) (f := f) (g := g) (cellList_length _ _ _) hnl (rowlist hf') hg hrun ?_
                rw [hlenset]
                exact hk
      · exact hd.elim
    · exact hd.elim
  · exact hd.elim
end
end Go.DD
