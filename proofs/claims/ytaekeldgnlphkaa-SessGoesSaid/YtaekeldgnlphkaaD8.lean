/- New variables, structs, rows. -/
import Derived.Test.YtaekeldgnlphkaaD7
namespace Go.DD
set_option linter.unusedVariables false
open Go.RowKit

def hlen : List (Option V) → Nat | [] => 0 | _ :: l => hlen l + 1
theorem hlen_eq : ∀ (h : List (Option V)), hlen h = h.length | [] => rfl | _ :: l => by simp [hlen, hlen_eq l]
def hsnoc : List (Option V) → V → List (Option V) | [], v => [some v] | x :: l, v => x :: hsnoc l v
theorem hsnoc_eq : ∀ (h : List (Option V)) (v : V), hsnoc h v = h ++ [some v] | [], _ => rfl | _ :: l, v => by simp [hsnoc, hsnoc_eq l]

def allocD (tb : List (Option TI)) (t : Nat) (h : List (Option V)) (κ : V → List (Option V) → Prop) : Prop :=
  match getT tb t with
  | some i => κ (.ref (hlen h) []) (hsnoc h i.z)
  | none => False
def boxD (v : V) (h : List (Option V)) (κ : V → List (Option V) → Prop) : Prop :=
  match v.isAgg || v.one with
  | true => κ (.ref (hlen h) []) (hsnoc h v)
  | false => False
def fillS (tb : List (Option TI)) (fs : List (Nat × Nat)) (z0 : Vs) : List (Nat × V) → Vs → (Vs → Prop) → Prop
  | [], vs, κ => κ vs
  | (k, u) :: rest, vs, κ =>
    match fs[k]? with
    | none => False
    | some (off, ft) =>
      match getT tb ft with
      | none => False
      | some fi =>
        match Nat.blt k z0.len && Nat.beq (presz z0 k) off && Nat.beq (vsize (z0.get k)) fi.sz && fitB fi u with
        | true => fillS tb fs z0 rest (vs.set k u) κ
        | false => False
def partAtK : List (Nat × V) → Nat → V → V
  | [], _, d => d
  | (i, u) :: rest, k, d => if k = i then u else partAtK rest k d
def fillR (n : Nat) (ei : TI) : List (Nat × V) → Bool
  | [] => true
  | (i, u) :: rest => Nat.blt i n && fitB ei u && fillR n ei rest
def buildD (tb : List (Option TI)) (t : Nat) (parts : List (Nat × V)) (κ : V → Prop) : Prop :=
  match getT tb t with
  | some ⟨.st fs, _, _, .st z0⟩ => fillS tb fs z0 parts z0 fun vs => κ (.st vs)
  | some ⟨.arr n e, _, _, .row sz n' z⟩ =>
    match getT tb e with
    | some ei =>
      match Nat.beq sz ei.sz && Nat.beq n n' && fillR n ei parts with
      | true => κ (.row sz n fun k => partAtK parts.reverse k (z k))
      | false => False
    | none => False
  | _ => False
def buildSliceD (tb : List (Option TI)) (t n : Nat) (parts : List (Nat × V)) (h : List (Option V)) (κ : V → List (Option V) → Prop) : Prop :=
  match getT tb t with
  | some ⟨.slice e, _, _, _⟩ =>
    match getT tb e with
    | some ei =>
      match fillR n ei parts && Nat.ble (n * ei.sz) 16777216 with
      | true => κ (.sl (hlen h) [] ei.sz 0 n n) (hsnoc h (.row ei.sz n fun k => partAtK parts.reverse k ei.z))
      | false => False
    | none => False
  | _ => False

section
variable {P : Program} {tb : List (Option TI)} {E : Env}

theorem T_cells {v : V} {x : Value} (h : (v.isAgg || v.one) = true) (ht : T E v x) : x.cells.size = vsize v ∧ R E v (fun q => x.cells[q]?) 0 := by
  cases hagg : v.isAgg
  · have hone : v.one = true := by simpa [hagg] using h
    have hz : vsize v = 1 := by cases v <;> simp_all [V.one, vsize]
    obtain ⟨h1, h2⟩ := T_one hone ht
    have hc := cells_one h1
    refine ⟨by rw [hc, hz]; rfl, R_shift v _ _ 0 0 (fun q hq => ?_) h2⟩
    obtain rfl : q = 0 := by omega
    simp [hc]
  · obtain ⟨cs, rfl, h1, h2⟩ := T_agg hagg ht
    exact ⟨h1, h2⟩

theorem newVar_ok (hw : Wf E) {h : List (Option V)} (hs : SimH E h) {t : TypeId} {v : V} {x : Value} (hz : vsize v ≤ x.cells.size) (hr : R E v (fun q => x.cells[q]?) 0) {κ : V → List (Option V) → Prop} (hk : κ (.ref (hlen h) []) (hsnoc h v)) :
    ResH E κ ((do pure (.pointer (some (← newVar t x))) : Sem Value).run P E.w) := by
  refine ⟨.pointer (some ⟨E.w.heap.size, 0, none⟩), E.alloc (.cells x.cells t), .ref (hlen h) [], hsnoc h v, ?_, Env.ext_alloc hw _, Env.wf_alloc hw _, ?_, ?_, hk⟩
  · simp only [newVar, newRow, Sem.run_bind, run_newObj, Result.andThen_ok, Sem.run_pure]
    rfl
  · rw [hsnoc_eq]; exact alloc_ok hw hs hr hz
  · refine T_ref.2 ⟨?_, ?_⟩
    · rw [hlen_eq, hs.len]; simp [Env.alloc]
    · rw [hlen_eq, hs.len]; simp [Env.alloc, poff]

theorem allocD_ok (ht : TabOk P tb) (hw : Wf E) {h : List (Option V)} (hs : SimH E h) {t : Nat} {κ : V → List (Option V) → Prop} (hl : allocD tb t h κ) : ResH E κ ((Instr.alloc t true (.tuple #[])).run P E.w) := by
  unfold allocD at hl
  split at hl
  · rename_i i hg
    obtain ⟨f, z, hi, _, _, hz, hT, hzs⟩ := (ht.get hg).info
    have hrun : (Instr.alloc t true (.tuple #[])).run P E.w = (do pure (.pointer (some (← newVar t z))) : Sem Value).run P E.w := by
      simp only [Instr.alloc, zeroValue, typeInfo, Sem.run_bind, run_program, Result.andThen_ok, hi, hz, Sem.run_pure]
    rw [hrun]
    have hc := T_cells (E := E) (v := i.z) (x := z) (by
      have h1 := (ht.get hg).agg
      have h2 := (ht.get hg).one
      rw [h1, h2]; cases i.d.isAgg <;> rfl) (hT E)
    exact newVar_ok hw hs (by omega) hc.2 hl
  · exact hl.elim
theorem boxD_ok (hw : Wf E) {h : List (Option V)} (hs : SimH E h) {t : TypeId} {v : V} {x : Value} {κ : V → List (Option V) → Prop} (hl : boxD v h κ) (hx : T E v x) : ResH E κ ((Instr.box t x).run P E.w) := by
  unfold boxD at hl
  split at hl
  · rename_i hb
    have hc := T_cells hb hx
    exact newVar_ok hw hs (by omega) hc.2 hl
  · exact hl.elim

/-! ### Filling -/
theorem fold_set (off : Nat) : ∀ (l : List Value) (j : Nat) (cs : Array Value), off + j + l.length ≤ cs.size →
    ((l.zipIdx j).foldl (fun (cs : Array Value) (x : Value × Nat) => cs.setIfInBounds (off + x.2) x.1) cs).size = cs.size ∧
    ∀ q, ((l.zipIdx j).foldl (fun (cs : Array Value) (x : Value × Nat) => cs.setIfInBounds (off + x.2) x.1) cs)[q]? = if off + j ≤ q ∧ q < off + j + l.length then l[q - (off + j)]? else cs[q]?
  | [], j, cs, _ => ⟨rfl, fun q => by rw [if_neg (by simp)]; rfl⟩
  | v :: l, j, cs, h => by
    simp only [List.length_cons] at h
    have ih := fold_set off l (j + 1) (cs.setIfInBounds (off + j) v) (by simp; omega)
    simp only [List.zipIdx_cons, List.foldl_cons]
    refine ⟨by rw [ih.1]; simp, fun q => ?_⟩
    rw [ih.2 q]
    by_cases h1 : off + (j + 1) ≤ q ∧ q < off + (j + 1) + l.length
    · rw [if_pos h1, if_pos (by simp; omega)]
      rw [show q - (off + j) = (q - (off + (j + 1))) + 1 by omega]
      simp
    · rw [if_neg h1]
      by_cases h2 : q = off + j
      · subst h2
        rw [if_pos (by simp)]
        simp [Array.getElem?_setIfInBounds]
        omega
      · rw [if_neg (by simp; omega), Array.getElem?_setIfInBounds_ne (by omega)]

/-- One part put in. -/
def putPart (cells : Array Value) (off : Nat) (v : Value) : Array Value := v.cells.zipIdx.foldl (fun cs (c, j) => cs.setIfInBounds (off + j) c) cells
theorem putPart_spec {cells : Array Value} {off : Nat} {v : Value} (h : off + v.cells.size ≤ cells.size) : (putPart cells off v).size = cells.size ∧
    ∀ q, (putPart cells off v)[q]? = if off ≤ q ∧ q < off + v.cells.size then v.cells[q - off]? else cells[q]? := by
  have := fold_set off v.cells.toList 0 cells (by simpa using h)
  have e : putPart cells off v = (v.cells.toList.zipIdx 0).foldl (fun (cs : Array Value) (x : Value × Nat) => cs.setIfInBounds (off + x.2) x.1) cells := by
    unfold putPart
    rw [← Array.foldl_toList, Array.toList_zipIdx]
  rw [e]
  refine ⟨this.1, fun q => ?_⟩
  rw [this.2 q]
  simp
theorem fill_cons {place : Nat → Option (Nat × Nat)} {cells : Array Value} {i : Nat} {v : Value} {rest : List (Nat × Value)} {off size : Nat} (hp : place i = some (off, size)) (hs : v.cells.size = size) (hle : off + size ≤ cells.size) :
    Instr.fill place cells ((i, v) :: rest) = Instr.fill place (putPart cells off v) rest := by
  simp only [Instr.fill, hp, hs, ne_eq, not_true, decide_false, Bool.false_or, decide_eq_true_eq]
  rw [if_neg (by omega)]
  rfl

theorem Vs.len_set : ∀ (l : Vs) (k : Nat) (u : V), (l.set k u).len = l.len
  | .nil, k, u => by simp [Vs.set, Vs.len]
  | .cons v l, 0, u => by simp [Vs.set, Vs.len]
  | .cons v l, k + 1, u => by simp [Vs.set, Vs.len, Vs.len_set l k u]
theorem Vs.get_set : ∀ (l : Vs) (k j : Nat) (u : V), k < l.len → (l.set k u).get j = if j = k then u else l.get j
  | .nil, k, j, u, h => by simp [Vs.len] at h
  | .cons v l, 0, 0, u, _ => by simp [Vs.set, Vs.get]
  | .cons v l, 0, j + 1, u, _ => by simp [Vs.set, Vs.get]
  | .cons v l, k + 1, 0, u, _ => by simp [Vs.set, Vs.get]
  | .cons v l, k + 1, j + 1, u, h => by simpa [Vs.set, Vs.get] using Vs.get_set l k j u (by simpa [Vs.len] using h)
theorem presz_congr : ∀ (l l' : Vs) (k : Nat), l.len = l'.len → (∀ j, j < l.len → vsize (l.get j) = vsize (l'.get j)) → presz l k = presz l' k ∧ vsizes l = vsizes l'
  | .nil, .nil, k, _, _ => ⟨rfl, rfl⟩
  | .nil, .cons _ _, k, h, _ => by simp [Vs.len] at h
  | .cons _ _, .nil, k, h, _ => by simp [Vs.len] at h
  | .cons v l, .cons v' l', k, h, hj => by
    have h0 := hj 0 (by simp [Vs.len])
    simp only [Vs.get] at h0
    have ih := fun k => presz_congr l l' k (by simpa [Vs.len] using h) (fun j hlt => by simpa [Vs.get] using hj (j + 1) (by simp [Vs.len]; omega))
    refine ⟨?_, by simp only [vsizes, h0, (ih 0).2]⟩
    cases k with
    | zero => simp [presz]
    | succ k => simp only [presz, h0, (ih k).1]

/-- A part and its value. -/
def PartsT (E : Env) : List (Nat × V) → List (Nat × Value) → Prop
  | [], [] => True
  | (i, u) :: l, (j, x) :: m => i = j ∧ T E u x ∧ PartsT E l m
  | _, _ => False

theorem fillS_ok (ht : TabOk P tb) {fs : List (Nat × Nat)} {z0 : Vs} {place : Nat → Option (Nat × Nat)} (hplace : ∀ k off ft fi, fs[k]? = some (off, ft) → getT tb ft = some fi → place k = some (off, fi.sz)) :
    ∀ (parts : List (Nat × V)) (ps : List (Nat × Value)) (vs : Vs) (cells : Array Value) (κ : Vs → Prop), PartsT E parts ps → fillS tb fs z0 parts vs κ → vs.len = z0.len → (∀ j, j < z0.len → vsize (vs.get j) = vsize (z0.get j)) →
      vsizes z0 = cells.size → RL E vs (fun q => cells[q]?) 0 → ∃ cells' vs', Instr.fill place cells ps = some cells' ∧ κ vs' ∧ vs'.len = z0.len ∧ vsizes vs' = cells'.size ∧ cells'.size = cells.size ∧ RL E vs' (fun q => cells'[q]?) 0
  | [], ps, vs, cells, κ, hp, h, hl, hj, hz, hr => by
    cases ps with
    | cons x m => simp [PartsT] at hp
    | nil =>
      simp only [fillS] at h
      have := presz_congr vs z0 0 hl (fun j hjj => hj j (by omega))
      exact ⟨cells, vs, rfl, h, hl, by rw [this.2, hz], rfl, hr⟩
  | (k, u) :: rest, ps, vs, cells, κ, hp, h, hl, hj, hz, hr => by
    cases ps with
    | nil => simp [PartsT] at hp
    | cons y m =>
      obtain ⟨j, x⟩ := y
      simp only [PartsT] at hp
      obtain ⟨rfl, hu, hp⟩ := hp
      simp only [fillS] at h
      split at h
      · exact h.elim
      · rename_i off ft hfs
        split at h
        · exact h.elim
        · rename_i fi hg
          split at h
          · rename_i hb
            simp only [Bool.and_eq_true, Nat.beq_eq, Nat.blt_eq] at hb
            obtain ⟨⟨⟨b1, b2⟩, b3⟩, b4⟩ := hb
            obtain ⟨c1, c2, c3, c4, c5⟩ := cells_size b4 hu
            have hus : vsize u = fi.sz := by
              cases hd : fi.d.isAgg
              · have h1 := (ht.get hg).one
                have h2 := (ht.get hg).size
                rw [hd] at h1
                have h3 : vsize fi.z = 1 := by
                  generalize fi.z = y at h1
                  cases y <;> simp_all [V.one, vsize]
                rw [c5 hd]; omega
              · exact (c4 hd).symm
            have hcong := fun k => presz_congr vs z0 k hl (fun j hjj => hj j (by omega))
            have hle := presz_le vs k (by omega)
            have hvk : vsize (vs.get k) = vsize u := by rw [hj k b1, b3, hus]
            rw [(hcong k).1, (hcong 0).2, hz, hvk, b2] at hle
            have hsp := putPart_spec (cells := cells) (off := off) (v := x) (by omega)
            rw [fill_cons (hplace k off ft fi hfs hg) (by omega) (by omega)]
            have hset := RL_set vs k u (fun q => cells[q]?) (fun q => (putPart cells off x)[q]?) 0 (by omega) hvk.symm hr
              (fun q _ h2 h3 => by
                rw [hsp.2 q, if_neg]
                rw [(hcong k).1, b2] at h3
                omega)
              (by
                rw [(hcong k).1, b2, Nat.zero_add]
                exact R_shift u _ _ 0 off (fun q hq => by rw [hsp.2 (off + q), if_pos (by omega)]; simp) c3)
            have ih := fillS_ok ht hplace rest m (vs.set k u) (putPart cells off x) κ hp h (by rw [Vs.len_set, hl]) (fun j hjj => by
              rw [Vs.get_set _ _ _ _ (by omega)]
              split
              · rename_i e; subst e; rw [hus, b3]
              · exact hj j hjj) (by rw [hsp.1, hz]) hset
            obtain ⟨cells', vs', e1, e2, e3, e4, e5, e6⟩ := ih
            exact ⟨cells', vs', e1, e2, e3, e4, by rw [e5, hsp.1], e6⟩
          · exact h.elim

/-- What stands at a place of a row that is being filled. -/
theorem partAtK_snoc (l : List (Nat × V)) (i : Nat) (u : V) (k : Nat) (d : V) : partAtK ((i, u) :: l).reverse k d = partAtK l.reverse k (if k = i then u else d) := by
  have key : ∀ (a : List (Nat × V)) (d : V), partAtK (a ++ [(i, u)]) k d = partAtK a k (if k = i then u else d) := fun a => by
    induction a with
    | nil => intro d; simp [partAtK]
    | cons x a ih =>
      intro d
      obtain ⟨j, y⟩ := x
      simp only [List.cons_append, partAtK]
      split
      · rfl
      · exact ih d
  rw [List.reverse_cons]
  exact key _ _

theorem fillR_ok (ht : TabOk P tb) {e : Nat} {ei : TI} (hg : getT tb e = some ei) {n : Nat} :
    ∀ (parts : List (Nat × V)) (ps : List (Nat × Value)) (f : Nat → V) (cells : Array Value), PartsT E parts ps → fillR n ei parts = true → ei.sz * n = cells.size → R E (.row ei.sz n f) (fun q => cells[q]?) 0 →
      ∃ cells', Instr.fill (fun i => some (i * ei.sz, ei.sz)) cells ps = some cells' ∧ cells'.size = cells.size ∧ R E (.row ei.sz n fun k => partAtK parts.reverse k (f k)) (fun q => cells'[q]?) 0
  | [], ps, f, cells, hp, _, hz, hr => by
    cases ps with
    | cons x m => simp [PartsT] at hp
    | nil => exact ⟨cells, rfl, rfl, by simpa [partAtK] using hr⟩
  | (i, u) :: rest, ps, f, cells, hp, h, hz, hr => by
    cases ps with
    | nil => simp [PartsT] at hp
    | cons y m =>
      obtain ⟨j, x⟩ := y
      simp only [PartsT] at hp
      obtain ⟨rfl, hu, hp⟩ := hp
      simp only [fillR, Bool.and_eq_true, Nat.blt_eq] at h
      obtain ⟨⟨b1, b2⟩, b3⟩ := h
      obtain ⟨c1, c2, c3, c4, c5⟩ := cells_size b2 hu
      have hus : vsize u = ei.sz := by
        cases hd : ei.d.isAgg
        · have h1 := (ht.get hg).one
          have h2 := (ht.get hg).size
          rw [hd] at h1
          have h3 : vsize ei.z = 1 := by
            generalize ei.z = y at h1
            cases y <;> simp_all [V.one, vsize]
          rw [c5 hd]; omega
        · exact (c4 hd).symm
      have hle := row_le (sz := ei.sz) b1
      have hsp := putPart_spec (cells := cells) (off := i * ei.sz) (v := x) (by omega)
      rw [fill_cons (place := fun i => some (i * ei.sz, ei.sz)) rfl (by omega) (by omega)]
      simp only [R] at hr
      have hr' : R E (.row ei.sz n fun k => if k = i then u else f k) (fun q => (putPart cells (i * ei.sz) x)[q]?) 0 := by
        simp only [R]
        intro k hk
        by_cases hki : k = i
        · subst hki
          rw [if_pos rfl]
          exact ⟨hus, R_shift u _ _ 0 _ (fun q hq => by
            show (putPart cells (k * ei.sz) x)[0 + k * ei.sz + q]? = _
            rw [Nat.zero_add, hsp.2, if_pos (by omega)]; simp) c3⟩
        · rw [if_neg hki]
          refine ⟨(hr k hk).1, R_local (fun q h1 h2 => ?_) (hr k hk).2⟩
          rw [(hr k hk).1] at h2
          show (putPart cells (i * ei.sz) x)[q]? = cells[q]?
          rw [hsp.2 q, if_neg]
          rcases Nat.lt_or_gt_of_ne hki with hlt | hgt
          · have : k * ei.sz + ei.sz ≤ i * ei.sz := by rw [← Nat.succ_mul]; exact Nat.mul_le_mul_right _ hlt
            omega
          · have : i * ei.sz + ei.sz ≤ k * ei.sz := by rw [← Nat.succ_mul]; exact Nat.mul_le_mul_right _ hgt
            omega
      obtain ⟨cells', e1, e2, e3⟩ := fillR_ok ht hg rest m _ _ hp b3 (by rw [hsp.1, hz]) hr'
      refine ⟨cells', e1, by rw [e2, hsp.1], ?_⟩
      simp only [partAtK_snoc]
      exact e3

theorem sizes_run (w : World) : ∀ (l : List Field), (∀ f ∈ l, ∃ i, P.info? f.type = some i) →
    (l.mapM (m := Sem) fun f => do pure (f.offset, ← sizeOf f.type)).run P w = .ok (l.map fun f => (f.offset, P.cellsOf f.type)) w
  | [], _ => by simp
  | f :: l, h => by
    obtain ⟨i, hi⟩ := h f (by simp)
    have ih := sizes_run w l (fun g hg => h g (by simp [hg]))
    simp only [List.mapM_cons, Sem.run_bind, sizeOf, typeInfo, run_program, Result.andThen_ok, hi, Sem.run_pure, List.map_cons]
    have hc : P.cellsOf f.type = i.size := by simp [Program.cellsOf, hi]
    simp only [sizeOf, typeInfo] at ih
    rw [ih]
    simp [hc]

theorem buildD_ok (ht : TabOk P tb) {t : Nat} {parts : List (Nat × V)} {ps : Array (Nat × Value)} {κ : V → Prop} (hp : PartsT E parts ps.toList) (hl : buildD tb t parts κ) : ResP E κ ((Instr.build t ps).run P E.w) := by
  unfold buildD at hl
  split at hl
  · rename_i fs sz by_ z0 hg
    have hty := ht.get hg
    have hT := hty.td
    simp only [tdOk] at hT
    obtain ⟨g, z, hi, hsz, _, hz, hTz, hzs⟩ := hty.info
    split at hT
    · rename_i gs hu
      simp only [Bool.and_eq_true, beq_iff_eq] at hT
      obtain ⟨hT, hall⟩ := hT
      obtain ⟨zc, rfl, hz1, hz2⟩ := T_agg rfl (hTz E)
      simp only [R] at hz2
      simp only [vsize] at hz1
      have hplaces : (gs.mapM (m := Sem) fun f => do pure (f.offset, ← sizeOf f.type)).run P E.w = .ok (gs.map fun f => (f.offset, P.cellsOf f.type)) E.w := by
        rw [Array.mapM_eq_mapM_toList]
        have hf : ∀ f ∈ gs.toList, ∃ i, P.info? f.type = some i := fun f hf => by
          have := List.all_eq_true.1 hall f hf
          exact Option.isSome_iff_exists.1 this
        simp only [Sem.run_map, sizes_run E.w gs.toList hf, Result.andThen_ok]
        congr 1
        apply Array.ext'
        simp
      have hplace : ∀ k off ft fi, fs[k]? = some (off, ft) → getT tb ft = some fi → (gs.map fun f => (f.offset, P.cellsOf f.type))[k]? = some (off, fi.sz) := fun k off ft fi h1 h2 => by
        rw [← hT, List.getElem?_map, Option.map_eq_some_iff] at h1
        obtain ⟨f, h3, h4⟩ := h1
        cases h4
        obtain ⟨g', _, hi', hsz', _⟩ := (ht.get h2).info
        rw [Array.getElem?_map]
        have : gs[k]? = some f := by simpa using h3
        rw [this]
        simp [Program.cellsOf, hi', hsz']
      obtain ⟨cells', vs', e1, e2, e3, e4, e5, e6⟩ := fillS_ok ht (place := fun i => (gs.map fun f => (f.offset, P.cellsOf f.type))[i]?) hplace parts ps.toList z0 zc _ hp hl rfl (fun _ _ => rfl) hz1.symm hz2
      refine .mk (.agg cells') _ ?_ (T_mkAgg rfl (by simp only [vsize]; exact e4.symm) (by simp only [R]; exact e6)) e2
      simp only [Instr.build, Sem.run_bind, zeroValue, typeInfo, run_program, Result.andThen_ok, hi, hz, Sem.run_pure, run_underlying hu, hplaces, Value.cells, e1]
    · cases hT
  · rename_i n e sz' by_ sz n' z hg
    have hty := ht.get hg
    have hT := hty.td
    simp only [tdOk] at hT
    obtain ⟨g, zv, hi, hsz, _, hz, hTz, hzs⟩ := hty.info
    split at hT
    · rename_i m' e' hu
      simp only [Bool.and_eq_true, beq_iff_eq] at hT
      obtain ⟨rfl, rfl⟩ := hT
      split at hl
      · rename_i ei hge
        split at hl
        · rename_i hb
          simp only [Bool.and_eq_true, Nat.beq_eq] at hb
          obtain ⟨⟨rfl, rfl⟩, hb⟩ := hb
          obtain ⟨g', _, hi', hsz', _⟩ := (ht.get hge).info
          obtain ⟨zc, rfl, hz1, hz2⟩ := T_agg rfl (hTz E)
          simp only [vsize] at hz1
          obtain ⟨cells', e1, e2, e3⟩ := fillR_ok ht hge parts ps.toList z zc hp hb hz1.symm hz2
          refine .mk (.agg cells') _ ?_ (T_mkAgg rfl (by simp only [vsize]; rw [e2, hz1]) e3) hl
          simp only [Instr.build, Sem.run_bind, zeroValue, typeInfo, run_program, Result.andThen_ok, hi, hz, Sem.run_pure, run_underlying hu, sizeOf, hi', hsz', Value.cells, e1]
        · exact hl.elim
      · exact hl.elim
    · cases hT
  · exact hl.elim
end
end Go.DD
