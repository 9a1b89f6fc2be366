/- Stores, addresses, cuts: sound. -/
import Derived.Test.YtaekeldgnlphkaaD6
namespace Go.DD
set_option linter.unusedVariables false
open Go.RowKit
section
variable {P : Program} {tb : List (Option TI)} {E : Env}

theorem poff_append : ∀ (p q : List Step), poff (p ++ q) = poff p + poff q
  | [], q => by simp [poff]
  | s :: p, q => by simp [poff, poff_append p q, Nat.add_assoc]

theorem cells_size {v : V} {x : Value} {i : TI} (hf : fitB i v = true) (hT : T E v x) : x.cells.size = vsize v ∧ (∀ u ∈ x.cells, u.oneCell' = true) ∧ R E v (fun q => x.cells[q]?) 0 ∧ (i.d.isAgg = true → i.sz = vsize v) ∧ (i.d.isAgg = false → vsize v = 1) := by
  by_cases hagg : v.isAgg = true
  · obtain ⟨cs, rfl, h1, h2⟩ := T_agg hagg hT
    refine ⟨h1, fun u hu => ?_, h2, fun _ => by cases v <;> simp_all [fitB, V.isAgg], fun h => by cases v <;> simp_all [fitB, V.isAgg]⟩
    obtain ⟨q, hq, rfl⟩ := Array.mem_iff_getElem.1 hu
    have hq' : q < cs.size := hq
    obtain ⟨x, h3, h4⟩ := R_one v _ 0 q h2 (by rw [← h1]; exact hq')
    rw [Nat.zero_add] at h3
    have : cs[q]? = some cs[q] := Array.getElem?_eq_getElem hq'
    rw [this] at h3
    cases h3
    exact h4
  · have hone : v.one = true := by cases v <;> simp_all [fitB, V.isAgg, V.one]
    have hz : vsize v = 1 := by cases v <;> simp_all [V.one, vsize]
    obtain ⟨h1, h2⟩ := T_one hone hT
    have hc := cells_one h1
    refine ⟨by rw [hc, hz]; rfl, fun u hu => by rw [hc] at hu; simp at hu; subst hu; exact h1, R_shift v _ _ 0 0 (fun q hq => ?_) h2, fun h => by cases v <;> simp_all [fitB, V.isAgg], fun _ => hz⟩
    obtain rfl : q = 0 := by omega
    simp [hc]

/-- The row behind a store of 'new' at 'o'. -/
def putRow (cs : Array Value) (o : Nat) (new : List Value) : Array Value := (cs.toList.take o ++ new ++ cs.toList.drop (o + new.length)).toArray
theorem putRow_size {cs : Array Value} {o : Nat} {new : List Value} (h : o + new.length ≤ cs.size) : (putRow cs o new).size = cs.size := by
  simp only [putRow, List.size_toArray, List.length_append, List.length_take, List.length_drop, Array.length_toList]
  omega
theorem putRow_in {cs : Array Value} {o : Nat} {new : List Value} (h : o + new.length ≤ cs.size) {q : Nat} (hq : q < new.length) : (putRow cs o new)[o + q]? = new[q]? := by
  simp only [putRow, List.getElem?_toArray]
  rw [List.append_assoc, List.getElem?_append_right (by simp; omega), List.getElem?_append_left (by simp [Nat.min_eq_left (by omega : o ≤ cs.size)]; omega)]
  simp only [List.length_take, Array.length_toList, Nat.min_eq_left (by omega : o ≤ cs.size), Nat.add_sub_cancel_left]
theorem putRow_out {cs : Array Value} {o : Nat} {new : List Value} (h : o + new.length ≤ cs.size) {q : Nat} (hq : q < o ∨ o + new.length ≤ q) : (putRow cs o new)[q]? = cs[q]? := by
  simp only [putRow, List.getElem?_toArray]
  rcases hq with hq | hq
  · rw [List.append_assoc, List.getElem?_append_left (by simp; omega), List.getElem?_take, if_pos hq]
    simp
  · rw [List.getElem?_append_right (by simp; omega), List.getElem?_drop]
    simp only [List.length_append, List.length_take, Array.length_toList, Nat.min_eq_left (by omega : o ≤ cs.size)]
    rw [show o + new.length + (q - (o + new.length)) = q by omega]
    simp

/-- A heap operation's outcome. -/
def ResH (E : Env) (κ : V → List (Option V) → Prop) (r : Result Value) : Prop := ∃ x E' v h', r = .ok x E'.w ∧ Ext E E' ∧ Wf E' ∧ SimH E' h' ∧ T E' v x ∧ κ v h'
theorem ResP.heap {κ : V → Prop} {r : Result Value} {h : List (Option V)} (hw : Wf E) (hs : SimH E h) {κ' : V → List (Option V) → Prop} (hr : ResP E κ r) (hk : ∀ v, κ v → κ' v h) : ResH E κ' r := by
  obtain ⟨x, v, h1, h2, h3⟩ := hr
  exact ⟨x, E, v, h, h1, Ext.refl E, hw, hs, h2, hk v h3⟩

theorem storeD_ok (ht : TabOk P tb) (hw : Wf E) {h : List (Option V)} (hs : SimH E h) {t : Nat} {x u : V} {X U : Value} {κ : List (Option V) → Prop} (hl : storeD tb t x u h κ) (hx : T E x X) (hu : T E u U) :
    ∃ E' h', (Instr.storeAt t X U).run P E.w = .ok () E'.w ∧ Ext E E' ∧ Wf E' ∧ SimH E' h' ∧ κ h' := by
  unfold storeD at hl
  split at hl
  · exact hl.elim
  · rename_i i hg
    split at hl
    · rename_i j p
      split at hl
      · rename_i c hc
        obtain ⟨hp, hk⟩ := okq_okp p c _ hl
        split at hk
        · rename_i hfit
          simp only [Bool.and_eq_true] at hfit
          obtain ⟨_, rfl⟩ := T_ref.1 hx
          obtain ⟨k1, k2, k3, k4, k5⟩ := cells_size hfit.1.2 hu
          have hsz : vsize u = vsize (sub c p) := by
            cases hd : i.d.isAgg
            · have h1 : vsize (sub c p) = 1 := by
                have hf := hfit.1.1
                generalize sub c p = y at hf
                cases y <;> simp_all [fitB, vsize]
              rw [h1, k5 hd]
            · have h1 : i.sz = vsize (sub c p) := by
                have hf := hfit.1.1
                generalize sub c p = y at hf
                cases y <;> simp_all [fitB]
              rw [← h1, k4 hd]
          have hty := ht.get hg
          obtain ⟨f, z, hi, hisz, _, _, _, hzs⟩ := hty.info
          have hsize : U.cells.size = f.size := by
            rw [k1, hisz]
            cases hd : i.d.isAgg
            · rw [k5 hd]
              have h1 : i.z.one = true := by rw [hty.one, hd]; rfl
              have h2 := hty.size
              have h3 : vsize i.z = 1 := by
                generalize i.z = y at h1
                cases y <;> simp_all [V.one, vsize]
              omega
            · rw [k4 hd]
          have hci := (hget_eq h j c).1 hc
          rcases hs.live j c hci with ⟨_, sz, g, rfl⟩ | ⟨hvt, hnk, cs, t', hb, hle, hr⟩
          · cases p with
            | nil =>
              have h0 : i.sz = 0 := by
                have := hfit.1.1
                simp only [sub, fitB, Bool.and_eq_true, Nat.beq_eq, vsize, Nat.mul_zero] at this
                exact this.2
              have := hfit.2
              rw [h0] at this
              cases this
            | cons s p =>
              rcases okp_cases hp with ⟨l, k, off, he, _⟩ | ⟨sz', n, f', k, he, _, hkn, _⟩
              · cases he
              · cases he; omega
          · have hfits := sub_fits p c hp E _ 0 hr
            have hoff : poff p + U.cells.toList.length ≤ cs.size := by simp [k1, hsz]; omega
            have hst := run_storeCells_at (P := P) (E.ρ j) (poff p) t' U.cells.toList 0 cs E.w hb (by simpa using hoff) (fun v hv => k2 v (by simpa using hv))
            simp only [Nat.add_zero] at hst
            have hwr : Wrote E.w (E.w.setRow (E.ρ j) (putRow cs (poff p) U.cells.toList)) (E.ρ j) (putRow cs (poff p) U.cells.toList) t' := Wrote.setRow hb
            have hps := putRow_size hoff
            have hupd := upd_ok p c u (fun q => cs[q]?) (fun q => (putRow cs (poff p) U.cells.toList)[q]?) 0 hp hsz hr
              (fun q _ _ h3 => putRow_out hoff (by simp [k1]; omega))
              (R_shift u _ _ 0 _ (fun q hq => by
                show (putRow cs (poff p) U.cells.toList)[0 + poff p + q]? = U.cells[0 + q]?
                rw [Nat.zero_add, Nat.zero_add, putRow_in hoff (by simp [k1]; exact hq)]
                simp) k3)
            refine ⟨{ E with w := E.w.setRow (E.ρ j) (putRow cs (poff p) U.cells.toList) }, h.set j (some (upd c p u)), ?_, Wrote.ext hb hnk hps hwr, Wrote.wf hw hwr, wrote_ok hw hs hci hvt hb hnk hps hwr hupd.1 (by rw [hupd.2, hps]; exact hle), hk⟩
            simp only [Instr.storeAt, Instr.sureAddr, Sem.run_bind, Sem.run_pure, Result.andThen_ok, storeVar, sizeOf, typeInfo, run_program, hi, hsize, ne_eq, not_true, if_false, Sem.run_ite]
            exact hst
        · exact hk.elim
      · exact hl.elim
    · exact hl.elim

theorem fieldAddrD_ok (ht : TabOk P tb) {s : Nat} {x : V} {X : Value} {k : Nat} {κ : V → Prop} (hl : fieldAddrD tb s x k κ) (hx : T E x X) : ResP E κ ((Instr.fieldAt s X k).run P E.w) := by
  unfold fieldAddrD at hl
  split at hl
  · rename_i fs sz by_ z hg
    split at hl
    · rename_i off ft hk
      split at hl
      · rename_i fi hgf
        split at hl
        · exact hl.elim
        · rename_i hnz
          have hT := (ht.get hg).td
          simp only [tdOk] at hT
          split at hT
          · rename_i gs hu
            simp only [Bool.and_eq_true, beq_iff_eq] at hT
            replace hT := hT.1
            obtain ⟨f, hf, ho, hft⟩ : ∃ f, gs[k]? = some f ∧ f.offset = off ∧ f.type = ft := by
              rw [← hT, List.getElem?_map, Option.map_eq_some_iff] at hk
              obtain ⟨f, h1, h2⟩ := hk
              cases h2
              exact ⟨f, by simpa using h1, rfl, rfl⟩
            obtain ⟨g, z', hi, hsz, _⟩ := (ht.get hgf).info
            have hne : ¬ g.size = 0 := by rw [hsz]; intro h0; rw [h0] at hnz; cases hnz
            have hrun : ∀ b o, (Instr.fieldAt s (.pointer (some ⟨b, o, none⟩)) k).run P E.w = .ok (.pointer (some ⟨b, o + off, none⟩)) E.w := fun b o => by
              simp only [Instr.fieldAt, Sem.run_bind, run_underlying hu, Result.andThen_ok, hf, Instr.sureAddr, Sem.run_pure, fieldPlace, sizeOf, typeInfo, run_program, hft, hi, Sem.run_ite, if_neg hne, Addr.add_mid, ho]
            split at hl
            · rename_i j p
              obtain ⟨h1, rfl⟩ := T_ref.1 hx
              refine .mk _ _ (hrun _ _) (T_ref.2 ⟨h1, ?_⟩) hl
              simp [poff_append, poff, Step.off]
            · rename_i l vs
              split at hl
              · rename_i hb
                simp only [Bool.and_eq_true, Nat.beq_eq, Nat.blt_eq] at hb
                obtain ⟨b, o, rfl, h2, h3⟩ := T_pim.1 hx
                simp only [R] at h3
                have h4 := RL_get vs k _ _ hb.1 h3
                rw [hb.2] at h4
                exact .mk _ _ (hrun _ _) (T_pim.2 ⟨b, o + off, rfl, h2, h4⟩) hl
              · exact hl.elim
            · exact hl.elim
          · cases hT
      · exact hl.elim
    · exact hl.elim
  · exact hl.elim

theorem indexAddrD_ok (ht : TabOk P tb) {t : Nat} {x ix : V} {X I : Value} {κ : V → Prop} (hl : indexAddrD tb t x ix κ) (hx : T E x X) (hi : T E ix I) : ResP E κ ((Instr.indexAt t X I).run P E.w) := by
  unfold indexAddrD at hl
  split at hl
  · rename_i kd n
    obtain rfl := T_int.1 hi
    split at hl
    · rename_i e sz by_ z hg
      have hT := (ht.get hg).td
      simp only [tdOk] at hT
      split at hT
      · rename_i e' hu
        simp only [beq_iff_eq] at hT
        subst hT
        split at hl
        · rename_i ei hge
          obtain ⟨g, z', hie, hsz, _⟩ := (ht.get hge).info
          have hrun : ∀ (b o len cap : Nat), (0 ≤ n ∧ n < len) → (Instr.indexAt t (.slice (some ⟨b, o, none⟩) len cap) (.int kd n)).run P E.w = .ok (.pointer (some ⟨b, o + n.toNat * ei.sz, none⟩)) E.w := fun b o len cap hn => by
            have h1 : (match TypeDesc.slice e with | .array .. => true | _ => false) = false := rfl
            simp only [Instr.indexAt, asIntOf, Sem.run_bind, Sem.run_pure, Result.andThen_ok, run_underlying hu, if_pos hn, Sem.run_ite, sizeOf, typeInfo, run_program, hie, hsz, Addr.add_mid]
          split at hl
          · rename_i j p sz' lo len cap
            split at hl
            · rename_i hb
              simp only [Nat.beq_eq] at hb
              obtain ⟨hn, hk⟩ := hl
              obtain ⟨h1, a, cp, rfl, h3, h4, h5⟩ := T_sl.1 hx
              have hn := hn.out
              rcases h5 with h5 | ⟨_, rfl, _⟩
              · omega
              · refine .mk _ _ (hrun _ _ _ _ hn) (T_ref.2 ⟨h1, ?_⟩) hk
                simp only [poff_append, poff, Step.off, hb, Nat.add_mul, Nat.add_zero, Nat.add_assoc]
            · exact hl.elim
          · rename_i l sz' m f
            split at hl
            · rename_i hb
              simp only [Nat.beq_eq] at hb
              obtain ⟨hn, hk⟩ := hl
              have hn := hn.out
              obtain ⟨a, cp, rfl, h3, h4⟩ := T_imm.1 hx
              rcases h4 with h4 | ⟨b, off, rfl, h5, h6⟩
              · omega
              · refine .mk _ _ (hrun _ _ _ _ hn) (T_pim.2 ⟨b, off + n.toNat * ei.sz, rfl, h5, ?_⟩) hk
                rw [hb]
                exact (h6 n.toNat (by omega)).2
            · exact hl.elim
          · exact hl.elim
        · exact hl.elim
      · cases hT
    · rename_i m e sz by_ z hg
      have hT := (ht.get hg).td
      simp only [tdOk] at hT
      split at hT
      · rename_i m' e' hu
        simp only [Bool.and_eq_true, beq_iff_eq] at hT
        obtain ⟨rfl, rfl⟩ := hT
        split at hl
        · rename_i ei hge
          obtain ⟨g, z', hie, hsz, _⟩ := (ht.get hge).info
          have hrun : ∀ (b o : Nat), (0 ≤ n ∧ n < m) → (Instr.indexAt t (.pointer (some ⟨b, o, none⟩)) (.int kd n)).run P E.w = .ok (.pointer (some ⟨b, o + n.toNat * ei.sz, none⟩)) E.w := fun b o hn => by
            simp only [Instr.indexAt, asIntOf, Sem.run_bind, Sem.run_pure, Result.andThen_ok, run_underlying hu, Instr.sureAddr, if_pos hn, Sem.run_ite, sizeOf, typeInfo, run_program, hie, hsz, Addr.add_mid]
          split at hl
          · rename_i j p
            obtain ⟨hn, hk⟩ := hl
            obtain ⟨h1, rfl⟩ := T_ref.1 hx
            refine .mk _ _ (hrun _ _ hn.out) (T_ref.2 ⟨h1, ?_⟩) hk
            simp [poff_append, poff, Step.off]
          · rename_i l sz' m' f
            split at hl
            · rename_i hb
              simp only [Bool.and_eq_true, Nat.beq_eq] at hb
              obtain ⟨rfl, rfl⟩ := hb
              obtain ⟨hn, hk⟩ := hl
              have hn' := hn.out
              obtain ⟨b, o, rfl, h2, h3⟩ := T_pim.1 hx
              simp only [R] at h3
              exact .mk _ _ (hrun _ _ hn') (T_pim.2 ⟨b, o + n.toNat * ei.sz, rfl, h2, (h3 n.toNat (by omega)).2⟩) hk
            · exact hl.elim
          · exact hl.elim
        · exact hl.elim
      · cases hT
    · exact hl.elim
  · exact hl.elim

theorem cutAt_bound {v : Option V} {o : Option Value} {d : Int} {κ : Int → Prop} (h : cutAt v d κ) (ho : ∀ u, v = some u → ∃ U, o = some U ∧ T E u U) (hn : v = none → o = none) :
    ∃ n, κ n ∧ ((v = none ∧ o = none ∧ n = d) ∨ ∃ k, o = some (.int k n) ∧ v.isSome = true) := by
  unfold cutAt at h
  split at h
  · exact ⟨d, h, .inl ⟨rfl, hn rfl, rfl⟩⟩
  · rename_i k n
    obtain ⟨U, h1, h2⟩ := ho _ rfl
    exact ⟨n, h, .inr ⟨k, by rw [h1, T_int.1 h2], rfl⟩⟩
  · exact h.elim

/-- The bounds of a cut, worked out. -/
theorem sliceBounds_run {isS : Bool} {len cap : Nat} {lo hi mx : Option Value} {l r m : Int} (w : World)
    (hl : (lo = none ∧ l = 0) ∨ ∃ k, lo = some (.int k l)) (hr : (hi = none ∧ r = len ∧ mx = none) ∨ ∃ k, hi = some (.int k r)) (hm : (mx = none ∧ m = cap) ∨ ∃ k, mx = some (.int k m))
    (h0 : 0 ≤ l) (h1 : l ≤ r) (h2 : r ≤ m) (h3 : m ≤ cap) : (Instr.sliceBounds isS len cap lo hi mx).run P w = .ok (l.toNat, r.toNat, m.toNat) w := by
  have sb : ∀ (k : IntKind) (n : Int) (y : Nat) (code : BoundsCode), 0 ≤ n → n ≤ y → (Instr.sliceBound (.int k n) y code).run P w = .ok n.toNat w := fun k n y code ha hb => by
    simp only [Instr.sliceBound, asIntOf, Sem.run_bind, Sem.run_pure, Result.andThen_ok, if_pos (And.intro ha hb), Sem.run_ite]
  rcases hm with ⟨rfl, rfl⟩ | ⟨k2, rfl⟩
  · rcases hr with ⟨rfl, rfl, _⟩ | ⟨k, rfl⟩
    · rcases hl with ⟨rfl, rfl⟩ | ⟨k', rfl⟩
      · simp [Instr.sliceBounds]
      · simp [Instr.sliceBounds, sb k' l len _ h0 h1]
    · rcases hl with ⟨rfl, rfl⟩ | ⟨k', rfl⟩
      · simp [Instr.sliceBounds, sb k r cap _ (by omega) h2]
      · simp [Instr.sliceBounds, sb k r cap _ (by omega) h2, sb k' l r.toNat _ h0 (by omega)]
  · rcases hr with ⟨rfl, rfl, h⟩ | ⟨k, rfl⟩
    · cases h
    · rcases hl with ⟨rfl, rfl⟩ | ⟨k', rfl⟩
      · simp [Instr.sliceBounds, sb k2 m cap _ (by omega) h3, sb k r m.toNat _ (by omega) (by omega)]
      · simp [Instr.sliceBounds, sb k2 m cap _ (by omega) h3, sb k r m.toNat _ (by omega) (by omega), sb k' l r.toNat _ h0 (by omega)]


def OptT (E : Env) (v : Option V) (o : Option Value) : Prop := (v = none ∧ o = none) ∨ ∃ u U, v = some u ∧ o = some U ∧ T E u U
theorem cutAt_get {v : Option V} {o : Option Value} {d : Int} {κ : Int → Prop} (h : cutAt v d κ) (ho : OptT E v o) :
    ∃ n, κ n ∧ ((v = none ∧ o = none ∧ n = d) ∨ (v.isNone = false ∧ ∃ k, o = some (.int k n))) := by
  rcases ho with ⟨rfl, rfl⟩ | ⟨u, U, rfl, rfl, hu⟩
  · exact ⟨d, h, .inl ⟨rfl, rfl, rfl⟩⟩
  · unfold cutAt at h
    split at h
    · rename_i hh; cases hh
    · rename_i k n hh
      cases hh
      obtain rfl := T_int.1 hu
      exact ⟨n, h, .inr ⟨rfl, k, rfl⟩⟩
    · exact h.elim

theorem imm_cut {l : Bool} {sz n : Nat} {f : Nat → V} {b off p q : Nat} (hfoot : E.foot l b) (h : ∀ k, k < n → vsize (f k) = sz ∧ R E.bare (f k) (cellsAt E.w b) (off + k * sz)) (hq : p + q ≤ n) {a : Option Addr} {cp : Nat} (hcp : q ≤ cp) (ha : q ≠ 0 → a = some ⟨b, off + p * sz, none⟩) :
    T E (.imm l sz q fun k => f (p + k)) (.slice a q cp) := by
  refine T_imm.2 ⟨a, cp, rfl, hcp, ?_⟩
  rcases Nat.eq_zero_or_pos q with h0 | h0
  · exact .inl h0
  · refine .inr ⟨b, off + p * sz, ha (by omega), hfoot, fun k hk => ?_⟩
    have := h (p + k) (by omega)
    refine ⟨this.1, ?_⟩
    have h3 := this.2
    rw [Nat.add_mul, ← Nat.add_assoc] at h3
    exact h3

theorem sliceD_ok (ht : TabOk P tb) {h : List (Option V)} (hS : SimH E h) {t : Nat} {x : V} {X : Value} {lo hi mx : Option V} {lo' hi' mx' : Option Value} {κ : V → Prop} (hs : sliceD tb t x lo hi mx h κ) (hx : T E x X) (hl : OptT E lo lo') (hh : OptT E hi hi') (hm : OptT E mx mx') :
    ResP E κ ((Instr.sliceAt t X lo' hi' mx').run P E.w) := by
  unfold sliceD at hs
  split at hs
  · exact hs.elim
  rename_i hmh
  obtain ⟨l, hs, hlo⟩ := cutAt_get hs hl
  have hlo : (lo' = none ∧ l = 0) ∨ ∃ k, lo' = some (.int k l) := hlo.imp (fun h => ⟨h.2.1, h.2.2⟩) (fun h => h.2)
  have hmx : mx = none → mx' = none := fun h => by
    rcases hm with ⟨_, h2⟩ | ⟨u, U, h1, _⟩
    · exact h2
    · rw [h] at h1; cases h1
  have hhi : ∀ {d r : Int}, ((hi = none ∧ hi' = none ∧ r = d) ∨ (hi.isNone = false ∧ ∃ k, hi' = some (.int k r))) → ((hi' = none ∧ r = d ∧ mx' = none) ∨ ∃ k, hi' = some (.int k r)) := fun h => by
    rcases h with ⟨h1, h2, h3⟩ | ⟨_, h2⟩
    · refine .inl ⟨h2, h3, hmx ?_⟩
      subst h1
      cases mx with
      | none => rfl
      | some u => simp at hmh
    · exact .inr h2
  split at hs
  · rename_i e sz by_ z hg
    have hT := (ht.get hg).td
    simp only [tdOk] at hT
    split at hT
    · rename_i e' hu
      simp only [beq_iff_eq] at hT
      subst hT
      split at hs
      · rename_i ei hge
        obtain ⟨g, z', hie, hsz, _⟩ := (ht.get hge).info
        have hrun : ∀ (a : Option Addr) (len cap : Nat) (r m : Int), ((hi' = none ∧ r = len ∧ mx' = none) ∨ ∃ k, hi' = some (.int k r)) → ((mx' = none ∧ m = cap) ∨ ∃ k, mx' = some (.int k m)) → 0 ≤ l → l ≤ r → r ≤ m → m ≤ cap →
            (Instr.sliceAt t (.slice a len cap) lo' hi' mx').run P E.w = .ok (.slice (if m.toNat = l.toNat then a else a.map (·.add (l.toNat * ei.sz))) (r.toNat - l.toNat) (m.toNat - l.toNat)) E.w := fun a len cap r m h1 h2 h3 h4 h5 h6 => by
          simp only [Instr.sliceAt, Instr.slice, Sem.run_bind, run_underlying hu, Result.andThen_ok, sliceBounds_run (isS := true) E.w hlo h1 h2 h3 h4 h5 h6, sizeOf, typeInfo, run_program, hie, Sem.run_pure, hsz]
        split at hs
        · rename_i j p sz' l0 len cap _
          split at hs
          · rename_i hb
            simp only [Nat.beq_eq] at hb
            obtain ⟨r, hs, hr⟩ := cutAt_get hs hh
            obtain ⟨m, hs, hm'⟩ := cutAt_get hs hm
            obtain ⟨hob, hk⟩ := hs
            obtain ⟨g1, g2, g3, g4⟩ := hob.out
            obtain ⟨h1, a, cp, rfl, h3, h4, h5⟩ := T_sl.1 hx
            have hcase : ∃ M : Int, ((mx' = none ∧ M = cp) ∨ ∃ k, mx' = some (.int k M)) ∧ m ≤ M ∧ M ≤ cp := by
              rcases hm' with ⟨_, h6, rfl⟩ | ⟨_, h6⟩
              · exact ⟨cp, .inl ⟨h6, rfl⟩, by omega, by omega⟩
              · exact ⟨m, .inr h6, by omega, by omega⟩
            obtain ⟨M, hM, hM1, hM2⟩ := hcase
            refine .mk _ _ (hrun a len cp r M (hhi hr) hM g1 g2 (by omega) hM2) (T_sl.2 ⟨h1, _, _, rfl, by omega, by omega, ?_⟩) hk
            rcases h5 with h5 | ⟨k1, rfl, cs, t', fr, k2, k3⟩
            · exact .inl (by omega)
            · by_cases hz : M.toNat = l.toNat
              · exact .inl (by omega)
              · refine .inr ⟨k1, ?_, cs, t', fr, k2, ?_⟩
                · rw [if_neg hz]
                  simp only [Option.map_some, Addr.add_mid, hb, Nat.add_mul, Nat.add_assoc]
                · refine Nat.le_trans ?_ k3
                  have : (l0 + l.toNat + (M.toNat - l.toNat)) * sz' ≤ (l0 + cp) * sz' := Nat.mul_le_mul_right _ (by omega)
                  omega
          · exact hs.elim
        · rename_i b sz' n f _
          split at hs
          · rename_i hb
            simp only [Nat.beq_eq] at hb
            obtain ⟨r, hs, hr⟩ := cutAt_get hs hh
            obtain ⟨a, cp, rfl, h3, h4⟩ := T_imm.1 hx
            split at hs
            · obtain ⟨hob, hk⟩ := hs
              obtain ⟨g1, g2, g3⟩ := hob.out
              have := hrun a n cp r cp (hhi hr) (.inl ⟨hmx rfl, rfl⟩) g1 g2 (by omega) (by omega)
              refine .mk _ _ this ?_ hk
              rcases h4 with rfl | ⟨b', off, rfl, h5, h6⟩
              · refine T_imm.2 ⟨_, _, rfl, by omega, .inl (by omega)⟩
              · refine imm_cut h5 h6 (by omega) (by omega) (fun hne => ?_)
                rw [if_neg (by omega)]
                simp only [Option.map_some, Addr.add_mid, hb]
            · rename_i mv
              obtain ⟨m, hs, hm'⟩ := cutAt_get hs hm
              obtain ⟨hob, hk⟩ := hs
              obtain ⟨g1, g2, g3, g4⟩ := hob.out
              have hm2 : ∃ k, mx' = some (.int k m) := by
                rcases hm' with ⟨h, _⟩ | ⟨_, h⟩
                · cases h
                · exact h
              have := hrun a n cp r m (hhi hr) (.inr hm2) g1 (by omega) (by omega) (by omega)
              rw [show r.toNat - l.toNat = 0 by omega, show m.toNat - l.toNat = 0 by omega] at this
              exact .mk _ _ this (T_emp.2 ⟨_, rfl⟩) hk
          · exact hs.elim
        · obtain ⟨r, hs, hr⟩ := cutAt_get hs hh
          obtain ⟨m, hs, hm'⟩ := cutAt_get hs hm
          obtain ⟨hob, hk⟩ := hs
          obtain ⟨g1, g2, g3⟩ := hob.out
          obtain ⟨a, rfl⟩ := T_emp.1 hx
          have hm2 : (mx' = none ∧ m = ((0 : Nat) : Int)) ∨ ∃ k, mx' = some (.int k m) := hm'.imp (fun h => ⟨h.2.1, h.2.2⟩) (fun h => h.2)
          have := hrun a 0 0 r m (hhi hr) hm2 (by omega) (by omega) (by omega) (by omega)
          rw [show r.toNat - l.toNat = 0 by omega, show m.toNat - l.toNat = 0 by omega] at this
          exact .mk _ _ this (T_emp.2 ⟨_, rfl⟩) hk
        · exact hs.elim
      · exact hs.elim
    · cases hT
  · rename_i sz by_ z hg
    have hT := (ht.get hg).td
    simp only [tdOk] at hT
    split at hT
    · rename_i hu
      split at hs
      · rename_i s _
        obtain ⟨r, hs, hr⟩ := cutAt_get hs hh
        obtain ⟨hob, hk⟩ := hs
        obtain ⟨g1, g2, g3⟩ := hob.out
        obtain rfl := T_str.1 hx
        have hmn := hmx rfl
        subst hmn
        have hlen : (ByteArray.mk s.toArray).size = s.length := by simp [ByteArray.size]
        have hsb := sliceBounds_run (P := P) (isS := false) (len := s.length) (cap := s.length) (mx := none) (m := s.length) E.w hlo (hhi hr) (.inl ⟨rfl, rfl⟩) g1 g2 g3 (Int.le_refl _)
        refine .mk (.string ((ByteArray.mk s.toArray).extract l.toNat r.toNat)) _ ?_ (T_str.2 ?_) hk
        · simp only [Instr.sliceAt, Instr.slice, Sem.run_bind, run_underlying hu, Result.andThen_ok, hlen, Option.isSome_none, Bool.false_eq_true, if_false, Sem.run_pure, hsb]
        · congr 1
          apply ByteArray.ext
          simp [ByteArray.data_extract]
      · exact hs.elim
    · cases hT
  · rename_i n e sz by_ z hg
    have hT := (ht.get hg).td
    simp only [tdOk] at hT
    split at hT
    · rename_i n' e' hu
      simp only [Bool.and_eq_true, beq_iff_eq] at hT
      obtain ⟨rfl, rfl⟩ := hT
      split at hs
      · rename_i ei hge
        obtain ⟨g, z', hie, hsz, _⟩ := (ht.get hge).info
        have hrun : ∀ (a : Addr) (r m : Int), ((hi' = none ∧ r = n ∧ mx' = none) ∨ ∃ k, hi' = some (.int k r)) → ((mx' = none ∧ m = n) ∨ ∃ k, mx' = some (.int k m)) → 0 ≤ l → l ≤ r → r ≤ m → m ≤ n →
            (Instr.sliceAt t (.pointer (some a)) lo' hi' mx').run P E.w = .ok (.slice (some (if m.toNat = l.toNat then a else a.add (l.toNat * ei.sz))) (r.toNat - l.toNat) (m.toNat - l.toNat)) E.w := fun a r m h1 h2 h3 h4 h5 h6 => by
          simp only [Instr.sliceAt, Sem.run_bind, run_underlying hu, Result.andThen_ok, Instr.sureAddr, Sem.run_pure, sliceBounds_run (isS := false) E.w hlo h1 h2 h3 h4 h5 h6, sizeOf, typeInfo, run_program, hie, hsz]
        split at hs
        · rename_i j p _
          split at hs
          · exact hs.elim
          · rename_i c hc
            obtain ⟨hp, hs⟩ := okq_okp p c _ hs
            split at hs
            · rename_i sz' n' f hsub
              split at hs
              · rename_i hb
                simp only [Bool.and_eq_true, Nat.beq_eq] at hb
                obtain ⟨rfl, rfl⟩ := hb
                obtain ⟨r, hs, hr⟩ := cutAt_get hs hh
                obtain ⟨m, hs, hm'⟩ := cutAt_get hs hm
                obtain ⟨hob, hk⟩ := hs
                obtain ⟨g1, g2, g3, g4⟩ := hob.out
                obtain ⟨h1, rfl⟩ := T_ref.1 hx
                have hm2 : (mx' = none ∧ m = n') ∨ ∃ k, mx' = some (.int k m) := hm'.imp (fun h => ⟨h.2.1, h.2.2⟩) (fun h => h.2)
                refine .mk _ _ (hrun _ r m (hhi hr) hm2 g1 g2 g3 g4) (T_sl.2 ⟨h1, _, _, rfl, by omega, Nat.le_refl _, ?_⟩) hk
                rcases hS.live j c ((hget_eq h j c).1 hc) with ⟨_, sz0, g, rfl⟩ | ⟨hvt, _, cs, t', hb, hle, hr'⟩
                · cases p with
                  | nil =>
                    simp only [sub, V.row.injEq] at hsub
                    obtain ⟨_, rfl, _⟩ := hsub
                    exact .inl (by omega)
                  | cons s p =>
                    rcases okp_cases hp with ⟨l, k, off, he, _⟩ | ⟨sz', n, f', k, he, _, hkn, _⟩
                    · cases he
                    · cases he; omega
                · by_cases hz : m.toNat = l.toNat
                  · exact .inl (by omega)
                  · refine .inr ⟨hvt, by rw [if_neg hz, Addr.add_mid], cs, t', _, hb, ?_⟩
                    have hfit := sub_fits p c hp E _ 0 hr'
                    rw [hsub] at hfit
                    simp only [vsize] at hfit
                    have : (l.toNat + (m.toNat - l.toNat)) * ei.sz ≤ ei.sz * n' := by
                      rw [Nat.mul_comm ei.sz]; exact Nat.mul_le_mul_right _ (by omega)
                    omega
              · exact hs.elim
            · exact hs.elim
        · rename_i b sz' n' f _
          split at hs
          · rename_i hb
            simp only [Bool.and_eq_true, Nat.beq_eq] at hb
            obtain ⟨hb, rfl⟩ := hb
            obtain ⟨r, hs, hr⟩ := cutAt_get hs hh
            split at hs
            · obtain ⟨hob, hk⟩ := hs
              obtain ⟨g1, g2, g3⟩ := hob.out
              obtain ⟨b', off, rfl, h5, h6⟩ := T_pim.1 hx
              simp only [R] at h6
              refine .mk _ _ (hrun _ r n' (hhi hr) (.inl ⟨hmx rfl, rfl⟩) g1 g2 (by omega) (by omega)) ?_ hk
              refine imm_cut h5 h6 (by omega) (by omega) (fun hne => ?_)
              rw [if_neg (by omega), Addr.add_mid, hb]
            · exact hs.elim
          · exact hs.elim
        · exact hs.elim
      · exact hs.elim
    · cases hT
  · exact hs.elim
end
end Go.DD
