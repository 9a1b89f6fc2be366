/- Append, copy, conversions, lengths, and the rest that an operation may be. -/
import Derived.Test.YtaekeldgnlphkaaD9
namespace Go.DD
set_option linter.unusedVariables false
open Go.RowKit
section
variable {P : Program} {tb : List (Option TI)} {E : Env}

theorem SimH.replace {h : List (Option V)} (hs : SimH E h) {i : Nat} {v v' : V} (hi : h[i]? = some (some v)) (hl : Live E v' i) : SimH E (h.set i (some v')) where
  len := by simpa using hs.len
  live := fun j u hj => by
    rw [List.getElem?_set] at hj
    split at hj
    · rename_i e
      split at hj
      · simp at hj; subst hj; subst e; exact hl
      · cases hj
    · exact hs.live j u hj
  inj := fun j k u u' hj hk => by
    have keep : ∀ j u, (h.set i (some v'))[j]? = some (some u) → ∃ u', h[j]? = some (some u') := fun j u hj => by
      rw [List.getElem?_set] at hj
      split at hj
      · rename_i e; subst e; exact ⟨v, hi⟩
      · exact ⟨u, hj⟩
    obtain ⟨a, ha⟩ := keep j u hj
    obtain ⟨b, hb⟩ := keep k u' hk
    exact hs.inj j k a b ha hb

theorem roomD_ok (ht : TabOk P tb) (hw : Wf E) {h : List (Option V)} (hs : SimH E h) {t e tx ty : Nat} {ei : TI} (hu : P.underlying t = some (.slice e)) (hge : getT tb e = some ei) {m : Nat} {g : Nat → V} {news : List Value} {Y B : Value} {base : V} {κ : V → List (Option V) → Prop}
    (hsrc : Src P ei.sz tx Y m news E.w) (hg : ∀ k, k < m → vsize (g k) = ei.sz ∧ R E (g k) (fun q => news[q]?) (k * ei.sz)) (hB : T E base B) (hd : roomD ei base m g h κ) :
    ResH E κ ((Builtin.append_ #[t, tx] ty #[B, Y]).run P E.w) := by
  obtain ⟨i, z, hi, hsz, hby, hz, _, hzs⟩ := (ht.get hge).info
  have hsrc' : Src P i.size tx Y m news E.w := by rw [hsz]; exact hsrc
  have hnl : news.length = m * ei.sz := hsrc.newsLen
  unfold roomD at hd
  split at hd
  · rename_i j sz lo len cap
    split at hd
    · rename_i sz' n f hc
      split at hd
      · rename_i hb
        simp only [Bool.and_eq_true, Nat.beq_eq] at hb
        obtain ⟨rfl, rfl⟩ := hb
        obtain ⟨hob, hk⟩ := hd
        obtain ⟨hb1, hb2⟩ := hob.out
        obtain ⟨hjN, A, cp, rfl, h2, h3, h4⟩ := T_sl.1 hB
        have hcj := (hget_eq h j _).1 hc
        rcases Nat.eq_zero_or_pos cp with rfl | hcp
        · have hm0 : m = 0 := by omega
          have hl0 : len = 0 := by omega
          subst hm0
          subst hl0
          have hnil : news = [] := List.eq_nil_of_length_eq_zero (by rw [hnl, Nat.zero_mul])
          subst hnil
          refine ⟨.slice A 0 0, E, _, _, run_append_nothing E.w t tx ty e i hu hi A 0 0 (Nat.le_refl _) Y hsrc', Ext.refl E, hw, hs.replace hcj ?_, T_sl.2 ⟨hjN, A, 0, rfl, by omega, by omega, .inl rfl⟩, hk⟩
          rcases hs.live j _ hcj with ⟨h5, sz0, f0, h6⟩ | ⟨h5, h6, cs, t', h7, h8, h9⟩
          · cases h6
            exact .inl ⟨h5, _, _, rfl⟩
          · refine .inr ⟨h5, h6, cs, t', h7, h8, ?_⟩
            simp only [R] at h9 ⊢
            intro k hk'
            rw [if_neg (by omega)]
            exact h9 k hk'
        · rcases h4 with h4 | ⟨hvt, rfl, cs0, t0, fr, hcs0, hbound⟩
          · omega
          · rcases hs.live j _ hcj with ⟨h5, _⟩ | ⟨_, hnk, cs, t', hbk, hle, hr⟩
            · rw [h5] at hvt; cases hvt
            · simp only [vsize] at hle
              simp only [R] at hr
              have hle' : (lo + len + m) * ei.sz ≤ cs.size := Nat.le_trans (by rw [Nat.mul_comm ei.sz n]; exact Nat.mul_le_mul_right _ hb2) hle
              have hfit : (lo + len) * ei.sz + news.length ≤ cs.size := by rw [hnl, ← Nat.add_mul]; exact hle'
              have hoff : poff [] + lo * ei.sz + len * i.size = (lo + len) * ei.sz := by simp only [poff, hsz, Nat.add_mul, Nat.zero_add]
              have hrun := run_append_room_src E.w t tx ty e i hu hi (E.ρ j) (poff [] + lo * ei.sz) len cp Y m news hsrc' (by omega) (fun q hq => by
                have : E.w.cell? ⟨E.ρ j, poff [] + lo * ei.sz + len * i.size + q, none⟩ = cs[(lo + len) * ei.sz + q]? := by rw [hoff]; simp [World.cell?, hbk]
                simp only [this, Array.getElem?_eq_getElem (show (lo + len) * ei.sz + q < cs.size by omega), Option.isSome_some]) (fun q hq => by simp [World.frozen?, hbk])
              rw [hoff, setCells_eq hbk hfit hsrc.one] at hrun
              have hwr : Wrote E.w (E.w.setRow (E.ρ j) (putRow cs ((lo + len) * ei.sz) news)) (E.ρ j) (putRow cs ((lo + len) * ei.sz) news) t' := Wrote.setRow hbk
              have hps := putRow_size hfit
              have hR : R E (.row ei.sz n fun k => if lo + len ≤ k ∧ k < lo + len + m then g (k - (lo + len)) else f k) (fun q => (putRow cs ((lo + len) * ei.sz) news)[q]?) 0 := by
                simp only [R]
                intro k hk'
                by_cases hin : lo + len ≤ k ∧ k < lo + len + m
                · rw [if_pos hin]
                  have hkm : k - (lo + len) < m := by omega
                  have h1 : (k - (lo + len)) * ei.sz + ei.sz ≤ m * ei.sz := by rw [← Nat.succ_mul]; exact Nat.mul_le_mul_right _ hkm
                  have h2 : k * ei.sz = (lo + len) * ei.sz + (k - (lo + len)) * ei.sz := by rw [← Nat.add_mul]; congr 1; omega
                  refine ⟨(hg _ hkm).1, R_shift (g (k - (lo + len))) _ _ ((k - (lo + len)) * ei.sz) _ (fun q hq => ?_) (hg _ hkm).2⟩
                  rw [(hg _ hkm).1] at hq
                  show (putRow cs ((lo + len) * ei.sz) news)[0 + k * ei.sz + q]? = _
                  rw [Nat.zero_add, h2, Nat.add_assoc, putRow_in hfit (by omega)]
                · rw [if_neg hin]
                  refine ⟨(hr k hk').1, R_local (fun q h1 h2 => ?_) (hr k hk').2⟩
                  rw [(hr k hk').1] at h2
                  refine putRow_out hfit ?_
                  rw [hnl, ← Nat.add_mul]
                  rcases Nat.lt_or_ge k (lo + len) with hlt | hge'
                  · have : k * ei.sz + ei.sz ≤ (lo + len) * ei.sz := by rw [← Nat.succ_mul]; exact Nat.mul_le_mul_right _ hlt
                    omega
                  · have : (lo + len + m) * ei.sz ≤ k * ei.sz := Nat.mul_le_mul_right _ (by omega)
                    omega
              have hz' : vsize (.row ei.sz n fun k => if lo + len ≤ k ∧ k < lo + len + m then g (k - (lo + len)) else f k) ≤ (putRow cs ((lo + len) * ei.sz) news).size := by
                simp only [vsize]; rw [hps]; exact hle
              have hx := Wrote.ext hbk hnk hps hwr
              have e1 := hbk.symm.trans hcs0
              injection e1 with e1
              injection e1 with e1 e2 e3
              subst e1
              refine ⟨_, { E with w := E.w.setRow (E.ρ j) (putRow cs ((lo + len) * ei.sz) news) }, _, _, hrun, hx, Wrote.wf hw hwr, wrote_ok hw hs hcj hvt hbk hnk hps hwr hR hz', T_sl.2 ⟨hjN, _, cp, rfl, hb1, h3, .inr ⟨hvt, rfl, _, t', (0, 0), hwr.here, ?_⟩⟩, hk⟩
              rw [hps]; exact hbound
      · exact hd.elim
    · exact hd.elim
  · exact hd.elim

theorem appendD_ok (ht : TabOk P tb) (hw : Wf E) {h : List (Option V)} (hs : SimH E h) {t tx ty : Nat} {Y B : Value} {base y : V} {κ : V → List (Option V) → Prop} (hB : T E base B) (hY : T E y Y) (hd : appendD tb t tx base y h κ) :
    ResH E κ ((Builtin.append_ #[t, tx] ty #[B, Y]).run P E.w) := by
  unfold appendD at hd
  split at hd
  · rename_i e sz by_ z ti hg hgx
    split at hd
    · rename_i ei hk hge
      have hT := (ht.get hg).td
      simp only [tdOk] at hT
      split at hT
      · rename_i e' hu
        simp only [beq_iff_eq] at hT
        subst hT
        obtain ⟨m, g, news, hd, hsrc, hR⟩ := srcD_ok ht hw hs hgx hk hd hY
        rcases hd with hd | hd
        · exact growD_ok ht hw hs hu hge hsrc hR hB hd
        · exact roomD_ok ht hw hs hu hge hsrc hR hB hd
      · cases hT
    · exact hd.elim
  · exact hd.elim
end
end Go.DD
