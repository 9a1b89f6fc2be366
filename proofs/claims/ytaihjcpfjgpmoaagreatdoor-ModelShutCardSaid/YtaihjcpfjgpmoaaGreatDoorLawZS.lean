/- ModelShut: the body is true. -/
import Derived.Test.YtaihjcpfjgpmoaaGreatDoorZG
import Derived.Test.YtaihjcpfjgpmoaaGreatDoorZE
import Derived.Test.YtaihjcpfjgpmoaaGreatDoorZC
namespace Go.Proofs.YtaihjcpfjgpmoaaGreatDoor
set_option linter.unusedVariables false
set_option linter.unusedSimpArgs false
set_option maxRecDepth 100000
open Go Go.DD
structure ShA where
  s : List UInt8
  a : Fds
  o : Ent
structure ShOk (x : ShA) : Prop where
  s : x.s.length = 32
  l : tyL x.a
def F4 : FSpec := mkG (fun (x : ShA) => [arrV 32 x.s, fdsV x.a.b x.a.n x.a.l, opV x.o]) ShOk (fun _ => true) .bool
theorem okVF_of {f : Fd} (hp : preF f) (ho : okFd f) : okVF f :=
  ⟨hp.1, by have := ho.1; omega, fun k hk => ⟨(hp.2.1 k hk).1, by have : (f.es k).val.length ≤ 1000000 := ho.2.1 k hk; omega⟩, ⟨hp.2.2.1.1, by have : f.pf.a.val.length ≤ 1000000 := ho.2.2.1; omega⟩, ⟨hp.2.2.2.1, by have : f.pf.b.val.length ≤ 1000000 := ho.2.2.2; omega⟩⟩
theorem eqEs_self (n : Nat) (es : Nat → Ent) : eqEs n es n es = true := by
  simp only [eqEs, allB, Bool.and_eq_true, decide_eq_true_eq, List.all_eq_true]
  exact ⟨trivial, fun k _ => eqE_iff.2 rfl⟩
theorem eqF_self (f : Fd) : eqF f f = true := by
  simp [eqF, eqEs_self, eqP, eqE_iff.2]
/-- What a put that was taken did. -/
theorem putR_ok {x : PtA} (h : (putR x).2.2 = 0) : (putR x).1 = x.a.n ∧ ∃ k, (0 ≤ findR x.a.l x.a.n (pubO x.s) ∧ k = (findR x.a.l x.a.n (pubO x.s)).toNat) ∧ feedsOk x.a.n x.a.l = true ∧ opOk x.o = true ∧ (nextR x.nx).2 = 0 ∧ x.nx.k = k ∧ (putR x).2.1 = fun j => if j = k then pushF (x.a.l k) (nextR x.nx).1 else x.a.l j := by
  unfold putR at *
  split at h
  · cases h
  · split at h
    · cases h
    · split at h
      · cases h
      · split at h
        · rename_i g
          exact absurd h g.2
        · split at h
          · rename_i g
            exact absurd h g
          · rename_i g1 g2 g3 g4 g5
            rw [if_neg g1, if_neg g2, if_neg g3, if_neg g4, if_neg g5]
            exact ⟨rfl, _, ⟨by omega, rfl⟩, by simpa using g1, by simpa using g3, by simpa using g5, rfl, rfl⟩
theorem putR_no {x : PtA} (h : (putR x).2.2 ≠ 0) : (putR x).1 = 0 := by
  unfold putR at *
  split
  · rfl
  · split
    · rfl
    · split
      · rfl
      · split
        · rfl
        · split
          · rfl
          · rename_i g1 g2 g3 g4 g5
            rw [if_neg g1, if_neg g2, if_neg g3, if_neg g4, if_neg g5] at h
            exact absurd rfl h
/-- How many of the first feeds are not as they were. -/
def grewN (k : Nat) (i : Nat) : Int := if k < i then 1 else 0
theorem f4_ok : FOk Tryz.prog G 4 F4 := mkG_ok fun ⟨s, a, o⟩ ⟨hs, hl⟩ => by
  replace hs : s.length = 32 := hs
  replace hl : tyL a := hl
  have hΓ := ctxG_ok Tryz.f4.ntmps [(8, F16), (9, Fput), (10, F41), (7, F17)] [] [] (.cons (f16_ok) (.cons (fput_ok) (.cons (f41_ok.g) (.cons (f17_ok) .nil)))) .nil
  refine CP_of_OK hΓ Tryz.func4 (c := bodyOf Tryz.f4) rfl (by decide) rfl rfl (by simp) (vc_ok hΓ mixed 1000 _ [] _ (by kernel_rfl) rfl ?_)
  conv => whnf
  repeat' (first | (refine And.intro (fun _ => ?_) (fun _ => ?_) <;> conv => whnf) | (refine And.intro ?_ ?_ <;> conv => whnf))
  all_goals first
    | exact Ld.refl _
    | skip
  refine ⟨a, ⟨AE.refl _, trivial⟩, ⟨hl⟩, ?_⟩
  intro r hr
  replace hr : r = feedsOk a.n a.l := hr
  conv => whnf
  refine And.intro (fun h5 => ?_) (fun h5 => ?_) <;> conv => whnf
  · exact Ld.refl _
  have hf : feedsOk a.n a.l = true := by rw [← hr]; cases r <;> simp_all
  clear hr h5
  obtain ⟨n1, n8, hlook⟩ := feedsOk_look hf
  have hpre : ∀ k, k < a.n → preF (a.l k) := fun k hk => (hl k hk).1
  have hokv : ∀ k, k < a.n → okVF (a.l k) := fun k hk => okVF_of (hpre k hk) (okFd_look (hpre k hk) (hlook k hk))
  conv => whnf
  conv => whnf
  repeat' (refine And.intro ?_ ?_ <;> conv => whnf)
  all_goals try first | exact ⟨rfl⟩ | exact ⟨⟨rfl, rfl⟩⟩ | exact ⟨⟨rfl, rfl, rfl⟩⟩ | exact ⟨fun _ _ => rfl⟩ | exact ⟨fun _ _ => trivial⟩ | exact ⟨fun k _ => isU8_bf _ k⟩ | exact ⟨by omega⟩ | exact ⟨⟨by omega, by omega⟩⟩ | exact ⟨⟨by omega, by omega, by omega⟩⟩ | exact ⟨fun _ _ => trivial⟩ | exact ⟨fun _ _ => rfl⟩
  refine ⟨⟨s, a, o⟩, ⟨AE.refl _, AE.refl _, AE.refl _, AE.refl _, trivial⟩, ⟨hs, hpre⟩, ?_⟩
  intro q hq
  replace hq : q = putR ⟨s, a, o⟩ := hq
  conv => whnf
  refine And.intro (fun h6 => ?_) (fun h6 => ?_) <;> conv => whnf
  · have h0 : (putR ⟨s, a, o⟩).2.2 = 0 := by rw [← hq]; simpa using h6
    obtain ⟨e1, k, ⟨hk0, hk1⟩, -, ho, hnx, hnk, e2⟩ := putR_ok h0
    rw [← hq] at e1 e2
    obtain ⟨qn, qm, qe⟩ := q
    simp only at e1 e2
    subst e1
    have hfl := findN_lt (l := a.l) (author := pubO s) a.n 0
    replace hfl : k < a.n ∧ (a.l k).author = pubO s := by
      rcases hfl with h | ⟨_, h2, h3⟩
      · exact absurd (show 0 ≤ findN a.l (pubO s) a.n 0 from hk0) (by omega)
      · refine ⟨?_, ?_⟩
        · have : k = (findN a.l (pubO s) a.n 0).toNat := hk1
          omega
        · rw [show k = (findN a.l (pubO s) a.n 0).toNat from hk1]; exact h3
    have hnxo : NxOk (PtA.nx ⟨s, a, o⟩) := ⟨hs, hpre, hf, by rw [hnk]; exact hfl.1, ho⟩
    have hps := sign_ps hnxo hnx (by rw [hnk]; exact hfl.2)
    rw [hnk] at hps
    generalize (nextR (PtA.nx ⟨s, a, o⟩)).1 = e at hps e2
    replace hps : PsOk ⟨a.l k, e⟩ := hps
    have hok := okFd_look (hpre k hfl.1) (hlook k hfl.1)
    have hlk := (look_ents (hlook k hfl.1)).1
    have hsh : (a.l k).shut = false := hps.opn
    have hev := (entOk_len hps.ent).2.1
    have hqk : ∀ i, i < a.n → okVF (qm i) := fun i hi => by
      rw [e2]
      show okVF (if i = k then pushF (a.l k) e else a.l i)
      split
      · refine ⟨(hpre k hfl.1).1, by show (a.l k).n + 1 ≤ 1000000; omega, fun j hj => ?_, (hokv k hfl.1).2.2.2⟩
        show okV (if j < (a.l k).n then (a.l k).es j else e)
        split
        · rename_i hj2
          exact (hokv k hfl.1).2.2.1 j hj2
        · exact ⟨hps.pe.1, by have : e.val.length ≤ 40 := hev; omega⟩
      · exact hokv i hi
    have hqn : ∀ i, i ≠ k → qm i = a.l i := fun i hi => by rw [e2]; exact if_neg hi
    have hqs : qm k = pushF (a.l k) e := by rw [e2]; exact if_pos rfl
    have hqe : ∀ i, eqF (qm i) (a.l i) = decide (i ≠ k) := fun i => by
      by_cases hi : i = k
      · subst hi
        rw [hqs, decide_eq_false (by simp)]
        cases hq : eqF (pushF (a.l i) e) (a.l i)
        · rfl
        · simp only [eqF, eqEs, Bool.and_eq_true, decide_eq_true_eq] at hq
          have h9 : (a.l i).n + 1 = (a.l i).n := hq.1.1.2.1
          omega
      · rw [hqn i hi, eqF_self, decide_eq_true hi]
    clear hq h6 h0 e2 hk0 hk1 hnk hnx hnxo
    refine OK_loopC (ι := Nat) (fun i => [(1, fdsV a.b a.n a.l), (7, fdsV false a.n qm), (9, .int .i64 (grewN k i)), (10, .int .i64 (i : Nat))]) (fun i => []) (fun i => i ≤ a.n) (fun i => a.n - i) 0 [] ?_ (fun i hi => vc_ok hΓ mixed 1000 _ [] _ (by kernel_rfl) rfl ?_)
    · conv => whnf
      repeat' (first | (refine And.intro (fun _ => ?_) (fun _ => ?_) <;> conv => whnf) | (refine And.intro ?_ ?_ <;> conv => whnf))
      all_goals try first | exact ⟨rfl⟩ | exact ⟨⟨rfl, rfl⟩⟩ | exact ⟨⟨rfl, rfl, rfl⟩⟩ | exact ⟨fun _ _ => rfl⟩ | exact ⟨fun _ _ => trivial⟩ | exact ⟨fun k _ => isU8_bf _ k⟩ | exact ⟨by omega⟩ | exact ⟨⟨by omega, by omega⟩⟩ | exact ⟨⟨by omega, by omega, by omega⟩⟩
      all_goals skip
    · conv => whnf
      refine And.intro (fun h7 => ?_) (fun h7 => ?_) <;> conv => whnf
      · have hin : i < a.n := by
          have : ((i : Nat) : Int) < (a.n : Nat) := by simpa using h7
          omega
        conv => whnf
        repeat' (first | (refine And.intro (fun hp => ?_) (fun hp => ?_) <;> first | (exfalso; revert hp; (first | (simp; omega)); done) | conv => whnf) | (refine And.intro ?_ ?_ <;> conv => whnf))
        all_goals try first | exact ⟨rfl⟩ | exact ⟨⟨rfl, rfl⟩⟩ | exact ⟨⟨rfl, rfl, rfl⟩⟩ | exact ⟨fun _ _ => rfl⟩ | exact ⟨fun _ _ => trivial⟩ | exact ⟨fun k _ => isU8_bf _ k⟩ | exact ⟨by omega⟩ | exact ⟨⟨by omega, by omega⟩⟩ | exact ⟨⟨by omega, by omega, by omega⟩⟩ | exact ⟨⟨by omega, by omega⟩⟩ | exact ⟨fun _ _ => trivial⟩ | exact ⟨fun _ _ => rfl⟩
        refine ⟨(qm i, a.l i), ⟨AE.refl _, AE.refl _, trivial⟩, ⟨hqk i hin, hokv i hin⟩, ?_⟩
        intro z hz
        replace hz : z = decide (i ≠ k) := hz.trans (hqe i)
        conv => whnf
        refine And.intro (fun h8 => ?_) (fun h8 => ?_) <;> conv => whnf
        · have hz2 : z = false := by simpa using h8
          have hik : i = k := by
            have := of_decide_eq_false (hz.symm.trans hz2)
            omega
          subst hik
          have hq1 : (((qm i).n : Nat) : Int) = ((a.l i).n : Nat) + 1 := by rw [hqs]; show (((a.l i).n + 1 : Nat) : Int) = _; omega
          have hq2 : IntKind.i64.wrap (((a.l i).n : Nat) + 1) = ((a.l i).n : Nat) + 1 := wrap_id (by omega) (by omega)
          have hg0 : grewN i i = 0 := if_neg (by omega)
          have hg1 : grewN i (i + 1) = 1 := if_pos (by omega)
          conv => whnf
          repeat' (first | (refine And.intro (fun hp => ?_) (fun hp => ?_) <;> first | (exfalso; revert hp; (first | (simp [hsh, hq1, hq2]; done)); done) | conv => whnf) | (refine And.intro ?_ ?_ <;> conv => whnf))
          all_goals try first | exact ⟨rfl⟩ | exact ⟨⟨rfl, rfl⟩⟩ | exact ⟨⟨rfl, rfl, rfl⟩⟩ | exact ⟨fun _ _ => rfl⟩ | exact ⟨fun _ _ => trivial⟩ | exact ⟨fun k _ => isU8_bf _ k⟩ | exact ⟨by omega⟩ | exact ⟨⟨by omega, by omega⟩⟩ | exact ⟨⟨by omega, by omega, by omega⟩⟩ | exact ⟨⟨by omega, by omega⟩⟩ | exact ⟨fun _ _ => trivial⟩ | exact ⟨fun _ _ => rfl⟩
          refine ⟨i + 1, [], ?_⟩
          conv => whnf
          repeat' (refine And.intro ?_ ?_ <;> conv => whnf)
          all_goals try first | exact ⟨rfl⟩ | exact ⟨⟨rfl, rfl⟩⟩ | exact ⟨⟨rfl, rfl, rfl⟩⟩ | exact ⟨fun _ _ => rfl⟩ | exact ⟨fun _ _ => trivial⟩ | exact ⟨fun k _ => isU8_bf _ k⟩ | exact ⟨by omega⟩ | exact ⟨⟨by omega, by omega⟩⟩ | exact ⟨⟨by omega, by omega, by omega⟩⟩
          · refine ⟨?_⟩
            rw [hg0, hg1]; rfl
          · exact ⟨by rw [wrap_id (by omega) (by omega)]; rfl⟩
        · have hz2 : z = true := by simpa using h8
          have hik : i ≠ k := of_decide_eq_true (hz.symm.trans hz2)
          refine ⟨i + 1, [], ?_⟩
          conv => whnf
          repeat' (refine And.intro ?_ ?_ <;> conv => whnf)
          all_goals try first | exact ⟨rfl⟩ | exact ⟨⟨rfl, rfl⟩⟩ | exact ⟨⟨rfl, rfl, rfl⟩⟩ | exact ⟨fun _ _ => rfl⟩ | exact ⟨fun _ _ => trivial⟩ | exact ⟨fun k _ => isU8_bf _ k⟩ | exact ⟨by omega⟩ | exact ⟨⟨by omega, by omega⟩⟩ | exact ⟨⟨by omega, by omega, by omega⟩⟩
          · refine ⟨?_⟩
            simp only [grewN]
            split <;> split <;> omega
          · exact ⟨by rw [wrap_id (by omega) (by omega)]; rfl⟩
      · have hin : i = a.n := by
          have : ¬ ((i : Nat) : Int) < (a.n : Nat) := by simpa using h7
          omega
        subst hin
        have hg : grewN k a.n = 1 := if_pos hfl.1
        refine vc_ok hΓ mixed 1000 _ [] _ (by kernel_rfl) rfl ?_
        conv => whnf
        conv => whnf
        repeat' (first | (refine And.intro (fun hp => ?_) (fun hp => ?_) <;> first | (exfalso; revert hp; (first | (simp [hg]; done)); done) | conv => whnf) | (refine And.intro ?_ ?_ <;> conv => whnf))
        refine ⟨(), trivial, ⟨trivial⟩, ?_⟩
        intro z hz
        replace hz : z = true := hz
        subst hz
        conv => whnf
        repeat' (first | (refine And.intro (fun _ => ?_) (fun _ => ?_) <;> conv => whnf) | (refine And.intro ?_ ?_ <;> conv => whnf))
        exact Ld.refl _
  · have h0 : (putR ⟨s, a, o⟩).2.2 ≠ 0 := by rw [← hq]; simpa using h6
    have hn0 := putR_no h0
    rw [← hq] at hn0
    conv => whnf
    repeat' (first | (refine And.intro (fun hp => ?_) (fun hp => ?_) <;> first | (exfalso; revert hp; (simp [hn0]; done); done) | conv => whnf) | (refine And.intro ?_ ?_ <;> conv => whnf))
    refine ⟨(), trivial, ⟨trivial⟩, ?_⟩
    intro z hz
    replace hz : z = true := hz
    subst hz
    conv => whnf
    repeat' (first | (refine And.intro (fun _ => ?_) (fun _ => ?_) <;> conv => whnf) | (refine And.intro ?_ ?_ <;> conv => whnf))
    exact Ld.refl _
end Go.Proofs.YtaihjcpfjgpmoaaGreatDoor
