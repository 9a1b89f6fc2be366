/- An operation of the table does what the table says. -/
import Derived.Test.YtaekeldgnlphkaaD12
namespace Go.DD
set_option linter.unusedVariables false
open Go.RowKit
section
variable {P : Program} {Γ : Ctx} {E : Env}

def UponN (P : Program) (K : Value → World → Prop) : Result Next → Prop
  | .ok (.value v) w' => K v w'
  | .ok .skip w' => K undef w'
  | .ok (.enter f args) w' => Calls P f args w' fun | .returned v, w'' => K v w'' | _, _ => False
  | _ => False
theorem UponN.of_V {K : Value → World → Prop} {r : Result Next} (h : UponV P K r) : UponN P K r := by
  unfold UponV at h
  split at h
  · exact h
  · exact h
  · exact h.elim
theorem UponN.wp {o : Oper} {a : Act} {w : World} {K : Value → World → Prop} {next : Act → World → Prop} {Q : Exit → Act → World → Prop} (h : UponN P K ((execOp a.eval o).run P w)) (hk : ∀ x w', K x w' → next (a.put o.dst x) w') : o.wp P a w next Q := by
  unfold Oper.wp
  generalize (execOp a.eval o).run P w = r at h
  unfold UponN at h
  split at h
  · exact hk _ _ h
  · exact hk _ _ h
  · refine Calls.mono h fun e w'' he => ?_
    cases e with
    | returned v => exact hk _ _ he
    | panicked _ => exact he.elim
    | outgrown => exact he.elim
  · exact h.elim

theorem UponV.mono {K K' : Value → World → Prop} {r : Result Next} (h : UponV P K r) (hk : ∀ x w', K x w' → K' x w') : UponV P K' r := by
  unfold UponV at *
  split at h
  · exact hk _ _ h
  · refine Calls.mono h fun e w'' he => ?_
    cases e with
    | returned v => exact hk _ _ he
    | panicked _ => exact he.elim
    | outgrown => exact he.elim
  · exact h.elim

theorem ResH.fine {κ : V → Heap → Prop} {s : Sem Value} (h : ResH E κ (s.run P E.w)) : UponN P (Fine E κ) ((do pure (Next.value (← s))).run P E.w) := by
  obtain ⟨x, E', v, h', h1, h2, h3, h4, h5, h6⟩ := h
  have : (do pure (Next.value (← s)) : Sem Next).run P E.w = .ok (.value x) E'.w := by simp [h1]
  rw [this]
  exact ⟨E', v, h', rfl, h2, h3, h4, h5, h6⟩
theorem ResP.fine (hw : Wf E) {h : Heap} (hs : SimH E h) {κ : V → Heap → Prop} {s : Sem Value} (hr : ResP E (fun v => κ v h) (s.run P E.w)) : UponN P (Fine E κ) ((do pure (Next.value (← s))).run P E.w) :=
  ResH.fine (hr.heap hw hs fun _ h => h)
theorem T.fine (hw : Wf E) {h : Heap} (hs : SimH E h) {κ : V → Heap → Prop} {v : V} {x : Value} (ht : T E v x) (hk : κ v h) : Fine E κ x E.w := ⟨E, v, h, rfl, Ext.refl E, hw, hs, ht, hk⟩

theorem callV_run {f : V} {g : Nat} {caps : Vs} {a : Act} {fo : Operand} {args : Array Operand} {ts : Array TypeId} {o : Oper} (ho : o.op = .call ⟨.value fo, args, ts⟩) (hT : T E f (a.eval fo)) (hf : f = .fn g caps) {ev : Operand → V} (hev : ∀ x, T E (ev x) (a.eval x)) :
    ∃ xs : Array Value, Ts E (app (mapEv ev args.toList) caps.toList) xs.toList ∧ execOp a.eval o = callFunc g xs := by
  subst hf
  obtain ⟨xs, h1, h2, h3, h4⟩ := T_fn.1 hT
  have hc := caps_ok caps xs 0 (by omega) h3 h4
  refine ⟨args.map a.eval ++ xs, ?_, ?_⟩
  · simpa using Ts_app (mapEv_ok hev args.toList) hc
  · unfold execOp
    simp [ho, resolve, h1, Deferred.ofValue, invoke]

theorem pD_ok (hΓ : CtxOk P Γ) (hw : Wf E) {h : Heap} (hs : SimH E h) (hgl : GlOk Γ.gl E) {a : Act} {ev : Operand → V} (hev : ∀ x, T E (ev x) (a.eval x)) {o : Oper} {κ : V → Heap → Prop} (hd : pD Γ o.op ev h (fun v => κ v h)) :
    UponN P (Fine E κ) ((execOp a.eval o).run P E.w) := by
  have ht := hΓ.tb
  unfold pD at hd
  split at hd
  · rename_i x ho
    unfold execOp; simp only [ho, Sem.run_pure]
    exact T.fine hw hs (hev x) hd
  · rename_i x ho
    unfold execOp; simp only [ho, Sem.run_pure]
    exact T.fine hw hs (hev x) hd
  · rename_i c x y ho
    unfold execOp; simp only [ho]
    have hc := hev c
    have key : ∀ b : Bool, a.eval c = .bool b → κ (if b then ev x else ev y) h → UponN P (Fine E κ) ((do pure (Next.value (if ← asBool (a.eval c) then a.eval x else a.eval y))).run P E.w) := fun b hb hk => by
      rw [hb]
      simp only [asBool, Sem.run_bind, Sem.run_pure, Result.andThen_ok]
      refine T.fine hw hs (v := if b then ev x else ev y) ?_ hk
      cases b
      · exact hev y
      · exact hev x
    unfold pickD at hd
    split at hd
    · rename_i he; rw [he] at hc; exact key true (T_tt.1 hc) hd
    · rename_i he; rw [he] at hc; exact key false (T_ff.1 hc) hd
    · rename_i b he
      rw [he] at hc
      refine key b (T_bool.1 hc) ?_
      cases b
      · exact hd.2 rfl
      · exact hd.1 rfl
    · exact hd.elim
  · rename_i t parts ho
    unfold execOp; simp only [ho]
    refine ResP.fine hw hs (buildD_ok ht ?_ hd)
    have := mapEv2_ok hev parts.toList
    simpa using this
  · rename_i t x ho
    unfold execOp; simp only [ho]
    exact ResP.fine hw hs (loadD_ok ht hw hs hd (hev x))
  · rename_i x ho
    obtain ⟨h1, h2⟩ := nilCheckD_ok ho hd (hev x)
    rw [h1]
    exact T.fine hw hs (hev x) h2
  · rename_i op t x y t' ho
    unfold execOp; simp only [ho]
    exact ResP.fine hw hs (binD_ok ht hd (hev x) (hev y))
  · rename_i op t x ho
    unfold execOp; simp only [ho]
    exact ResP.fine hw hs (unD_ok hd (hev x))
  · rename_i s d x ho
    unfold execOp; simp only [ho]
    exact ResP.fine hw hs (convNum_ok ht hd (hev x))
  · rename_i t x lo hi mx ho
    unfold execOp; simp only [ho]
    exact ResP.fine hw hs (sliceD_ok ht hs hd (hev x) (optEv_ok hev lo) (optEv_ok hev hi) (optEv_ok hev mx))
  · rename_i s x k ho
    unfold execOp; simp only [ho]
    exact ResP.fine hw hs (fieldAddrD_ok ht hd (hev x))
  · rename_i s x k ho
    unfold execOp; simp only [ho]
    exact ResP.fine hw hs (fieldD_ok ht hd (hev x))
  · rename_i t x i ho
    unfold execOp; simp only [ho]
    exact ResP.fine hw hs (indexAddrD_ok ht hd (hev x) (hev i))
  · rename_i t x i ho
    unfold execOp; simp only [ho]
    exact ResP.fine hw hs (indexD_ok ht hd (hev x) (hev i))
  · rename_i t x ho
    unfold execOp; simp only [ho]
    exact ResP.fine hw hs (arrayAtD_ok ht hd (hev x))
  · rename_i t x ho
    unfold execOp; simp only [ho]
    exact ResP.fine hw hs (makeInterfaceD_ok ht hd (hev x))
  · rename_i x k ho
    unfold execOp; simp only [ho]
    exact ResP.fine hw hs (extractD_ok hd (hev x))
  · rename_i args ts ho
    split at hd
    · rename_i x t hx htt
      obtain rfl : args = #[x] := by rw [← Array.toArray_toList (xs := args), hx]
      obtain rfl : ts = #[t] := by rw [← Array.toArray_toList (xs := ts), htt]
      have : execOp a.eval o = (do pure (Next.value (← Builtin.len_ #[t] o.type #[a.eval x]))) := by
        unfold execOp; simp [ho, resolve, invoke, builtin]
      rw [this]
      exact ResP.fine hw hs (lenD_ok ht hd (hev x))
    · exact hd.elim
  · rename_i args ts ho
    split at hd
    · rename_i x t hx htt
      obtain rfl : args = #[x] := by rw [← Array.toArray_toList (xs := args), hx]
      obtain rfl : ts = #[t] := by rw [← Array.toArray_toList (xs := ts), htt]
      have : execOp a.eval o = (do pure (Next.value (← Builtin.cap_ #[t] o.type #[a.eval x]))) := by
        unfold execOp; simp [ho, resolve, invoke, builtin]
      rw [this]
      exact ResP.fine hw hs (capD_ok ht hd (hev x))
    · exact hd.elim
  · rename_i args ts ho
    split at hd
    · rename_i x y hx
      obtain rfl : args = #[x, y] := by rw [← Array.toArray_toList (xs := args), hx]
      have : execOp a.eval o = (do pure (Next.value (← Builtin.min_ ts o.type #[a.eval x, a.eval y]))) := by
        unfold execOp; simp [ho, resolve, invoke, builtin]
      rw [this]
      exact ResP.fine hw hs (minmaxD_ok (mx := false) hd (hev x) (hev y))
    · exact hd.elim
  · rename_i args ts ho
    split at hd
    · rename_i x y hx
      obtain rfl : args = #[x, y] := by rw [← Array.toArray_toList (xs := args), hx]
      have : execOp a.eval o = (do pure (Next.value (← Builtin.max_ ts o.type #[a.eval x, a.eval y]))) := by
        unfold execOp; simp [ho, resolve, invoke, builtin]
      rw [this]
      exact ResP.fine hw hs (minmaxD_ok (mx := true) hd (hev x) (hev y))
    · exact hd.elim
  · rename_i fo args ts ho
    unfold callP at hd
    split at hd
    · rename_i g caps hg
      split at hd
      · rename_i s hsp
        obtain ⟨xs, h1, h2⟩ := callV_run (E := E) ho (hev fo) hg hev
        rw [h2]
        refine UponN.of_V (UponV.mono ((hΓ.fs _ (lookup_mem hsp)).2 E h _ xs _ hw hs hgl h1 hd) fun x w' ⟨E', v, h', e1, e2, e3, e4, e5, e6, e7⟩ => ?_)
        subst e6
        exact ⟨E', v, h', e1, e2, e3, e4, e5, e7⟩
      · exact hd.elim
    · exact hd.elim
  · exact hd.elim

theorem wD_ok (hΓ : CtxOk P Γ) (hw : Wf E) {h : Heap} (hs : SimH E h) (hgl : GlOk Γ.gl E) {a : Act} {ev : Operand → V} (hev : ∀ x, T E (ev x) (a.eval x)) {o : Oper} {κ : V → Heap → Prop} (hd : wD Γ o.op ev h κ) :
    UponN P (Fine E κ) ((execOp a.eval o).run P E.w) := by
  have ht := hΓ.tb
  unfold wD at hd
  split at hd
  · rename_i t ho
    unfold execOp; simp only [ho]
    exact ResH.fine (allocD_ok ht hw hs hd)
  · rename_i t x ho
    unfold execOp; simp only [ho]
    exact ResH.fine (boxD_ok hw hs hd (hev x))
  · rename_i t x y ho
    unfold execOp; simp only [ho]
    obtain ⟨E', h', h1, h2, h3, h4, h5⟩ := storeD_ok ht hw hs hd (hev x) (hev y)
    have : (do Instr.storeAt t (a.eval x) (a.eval y); pure Next.skip : Sem Next).run P E.w = .ok .skip E'.w := by simp [h1]
    rw [this]
    exact ⟨E', .any, h', rfl, h2, h3, h4, trivial, h5⟩
  · rename_i args ts ho
    split at hd
    · rename_i x y t u hx htt
      obtain rfl : args = #[x, y] := by rw [← Array.toArray_toList (xs := args), hx]
      obtain rfl : ts = #[t, u] := by rw [← Array.toArray_toList (xs := ts), htt]
      have : execOp a.eval o = (do pure (Next.value (← Builtin.append_ #[t, u] o.type #[a.eval x, a.eval y]))) := by
        unfold execOp; simp [ho, resolve, invoke, builtin]
      rw [this]
      exact ResH.fine (appendD_ok ht hw hs (hev x) (hev y) hd)
    · exact hd.elim
  · rename_i fo args ts ho
    unfold callH at hd
    split at hd
    · rename_i g caps hg
      split at hd
      · rename_i s hsp
        obtain ⟨xs, h1, h2⟩ := callV_run (E := E) ho (hev fo) hg hev
        rw [h2]
        exact UponN.of_V ((hΓ.fh _ (lookup_mem hsp)).2 E h _ xs _ hw hs hgl h1 hd)
      · exact hd.elim
    · exact hd.elim
  · exact hd.elim

theorem opD_ok (hΓ : CtxOk P Γ) (hw : Wf E) {h : Heap} (hs : SimH E h) (hgl : GlOk Γ.gl E) {a : Act} {ev : Operand → V} (hev : ∀ x, T E (ev x) (a.eval x)) {o : Oper} {κ : V → Heap → Prop} (hd : opD Γ o.op ev h κ) :
    UponN P (Fine E κ) ((execOp a.eval o).run P E.w) := by
  unfold opD at hd
  simp only [frcH_eq] at hd
  split at hd
  · exact wD_ok hΓ hw hs hgl hev hd
  · exact pD_ok hΓ hw hs hgl hev hd
end
end Go.DD
