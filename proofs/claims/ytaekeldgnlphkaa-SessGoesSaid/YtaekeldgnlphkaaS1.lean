/- The table of types of this seat; the small functions. -/
import Derived.Test.YtaekeldgnlphkaaProg
import Derived.Test.YtaekeldgnlphkaaD25
namespace Go.Proofs.Ytaekeldgnlphkaa
set_option linter.unusedVariables false
open Go Go.DD
def tb : List (Option TI) :=
  [none,
   some ⟨.fn, 1, 8, .nilf⟩,
   some ⟨.int .i64, 1, 8, .int .i64 0⟩,
   some ⟨.int .i64, 1, 8, .int .i64 0⟩,
   some ⟨.bool, 1, 1, .ff⟩,
   some ⟨.int .u8, 1, 1, .int .u8 0⟩,
   some ⟨.int .u8, 1, 1, .int .u8 0⟩,
   some ⟨.st [(0, 2), (1, 3), (2, 4), (3, 6)], 4, 24, .st (.cons (.int .i64 0) (.cons (.int .i64 0) (.cons (.ff) (.cons (.int .u8 0) (.nil)))))⟩,
   some ⟨.st [(0, 2), (1, 3), (2, 4), (3, 6)], 4, 24, .st (.cons (.int .i64 0) (.cons (.int .i64 0) (.cons (.ff) (.cons (.int .u8 0) (.nil)))))⟩,
   some ⟨.str, 1, 16, .str []⟩,
   some ⟨.str, 1, 16, .str []⟩,
   some ⟨.str, 1, 16, .str []⟩,
   some ⟨.int .u64, 1, 8, .int .u64 0⟩,
   some ⟨.st [(0, 9), (1, 12)], 2, 24, .st (.cons (.str []) (.cons (.int .u64 0) (.nil)))⟩,
   some ⟨.st [(0, 9), (1, 12)], 2, 24, .st (.cons (.str []) (.cons (.int .u64 0) (.nil)))⟩,
   some ⟨.ptr 43, 1, 8, .nilp⟩,
   some ⟨.ptr 46, 1, 8, .nilp⟩,
   some ⟨.ptr 56, 1, 8, .nilp⟩,
   some ⟨.st [(0, 17)], 1, 8, .st (.cons (.nilp) (.nil))⟩,
   some ⟨.st [(0, 17)], 1, 8, .st (.cons (.nilp) (.nil))⟩,
   some ⟨.iface, 1, 16, .nili⟩,
   some ⟨.int .i32, 1, 4, .int .i32 0⟩,
   some ⟨.int .u64, 1, 8, .int .u64 0⟩,
   some ⟨.st [(0, 3), (1, 3)], 2, 16, .st (.cons (.int .i64 0) (.cons (.int .i64 0) (.nil)))⟩,
   some ⟨.st [(0, 3), (1, 3)], 2, 16, .st (.cons (.int .i64 0) (.cons (.int .i64 0) (.nil)))⟩,
   some ⟨.fn, 1, 8, .nilf⟩,
   some ⟨.int .i64, 1, 8, .int .i64 0⟩,
   none,
   some ⟨.fn, 1, 8, .nilf⟩,
   some ⟨.fn, 1, 8, .nilf⟩,
   some ⟨.fn, 1, 8, .nilf⟩,
   some ⟨.fn, 1, 8, .nilf⟩,
   none,
   some ⟨.fn, 1, 8, .nilf⟩,
   some ⟨.fn, 1, 8, .nilf⟩,
   none,
   some ⟨.fn, 1, 8, .nilf⟩,
   some ⟨.slice 4, 1, 24, .emp⟩,
   some ⟨.fn, 1, 8, .nilf⟩,
   some ⟨.fn, 1, 8, .nilf⟩,
   some ⟨.fn, 1, 8, .nilf⟩,
   some ⟨.fn, 1, 8, .nilf⟩,
   some ⟨.st [(0, 17), (1, 17), (2, 17), (3, 9)], 4, 40, .st (.cons (.nilp) (.cons (.nilp) (.cons (.nilp) (.cons (.str []) (.nil)))))⟩,
   some ⟨.st [(0, 17), (1, 17), (2, 17), (3, 9)], 4, 40, .st (.cons (.nilp) (.cons (.nilp) (.cons (.nilp) (.cons (.str []) (.nil)))))⟩,
   some ⟨.arr 0 16, 0, 0, .row 1 0 fun _ => .nilp⟩,
   some ⟨.st [(0, 44)], 0, 0, .st (.cons (.row 1 0 fun _ => .nilp) (.nil))⟩,
   some ⟨.st [(0, 44)], 0, 0, .st (.cons (.row 1 0 fun _ => .nilp) (.nil))⟩,
   some ⟨.fn, 1, 8, .nilf⟩,
   some ⟨.int .u32, 1, 4, .int .u32 0⟩,
   some ⟨.int .u8, 1, 1, .int .u8 0⟩,
   some ⟨.int .u8, 1, 1, .int .u8 0⟩,
   some ⟨.fn, 1, 8, .nilf⟩,
   some ⟨.ptr 5, 1, 8, .nilp⟩,
   some ⟨.int .i32, 1, 4, .int .i32 0⟩,
   some ⟨.int .i32, 1, 4, .int .i32 0⟩,
   some ⟨.st [(0, 12), (1, 12), (2, 48), (3, 49), (4, 5), (5, 5), (6, 50), (7, 51), (8, 52), (9, 53), (10, 54)], 11, 48, .st (.cons (.int .u64 0) (.cons (.int .u64 0) (.cons (.int .u32 0) (.cons (.int .u8 0) (.cons (.int .u8 0) (.cons (.int .u8 0) (.cons (.int .u8 0) (.cons (.nilf) (.cons (.nilp) (.cons (.int .i32 0) (.cons (.int .i32 0) (.nil))))))))))))⟩,
   some ⟨.st [(0, 12), (1, 12), (2, 48), (3, 49), (4, 5), (5, 5), (6, 50), (7, 51), (8, 52), (9, 53), (10, 54)], 11, 48, .st (.cons (.int .u64 0) (.cons (.int .u64 0) (.cons (.int .u32 0) (.cons (.int .u8 0) (.cons (.int .u8 0) (.cons (.int .u8 0) (.cons (.int .u8 0) (.cons (.nilf) (.cons (.nilp) (.cons (.int .i32 0) (.cons (.int .i32 0) (.nil))))))))))))⟩]
theorem tabOk : TabOk Try.prog tb := by unfold TabOk; kernel_rfl
theorem mixed : Try.prog.follows .mixedOrders = true := by kernel_rfl
def ctx (n : Nat) (fs : List (Nat × FSpec)) : Ctx := ⟨tb, fs.map fun p => (p.1, callS p.2), [], [], n, 0, []⟩
theorem ctxOk (n : Nat) (fs : List (Nat × FSpec)) (h : ∀ p ∈ fs, FOk Try.prog [] p.1 p.2) : CtxOk Try.prog (ctx n fs) where
  tb := tabOk
  fs := fun p hp => by
    obtain ⟨q, hq, rfl⟩ := List.mem_map.1 hp
    exact (h q hq).spec
  fh := fun p hp => by cases hp
def bodyOf (f : Func) : Code := match f.body with | some c => c | none => .skip

def F14 : FSpec := fun xs Φ => match xs with
  | [.int .i64 a, .int .i64 b, .int .i64 c] => Φ (.bool (decide (b ≤ a) && decide (a ≤ c)))
  | _ => False
theorem f14_ok : FOk Try.prog [] 14 F14 where
  sng := fun xs Φ h => by unfold F14 at h; split at h <;> first | exact h.elim | exact ⟨_, h, fun _ h' => h'⟩
  ok := fun xs Φ h => by
    unfold F14 at h
    split at h
    · rename_i a b c
      have hΓ := ctxOk 15 [] (fun _ h => by cases h)
      refine CP_of_OK hΓ Try.func14 (c := bodyOf Try.f14) rfl (by decide) rfl rfl (by simp) (vc_ok hΓ mixed 1000 _ [] _ (by kernel_rfl) rfl ?_)
      conv => whnf
      repeat' (first | (refine And.intro (fun _ => ?_) (fun _ => ?_) <;> conv => whnf) | (refine And.intro ?_ ?_ <;> conv => whnf))
      · rename_i h1
        refine cast (congrArg Φ ?_) h
        conv => rhs; whnf
        simp [h1]
      · rename_i h1
        refine cast (congrArg Φ ?_) h
        conv => rhs; whnf
        simp [h1]
    · exact h.elim
end Go.Proofs.Ytaekeldgnlphkaa
