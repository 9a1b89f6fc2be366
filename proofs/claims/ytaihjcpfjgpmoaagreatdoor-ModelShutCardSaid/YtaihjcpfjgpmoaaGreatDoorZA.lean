/- Part of the claim: Z1, Z2, Z3, Z4, Z5, Z6, Z7, Z8, Z9, Z10, Z11, Z12, Z13, Z14, Z15, Z27, Z28. -/
import Derived.Test.YtaihjcpfjgpmoaaGreatDoorProg
import Derived.Test.YtaihjcpfjgpmoaaGreatDoorDB
import Derived.Test.YtaihjcpfjgpmoaaGreatDoorDC
import Derived.Laws.BitsAllLaws
/- The table of types of this seat. -/
namespace Go.Proofs.YtaihjcpfjgpmoaaGreatDoor
set_option linter.unusedVariables false
set_option linter.unusedSimpArgs false
open Go Go.DD
def tb : List (Option TI) :=
  [none,
   some ⟨.fn, 1, 8, .nilf⟩,
   some ⟨.int .i64, 1, 8, .int .i64 0⟩,
   some ⟨.int .i64, 1, 8, .int .i64 0⟩,
   some ⟨.bool, 1, 1, .ff⟩,
   some ⟨.int .u8, 1, 1, .int .u8 0⟩,
   some ⟨.int .u8, 1, 1, .int .u8 0⟩,
   some ⟨.st [(0, 2), (1, 3), (2, 4), (3, 6)], 4, 24, .st (.cons (.int .i64 0) (.cons (.int .i64 0) (.cons (.ff) (.cons (.int .u8 0) (.nil)))))⟩,
   some ⟨.st [(0, 2), (1, 3), (2, 4), (3, 6)], 4, 24, .st (.cons (.int .i64 0) (.cons (.int .i64 0) (.cons (.ff) (.cons (.int .u8 0) (.nil)))))⟩,
   some ⟨.str, 1, 16, .str []⟩,
   some ⟨.str, 1, 16, .str []⟩,
   some ⟨.str, 1, 16, .str []⟩,
   some ⟨.int .u64, 1, 8, .int .u64 0⟩,
   some ⟨.st [(0, 9), (1, 12)], 2, 24, .st (.cons (.str []) (.cons (.int .u64 0) (.nil)))⟩,
   some ⟨.st [(0, 9), (1, 12)], 2, 24, .st (.cons (.str []) (.cons (.int .u64 0) (.nil)))⟩,
   some ⟨.ptr 290, 1, 8, .nilp⟩,
   some ⟨.ptr 293, 1, 8, .nilp⟩,
   some ⟨.ptr 302, 1, 8, .nilp⟩,
   some ⟨.st [(0, 17)], 1, 8, .st (.cons (.nilp) (.nil))⟩,
   some ⟨.st [(0, 17)], 1, 8, .st (.cons (.nilp) (.nil))⟩,
   some ⟨.iface, 1, 16, .nili⟩,
   some ⟨.int .i32, 1, 4, .int .i32 0⟩,
   some ⟨.fn, 1, 8, .nilf⟩,
   some ⟨.fn, 1, 8, .nilf⟩,
   some ⟨.fn, 1, 8, .nilf⟩,
   some ⟨.arr 32 5, 32, 32, .row 1 32 fun _ => .int .u8 0⟩,
   some ⟨.slice 42, 1, 24, .emp⟩,
   some ⟨.slice 5, 1, 24, .emp⟩,
   some ⟨.st [(0, 3), (1, 9), (2, 27)], 3, 48, .st (.cons (.int .i64 0) (.cons (.str []) (.cons (.emp) (.nil))))⟩,
   some ⟨.st [(0, 3), (1, 9), (2, 27)], 3, 48, .st (.cons (.int .i64 0) (.cons (.str []) (.cons (.emp) (.nil))))⟩,
   some ⟨.fn, 1, 8, .nilf⟩,
   some ⟨.int .i64, 1, 8, .int .i64 0⟩,
   none,
   some ⟨.fn, 1, 8, .nilf⟩,
   some ⟨.fn, 1, 8, .nilf⟩,
   some ⟨.slice 38, 1, 24, .emp⟩,
   some ⟨.arr 64 5, 64, 64, .row 1 64 fun _ => .int .u8 0⟩,
   some ⟨.st [(0, 25), (32, 3), (33, 25), (65, 3), (66, 29), (69, 36)], 133, 192, .st (.cons (.row 1 32 fun _ => .int .u8 0) (.cons (.int .i64 0) (.cons (.row 1 32 fun _ => .int .u8 0) (.cons (.int .i64 0) (.cons (.st (.cons (.int .i64 0) (.cons (.str []) (.cons (.emp) (.nil))))) (.cons (.row 1 64 fun _ => .int .u8 0) (.nil)))))))⟩,
   some ⟨.st [(0, 25), (32, 3), (33, 25), (65, 3), (66, 29), (69, 36)], 133, 192, .st (.cons (.row 1 32 fun _ => .int .u8 0) (.cons (.int .i64 0) (.cons (.row 1 32 fun _ => .int .u8 0) (.cons (.int .i64 0) (.cons (.st (.cons (.int .i64 0) (.cons (.str []) (.cons (.emp) (.nil))))) (.cons (.row 1 64 fun _ => .int .u8 0) (.nil)))))))⟩,
   some ⟨.st [(0, 38), (133, 38)], 266, 384, .st (.cons (.st (.cons (.row 1 32 fun _ => .int .u8 0) (.cons (.int .i64 0) (.cons (.row 1 32 fun _ => .int .u8 0) (.cons (.int .i64 0) (.cons (.st (.cons (.int .i64 0) (.cons (.str []) (.cons (.emp) (.nil))))) (.cons (.row 1 64 fun _ => .int .u8 0) (.nil)))))))) (.cons (.st (.cons (.row 1 32 fun _ => .int .u8 0) (.cons (.int .i64 0) (.cons (.row 1 32 fun _ => .int .u8 0) (.cons (.int .i64 0) (.cons (.st (.cons (.int .i64 0) (.cons (.str []) (.cons (.emp) (.nil))))) (.cons (.row 1 64 fun _ => .int .u8 0) (.nil)))))))) (.nil)))⟩,
   some ⟨.st [(0, 38), (133, 38)], 266, 384, .st (.cons (.st (.cons (.row 1 32 fun _ => .int .u8 0) (.cons (.int .i64 0) (.cons (.row 1 32 fun _ => .int .u8 0) (.cons (.int .i64 0) (.cons (.st (.cons (.int .i64 0) (.cons (.str []) (.cons (.emp) (.nil))))) (.cons (.row 1 64 fun _ => .int .u8 0) (.nil)))))))) (.cons (.st (.cons (.row 1 32 fun _ => .int .u8 0) (.cons (.int .i64 0) (.cons (.row 1 32 fun _ => .int .u8 0) (.cons (.int .i64 0) (.cons (.st (.cons (.int .i64 0) (.cons (.str []) (.cons (.emp) (.nil))))) (.cons (.row 1 64 fun _ => .int .u8 0) (.nil)))))))) (.nil)))⟩,
   some ⟨.st [(0, 25), (32, 35), (33, 4), (34, 40)], 300, 448, .st (.cons (.row 1 32 fun _ => .int .u8 0) (.cons (.emp) (.cons (.ff) (.cons (.st (.cons (.st (.cons (.row 1 32 fun _ => .int .u8 0) (.cons (.int .i64 0) (.cons (.row 1 32 fun _ => .int .u8 0) (.cons (.int .i64 0) (.cons (.st (.cons (.int .i64 0) (.cons (.str []) (.cons (.emp) (.nil))))) (.cons (.row 1 64 fun _ => .int .u8 0) (.nil)))))))) (.cons (.st (.cons (.row 1 32 fun _ => .int .u8 0) (.cons (.int .i64 0) (.cons (.row 1 32 fun _ => .int .u8 0) (.cons (.int .i64 0) (.cons (.st (.cons (.int .i64 0) (.cons (.str []) (.cons (.emp) (.nil))))) (.cons (.row 1 64 fun _ => .int .u8 0) (.nil)))))))) (.nil)))) (.nil)))))⟩,
   some ⟨.st [(0, 25), (32, 35), (33, 4), (34, 40)], 300, 448, .st (.cons (.row 1 32 fun _ => .int .u8 0) (.cons (.emp) (.cons (.ff) (.cons (.st (.cons (.st (.cons (.row 1 32 fun _ => .int .u8 0) (.cons (.int .i64 0) (.cons (.row 1 32 fun _ => .int .u8 0) (.cons (.int .i64 0) (.cons (.st (.cons (.int .i64 0) (.cons (.str []) (.cons (.emp) (.nil))))) (.cons (.row 1 64 fun _ => .int .u8 0) (.nil)))))))) (.cons (.st (.cons (.row 1 32 fun _ => .int .u8 0) (.cons (.int .i64 0) (.cons (.row 1 32 fun _ => .int .u8 0) (.cons (.int .i64 0) (.cons (.st (.cons (.int .i64 0) (.cons (.str []) (.cons (.emp) (.nil))))) (.cons (.row 1 64 fun _ => .int .u8 0) (.nil)))))))) (.nil)))) (.nil)))))⟩,
   some ⟨.fn, 1, 8, .nilf⟩,
   some ⟨.slice 25, 1, 24, .emp⟩,
   some ⟨.slice 29, 1, 24, .emp⟩,
   some ⟨.fn, 1, 8, .nilf⟩,
   some ⟨.fn, 1, 8, .nilf⟩,
   some ⟨.fn, 1, 8, .nilf⟩,
   some ⟨.slice 80, 1, 24, .emp⟩,
   some ⟨.fn, 1, 8, .nilf⟩,
   some ⟨.fn, 1, 8, .nilf⟩,
   none,
   some ⟨.fn, 1, 8, .nilf⟩,
   some ⟨.fn, 1, 8, .nilf⟩,
   some ⟨.fn, 1, 8, .nilf⟩,
   some ⟨.fn, 1, 8, .nilf⟩,
   some ⟨.fn, 1, 8, .nilf⟩,
   some ⟨.int .u64, 1, 8, .int .u64 0⟩,
   none,
   some ⟨.fn, 1, 8, .nilf⟩,
   some ⟨.fn, 1, 8, .nilf⟩,
   some ⟨.fn, 1, 8, .nilf⟩,
   none,
   some ⟨.fn, 1, 8, .nilf⟩,
   some ⟨.fn, 1, 8, .nilf⟩,
   some ⟨.fn, 1, 8, .nilf⟩,
   none,
   some ⟨.fn, 1, 8, .nilf⟩,
   none,
   some ⟨.fn, 1, 8, .nilf⟩,
   some ⟨.fn, 1, 8, .nilf⟩,
   some ⟨.fn, 1, 8, .nilf⟩,
   some ⟨.fn, 1, 8, .nilf⟩,
   some ⟨.fn, 1, 8, .nilf⟩,
   some ⟨.fn, 1, 8, .nilf⟩,
   some ⟨.fn, 1, 8, .nilf⟩,
   some ⟨.fn, 1, 8, .nilf⟩,
   some ⟨.fn, 1, 8, .nilf⟩,
   some ⟨.st [(0, 9), (1, 27), (2, 3), (3, 25), (35, 25), (67, 4)], 68, 120, .st (.cons (.str []) (.cons (.emp) (.cons (.int .i64 0) (.cons (.row 1 32 fun _ => .int .u8 0) (.cons (.row 1 32 fun _ => .int .u8 0) (.cons (.ff) (.nil)))))))⟩,
   some ⟨.st [(0, 9), (1, 27), (2, 3), (3, 25), (35, 25), (67, 4)], 68, 120, .st (.cons (.str []) (.cons (.emp) (.cons (.int .i64 0) (.cons (.row 1 32 fun _ => .int .u8 0) (.cons (.row 1 32 fun _ => .int .u8 0) (.cons (.ff) (.nil)))))))⟩,
   some ⟨.fn, 1, 8, .nilf⟩,
   none,
   some ⟨.fn, 1, 8, .nilf⟩,
   some ⟨.fn, 1, 8, .nilf⟩,
   some ⟨.fn, 1, 8, .nilf⟩,
   some ⟨.fn, 1, 8, .nilf⟩,
   some ⟨.fn, 1, 8, .nilf⟩,
   some ⟨.fn, 1, 8, .nilf⟩,
   some ⟨.fn, 1, 8, .nilf⟩,
   some ⟨.fn, 1, 8, .nilf⟩,
   some ⟨.fn, 1, 8, .nilf⟩,
   some ⟨.fn, 1, 8, .nilf⟩,
   some ⟨.fn, 1, 8, .nilf⟩,
   some ⟨.fn, 1, 8, .nilf⟩,
   some ⟨.int .u64, 1, 8, .int .u64 0⟩,
   some ⟨.fn, 1, 8, .nilf⟩,
   some ⟨.fn, 1, 8, .nilf⟩,
   some ⟨.fn, 1, 8, .nilf⟩,
   some ⟨.fn, 1, 8, .nilf⟩,
   some ⟨.fn, 1, 8, .nilf⟩,
   some ⟨.fn, 1, 8, .nilf⟩,
   some ⟨.fn, 1, 8, .nilf⟩,
   some ⟨.fn, 1, 8, .nilf⟩,
   some ⟨.fn, 1, 8, .nilf⟩,
   some ⟨.fn, 1, 8, .nilf⟩,
   some ⟨.fn, 1, 8, .nilf⟩,
   some ⟨.fn, 1, 8, .nilf⟩,
   none,
   some ⟨.fn, 1, 8, .nilf⟩,
   some ⟨.fn, 1, 8, .nilf⟩,
   some ⟨.fn, 1, 8, .nilf⟩,
   some ⟨.fn, 1, 8, .nilf⟩,
   some ⟨.fn, 1, 8, .nilf⟩,
   none,
   some ⟨.fn, 1, 8, .nilf⟩,
   some ⟨.int .u32, 1, 4, .int .u32 0⟩,
   some ⟨.arr 64 116, 64, 256, .row 1 64 fun _ => .int .u32 0⟩,
   some ⟨.fn, 1, 8, .nilf⟩,
   some ⟨.arr 8 116, 8, 32, .row 1 8 fun _ => .int .u32 0⟩,
   some ⟨.fn, 1, 8, .nilf⟩,
   some ⟨.fn, 1, 8, .nilf⟩,
   some ⟨.slice 27, 1, 24, .emp⟩,
   some ⟨.fn, 1, 8, .nilf⟩,
   some ⟨.fn, 1, 8, .nilf⟩,
   some ⟨.fn, 1, 8, .nilf⟩,
   some ⟨.fn, 1, 8, .nilf⟩,
   some ⟨.fn, 1, 8, .nilf⟩,
   some ⟨.fn, 1, 8, .nilf⟩,
   some ⟨.fn, 1, 8, .nilf⟩,
   some ⟨.fn, 1, 8, .nilf⟩,
   some ⟨.fn, 1, 8, .nilf⟩,
   some ⟨.fn, 1, 8, .nilf⟩,
   some ⟨.fn, 1, 8, .nilf⟩,
   some ⟨.fn, 1, 8, .nilf⟩,
   some ⟨.fn, 1, 8, .nilf⟩,
   some ⟨.fn, 1, 8, .nilf⟩,
   none,
   some ⟨.fn, 1, 8, .nilf⟩,
   none,
   some ⟨.fn, 1, 8, .nilf⟩,
   some ⟨.fn, 1, 8, .nilf⟩,
   some ⟨.fn, 1, 8, .nilf⟩,
   some ⟨.fn, 1, 8, .nilf⟩,
   some ⟨.fn, 1, 8, .nilf⟩,
   some ⟨.fn, 1, 8, .nilf⟩,
   some ⟨.arr 4 58, 4, 32, .row 1 4 fun _ => .int .u64 0⟩,
   some ⟨.arr 4 58, 4, 32, .row 1 4 fun _ => .int .u64 0⟩,
   some ⟨.fn, 1, 8, .nilf⟩,
   some ⟨.fn, 1, 8, .nilf⟩,
   some ⟨.st [(0, 147), (4, 147), (8, 147), (12, 147)], 16, 128, .st (.cons (.row 1 4 fun _ => .int .u64 0) (.cons (.row 1 4 fun _ => .int .u64 0) (.cons (.row 1 4 fun _ => .int .u64 0) (.cons (.row 1 4 fun _ => .int .u64 0) (.nil)))))⟩,
   some ⟨.st [(0, 147), (4, 147), (8, 147), (12, 147)], 16, 128, .st (.cons (.row 1 4 fun _ => .int .u64 0) (.cons (.row 1 4 fun _ => .int .u64 0) (.cons (.row 1 4 fun _ => .int .u64 0) (.cons (.row 1 4 fun _ => .int .u64 0) (.nil)))))⟩,
   some ⟨.fn, 1, 8, .nilf⟩,
   some ⟨.fn, 1, 8, .nilf⟩,
   none,
   some ⟨.fn, 1, 8, .nilf⟩,
   some ⟨.slice 3, 1, 24, .emp⟩,
   some ⟨.fn, 1, 8, .nilf⟩,
   some ⟨.fn, 1, 8, .nilf⟩,
   some ⟨.fn, 1, 8, .nilf⟩,
   some ⟨.fn, 1, 8, .nilf⟩,
   some ⟨.fn, 1, 8, .nilf⟩,
   some ⟨.fn, 1, 8, .nilf⟩,
   some ⟨.fn, 1, 8, .nilf⟩,
   some ⟨.fn, 1, 8, .nilf⟩,
   some ⟨.slice 167, 1, 24, .emp⟩,
   some ⟨.st [(0, 3), (1, 3), (2, 27)], 3, 40, .st (.cons (.int .i64 0) (.cons (.int .i64 0) (.cons (.emp) (.nil))))⟩,
   some ⟨.st [(0, 3), (1, 3), (2, 27)], 3, 40, .st (.cons (.int .i64 0) (.cons (.int .i64 0) (.cons (.emp) (.nil))))⟩,
   some ⟨.fn, 1, 8, .nilf⟩,
   some ⟨.fn, 1, 8, .nilf⟩,
   none,
   some ⟨.fn, 1, 8, .nilf⟩,
   some ⟨.fn, 1, 8, .nilf⟩,
   some ⟨.fn, 1, 8, .nilf⟩,
   some ⟨.arr 5 58, 5, 40, .row 1 5 fun _ => .int .u64 0⟩,
   some ⟨.arr 5 58, 5, 40, .row 1 5 fun _ => .int .u64 0⟩,
   some ⟨.st [(0, 175), (5, 175), (10, 175), (15, 175)], 20, 160, .st (.cons (.row 1 5 fun _ => .int .u64 0) (.cons (.row 1 5 fun _ => .int .u64 0) (.cons (.row 1 5 fun _ => .int .u64 0) (.cons (.row 1 5 fun _ => .int .u64 0) (.nil)))))⟩,
   some ⟨.st [(0, 175), (5, 175), (10, 175), (15, 175)], 20, 160, .st (.cons (.row 1 5 fun _ => .int .u64 0) (.cons (.row 1 5 fun _ => .int .u64 0) (.cons (.row 1 5 fun _ => .int .u64 0) (.cons (.row 1 5 fun _ => .int .u64 0) (.nil)))))⟩,
   some ⟨.fn, 1, 8, .nilf⟩,
   some ⟨.fn, 1, 8, .nilf⟩,
   some ⟨.fn, 1, 8, .nilf⟩,
   some ⟨.ptr 223, 1, 8, .nilp⟩,
   some ⟨.fn, 1, 8, .nilf⟩,
   some ⟨.fn, 1, 8, .nilf⟩,
   some ⟨.fn, 1, 8, .nilf⟩,
   some ⟨.fn, 1, 8, .nilf⟩,
   some ⟨.arr 80 58, 80, 640, .row 1 80 fun _ => .int .u64 0⟩,
   some ⟨.fn, 1, 8, .nilf⟩,
   some ⟨.arr 8 58, 8, 64, .row 1 8 fun _ => .int .u64 0⟩,
   some ⟨.fn, 1, 8, .nilf⟩,
   some ⟨.fn, 1, 8, .nilf⟩,
   some ⟨.fn, 1, 8, .nilf⟩,
   some ⟨.fn, 1, 8, .nilf⟩,
   some ⟨.fn, 1, 8, .nilf⟩,
   none,
   some ⟨.fn, 1, 8, .nilf⟩,
   some ⟨.fn, 1, 8, .nilf⟩,
   some ⟨.fn, 1, 8, .nilf⟩,
   some ⟨.fn, 1, 8, .nilf⟩,
   some ⟨.fn, 1, 8, .nilf⟩,
   some ⟨.fn, 1, 8, .nilf⟩,
   some ⟨.fn, 1, 8, .nilf⟩,
   some ⟨.int .i64, 1, 8, .int .i64 0⟩,
   none,
   some ⟨.fn, 1, 8, .nilf⟩,
   some ⟨.fn, 1, 8, .nilf⟩,
   some ⟨.fn, 1, 8, .nilf⟩,
   some ⟨.fn, 1, 8, .nilf⟩,
   some ⟨.fn, 1, 8, .nilf⟩,
   some ⟨.fn, 1, 8, .nilf⟩,
   some ⟨.st [(0, 3), (1, 27), (2, 4)], 3, 40, .st (.cons (.int .i64 0) (.cons (.emp) (.cons (.ff) (.nil))))⟩,
   some ⟨.st [(0, 3), (1, 27), (2, 4)], 3, 40, .st (.cons (.int .i64 0) (.cons (.emp) (.cons (.ff) (.nil))))⟩,
   some ⟨.fn, 1, 8, .nilf⟩,
   some ⟨.fn, 1, 8, .nilf⟩,
   some ⟨.fn, 1, 8, .nilf⟩,
   some ⟨.fn, 1, 8, .nilf⟩,
   some ⟨.fn, 1, 8, .nilf⟩,
   none,
   some ⟨.fn, 1, 8, .nilf⟩,
   some ⟨.fn, 1, 8, .nilf⟩,
   some ⟨.arr 8 116, 8, 32, .row 1 8 fun _ => .int .u32 0⟩,
   some ⟨.fn, 1, 8, .nilf⟩,
   some ⟨.st [(0, 220), (8, 27), (9, 3)], 10, 64, .st (.cons (.row 1 8 fun _ => .int .u32 0) (.cons (.emp) (.cons (.int .i64 0) (.nil))))⟩,
   some ⟨.st [(0, 220), (8, 27), (9, 3)], 10, 64, .st (.cons (.row 1 8 fun _ => .int .u32 0) (.cons (.emp) (.cons (.int .i64 0) (.nil))))⟩,
   some ⟨.fn, 1, 8, .nilf⟩,
   some ⟨.fn, 1, 8, .nilf⟩,
   none,
   some ⟨.fn, 1, 8, .nilf⟩,
   some ⟨.fn, 1, 8, .nilf⟩,
   some ⟨.fn, 1, 8, .nilf⟩,
   none,
   some ⟨.fn, 1, 8, .nilf⟩,
   some ⟨.fn, 1, 8, .nilf⟩,
   some ⟨.fn, 1, 8, .nilf⟩,
   some ⟨.ptr 236, 1, 8, .nilp⟩,
   some ⟨.st [(0, 165), (1, 3), (2, 27), (3, 4)], 4, 64, .st (.cons (.emp) (.cons (.int .i64 0) (.cons (.emp) (.cons (.ff) (.nil)))))⟩,
   some ⟨.st [(0, 165), (1, 3), (2, 27), (3, 4)], 4, 64, .st (.cons (.emp) (.cons (.int .i64 0) (.cons (.emp) (.cons (.ff) (.nil)))))⟩,
   some ⟨.fn, 1, 8, .nilf⟩,
   some ⟨.fn, 1, 8, .nilf⟩,
   some ⟨.arr 4 58, 4, 32, .row 1 4 fun _ => .int .u64 0⟩,
   some ⟨.fn, 1, 8, .nilf⟩,
   some ⟨.fn, 1, 8, .nilf⟩,
   some ⟨.fn, 1, 8, .nilf⟩,
   some ⟨.fn, 1, 8, .nilf⟩,
   some ⟨.fn, 1, 8, .nilf⟩,
   some ⟨.int .u64, 1, 8, .int .u64 0⟩,
   some ⟨.fn, 1, 8, .nilf⟩,
   some ⟨.fn, 1, 8, .nilf⟩,
   some ⟨.fn, 1, 8, .nilf⟩,
   some ⟨.ptr 3, 1, 8, .nilp⟩,
   some ⟨.fn, 1, 8, .nilf⟩,
   some ⟨.fn, 1, 8, .nilf⟩,
   some ⟨.fn, 1, 8, .nilf⟩,
   some ⟨.slice 58, 1, 24, .emp⟩,
   some ⟨.fn, 1, 8, .nilf⟩,
   some ⟨.fn, 1, 8, .nilf⟩,
   some ⟨.fn, 1, 8, .nilf⟩,
   some ⟨.fn, 1, 8, .nilf⟩,
   none,
   some ⟨.fn, 1, 8, .nilf⟩,
   some ⟨.fn, 1, 8, .nilf⟩,
   some ⟨.fn, 1, 8, .nilf⟩,
   some ⟨.fn, 1, 8, .nilf⟩,
   some ⟨.fn, 1, 8, .nilf⟩,
   some ⟨.slice 116, 1, 24, .emp⟩,
   some ⟨.fn, 1, 8, .nilf⟩,
   some ⟨.fn, 1, 8, .nilf⟩,
   some ⟨.fn, 1, 8, .nilf⟩,
   some ⟨.arr 256 5, 256, 256, .row 1 256 fun _ => .int .u8 0⟩,
   some ⟨.st [(0, 5), (1, 5)], 2, 2, .st (.cons (.int .u8 0) (.cons (.int .u8 0) (.nil)))⟩,
   some ⟨.st [(0, 5), (1, 5)], 2, 2, .st (.cons (.int .u8 0) (.cons (.int .u8 0) (.nil)))⟩,
   some ⟨.arr 16 270, 32, 32, .row 2 16 fun _ => .st (.cons (.int .u8 0) (.cons (.int .u8 0) (.nil)))⟩,
   some ⟨.fn, 1, 8, .nilf⟩,
   some ⟨.fn, 1, 8, .nilf⟩,
   some ⟨.fn, 1, 8, .nilf⟩,
   some ⟨.fn, 1, 8, .nilf⟩,
   some ⟨.fn, 1, 8, .nilf⟩,
   some ⟨.ptr 245, 1, 8, .nilp⟩,
   none,
   some ⟨.fn, 1, 8, .nilf⟩,
   some ⟨.fn, 1, 8, .nilf⟩,
   some ⟨.fn, 1, 8, .nilf⟩,
   some ⟨.fn, 1, 8, .nilf⟩,
   some ⟨.arr 9 58, 9, 72, .row 1 9 fun _ => .int .u64 0⟩,
   some ⟨.fn, 1, 8, .nilf⟩,
   some ⟨.fn, 1, 8, .nilf⟩,
   some ⟨.fn, 1, 8, .nilf⟩,
   some ⟨.fn, 1, 8, .nilf⟩,
   some ⟨.fn, 1, 8, .nilf⟩,
   some ⟨.st [(0, 17), (1, 17), (2, 17), (3, 9)], 4, 40, .st (.cons (.nilp) (.cons (.nilp) (.cons (.nilp) (.cons (.str []) (.nil)))))⟩,
   some ⟨.st [(0, 17), (1, 17), (2, 17), (3, 9)], 4, 40, .st (.cons (.nilp) (.cons (.nilp) (.cons (.nilp) (.cons (.str []) (.nil)))))⟩,
   some ⟨.arr 0 16, 0, 0, .row 1 0 fun _ => .nilp⟩,
   some ⟨.st [(0, 291)], 0, 0, .st (.cons (.row 1 0 fun _ => .nilp) (.nil))⟩,
   some ⟨.st [(0, 291)], 0, 0, .st (.cons (.row 1 0 fun _ => .nilp) (.nil))⟩,
   some ⟨.fn, 1, 8, .nilf⟩,
   some ⟨.int .u8, 1, 1, .int .u8 0⟩,
   some ⟨.int .u8, 1, 1, .int .u8 0⟩,
   some ⟨.fn, 1, 8, .nilf⟩,
   some ⟨.ptr 5, 1, 8, .nilp⟩,
   some ⟨.int .i32, 1, 4, .int .i32 0⟩,
   some ⟨.int .i32, 1, 4, .int .i32 0⟩,
   some ⟨.st [(0, 12), (1, 12), (2, 116), (3, 295), (4, 5), (5, 5), (6, 296), (7, 297), (8, 298), (9, 299), (10, 300)], 11, 48, .st (.cons (.int .u64 0) (.cons (.int .u64 0) (.cons (.int .u32 0) (.cons (.int .u8 0) (.cons (.int .u8 0) (.cons (.int .u8 0) (.cons (.int .u8 0) (.cons (.nilf) (.cons (.nilp) (.cons (.int .i32 0) (.cons (.int .i32 0) (.nil))))))))))))⟩,
   some ⟨.st [(0, 12), (1, 12), (2, 116), (3, 295), (4, 5), (5, 5), (6, 296), (7, 297), (8, 298), (9, 299), (10, 300)], 11, 48, .st (.cons (.int .u64 0) (.cons (.int .u64 0) (.cons (.int .u32 0) (.cons (.int .u8 0) (.cons (.int .u8 0) (.cons (.int .u8 0) (.cons (.int .u8 0) (.cons (.nilf) (.cons (.nilp) (.cons (.int .i32 0) (.cons (.int .i32 0) (.nil))))))))))))⟩]
theorem tabOk : TabOk Tryz.prog tb := by unfold TabOk; kernel_rfl
theorem mixed : Tryz.prog.follows .mixedOrders = true := by kernel_rfl
def ctx (n : Nat) (fs : List (Nat × FSpec)) (fh : List (Nat × SpecH)) : Ctx := ⟨tb, fs.map fun p => (p.1, callS p.2), fh, [], n, 0, [], false⟩
theorem ctxOk (n : Nat) (fs : List (Nat × FSpec)) (fh : List (Nat × SpecH)) (h : ∀ p ∈ fs, FOk Tryz.prog [] p.1 p.2) (h' : ∀ p ∈ fh, SpecHOk Tryz.prog [] p.1 p.2) : CtxOk Tryz.prog (ctx n fs fh) where
  tb := tabOk
  fs := fun p hp => by
    obtain ⟨q, hq, rfl⟩ := List.mem_map.1 hp
    exact (h q hq).spec
  fh := h'
def bodyOf (f : Func) : Code := match f.body with | some c => c | none => .skip
theorem wrap_id {x : Int} (h0 : -9223372036854775808 ≤ x) (h1 : x ≤ 9223372036854775807) : IntKind.i64.wrap x = x := by
  rw [IntKind.wrap_i64]; omega
end Go.Proofs.YtaihjcpfjgpmoaaGreatDoor

/- Entries, feeds; whether they are too much. -/
namespace Go.Proofs.YtaihjcpfjgpmoaaGreatDoor
set_option linter.unusedVariables false
set_option linter.unusedSimpArgs false
set_option maxRecDepth 100000
open Go Go.DD
structure Ent where
  author : List UInt8
  seq : Int
  prev : List UInt8
  stamp : Int
  kind : Int
  key : List UInt8
  val : List UInt8
  sig : List UInt8
def opV (e : Ent) : V := .st (.cons (.int .i64 e.kind) (.cons (.str e.key) (.cons (byV false e.val) .nil)))
def entV (e : Ent) : V := .st (.cons (arrV 32 e.author) (.cons (.int .i64 e.seq) (.cons (arrV 32 e.prev) (.cons (.int .i64 e.stamp) (.cons (opV e) (.cons (arrV 64 e.sig) .nil))))))
structure Pf where
  a : Ent
  b : Ent
def pfV (p : Pf) : V := .st (.cons (entV p.a) (.cons (entV p.b) .nil))
structure Fd where
  author : List UInt8
  n : Nat
  es : Nat → Ent
  shut : Bool
  pf : Pf
def fdV (f : Fd) : V := .st (.cons (arrV 32 f.author) (.cons (.imm false 133 f.n fun k => entV (f.es k)) (.cons (.bool f.shut) (.cons (pfV f.pf) .nil))))

theorem any_lt {n i : Nat} {p : Nat → Bool} (h : (List.range i).any p = false) (hi : i < n) (hp : p i = true) : (List.range n).any p = true :=
  List.any_eq_true.2 ⟨i, List.mem_range.2 hi, hp⟩
end Go.Proofs.YtaihjcpfjgpmoaaGreatDoor

/- Feeds that are too much. -/
namespace Go.Proofs.YtaihjcpfjgpmoaaGreatDoor
set_option linter.unusedVariables false
set_option linter.unusedSimpArgs false
set_option maxRecDepth 100000
open Go Go.DD
theorem noref_entV (e : Ent) : noref (entV e) := by simp [entV, opV, byV, arrV, noref, norefs, bf]
end Go.Proofs.YtaihjcpfjgpmoaaGreatDoor

/- Sets that are too much. -/
namespace Go.Proofs.YtaihjcpfjgpmoaaGreatDoor
set_option linter.unusedVariables false
set_option linter.unusedSimpArgs false
set_option maxRecDepth 100000
open Go Go.DD
def fdsV (b : Bool) (n : Nat) (l : Nat → Fd) : V := .imm b 300 n fun k => fdV (l k)
end Go.Proofs.YtaihjcpfjgpmoaaGreatDoor

/- Twins: copies of plain data. -/
namespace Go.Proofs.YtaihjcpfjgpmoaaGreatDoor
set_option linter.unusedVariables false
set_option linter.unusedSimpArgs false
set_option maxRecDepth 100000
open Go Go.DD
theorem own_isU8 {v : V} (h : isU8 v) : own v := by
  cases v <;> simp only [isU8] at h
  simp only [own]
theorem own_bf (l : List UInt8) (k : Nat) : own (bf l k) := own_isU8 (isU8_bf l k)
end Go.Proofs.YtaihjcpfjgpmoaaGreatDoor

/- Twins of rows, of proofs, of feeds. -/
namespace Go.Proofs.YtaihjcpfjgpmoaaGreatDoor
set_option linter.unusedVariables false
set_option linter.unusedSimpArgs false
set_option maxRecDepth 100000
open Go Go.DD
theorem own_entV (e : Ent) : own (entV e) := by
  simp only [entV, arrV, opV, byV, own, owns]
  exact ⟨fun k _ => own_bf _ k, trivial, fun k _ => own_bf _ k, trivial, ⟨trivial, trivial, fun k _ => own_bf _ k, trivial⟩, fun k _ => own_bf _ k, trivial⟩
theorem pln_entV (e : Ent) : pln (entV e) := by
  simp only [entV, arrV, opV, byV, pln, plns]
  exact ⟨fun k _ => trivial, trivial, fun k _ => trivial, trivial, ⟨trivial, trivial, trivial, trivial⟩, fun k _ => trivial, trivial⟩
structure Ents where
  b : Bool
  n : Nat
  es : Nat → Ent
def entsV (b : Bool) (n : Nat) (es : Nat → Ent) : V := .imm b 133 n fun k => entV (es k)
def okE (e : Ent) : Prop := e.val.length ≤ 1000000
def okP (p : Pf) : Prop := okE p.a ∧ okE p.b
def okFd (f : Fd) : Prop := f.n ≤ 10000 ∧ (∀ k, k < f.n → okE (f.es k)) ∧ okP f.pf
theorem pln_fdV (f : Fd) : pln (fdV f) := by
  simp only [fdV, pfV, arrV, pln, plns]
  exact ⟨fun k _ => trivial, trivial, trivial, ⟨pln_entV _, pln_entV _, trivial⟩, trivial⟩
theorem own_fdV (f : Fd) : own (fdV f) := by
  simp only [fdV, pfV, arrV, own, owns]
  exact ⟨fun k _ => own_bf _ k, fun k _ => own_entV _, trivial, ⟨own_entV _, own_entV _, trivial⟩, trivial⟩
structure Fds where
  b : Bool
  n : Nat
  l : Nat → Fd
end Go.Proofs.YtaihjcpfjgpmoaaGreatDoor

/- SHA-256: words, the rounds' words, a block's words. -/
namespace Go.Proofs.YtaihjcpfjgpmoaaGreatDoor
set_option linter.unusedVariables false
set_option linter.unusedSimpArgs false
set_option maxRecDepth 100000
open Go Go.DD
def u32 (x : UInt32) : V := .int .u32 (x.toNat : Nat)
theorem w_wrap (x : UInt32) : IntKind.u32.wrap (x.toNat : Nat) = (x.toNat : Nat) := by
  have := x.toNat_lt
  rw [IntKind.wrap_u32]; omega
theorem w_add (x y : UInt32) : IntKind.u32.wrap ((x.toNat : Nat) + (y.toNat : Nat)) = ((x + y).toNat : Nat) := by
  rw [IntKind.wrap_u32, UInt32.toNat_add]; omega
theorem w_bv (x : UInt32) : BitVec.ofInt 32 (x.toNat : Nat) = x.toBitVec := by
  apply BitVec.eq_of_toNat_eq
  rw [BitVec.toNat_ofInt]
  have := x.toNat_lt
  simp only [UInt32.toNat_toBitVec]
  omega
theorem w_xor (x y : UInt32) : bitsI .xor .u32 (x.toNat : Nat) (y.toNat : Nat) = ((x ^^^ y).toNat : Nat) := by
  simp only [bitsI, IntKind.bits, w_bv]; exact w_wrap (x ^^^ y)
theorem w_and (x y : UInt32) : bitsI .and .u32 (x.toNat : Nat) (y.toNat : Nat) = ((x &&& y).toNat : Nat) := by
  simp only [bitsI, IntKind.bits, w_bv]; exact w_wrap (x &&& y)
theorem w_or (x y : UInt32) : bitsI .or .u32 (x.toNat : Nat) (y.toNat : Nat) = ((x ||| y).toNat : Nat) := by
  simp only [bitsI, IntKind.bits, w_bv]; exact w_wrap (x ||| y)
theorem w_not (x : UInt32) : bitsI .xor .u32 4294967295 (x.toNat : Nat) = ((~~~x).toNat : Nat) := by
  have h : (4294967295 : Int) = (((-1 : UInt32).toNat : Nat) : Int) := by decide
  rw [h, w_xor]
  rfl
theorem w_shr (x : UInt32) (n : Nat) (h : n < 32) : shrI .u32 (x.toNat : Nat) n = ((x >>> (UInt32.ofNat n)).toNat : Nat) := by
  simp only [shrI, IntKind.bits, Int.toNat_natCast, Nat.min_eq_left (Nat.le_of_lt h)]
  have h1 : (UInt32.ofNat n).toNat % 32 = n := by rw [UInt32.toNat_ofNat']; omega
  rw [UInt32.toNat_shiftRight, h1, Nat.shiftRight_eq_div_pow, Int.fdiv_eq_ediv_of_nonneg _ (by exact Int.le_of_lt (Int.pow_pos (by decide)))]
  simp
theorem w_shl8 (x : UInt32) : shlI .u32 (x.toNat : Nat) 8 = ((x <<< 8).toNat : Nat) := by
  simp only [shlI, IntKind.bits]
  rw [IntKind.wrap_u32, UInt32.toNat_shiftLeft, Nat.shiftLeft_eq]
  have h1 : (8 : UInt32).toNat % 32 = 8 := rfl
  rw [h1]
  simp
def rotR (x k : Int) : Int := bitsI BinOp.or IntKind.u32 (shlI IntKind.u32 x (bitsI BinOp.and IntKind.u64 (IntKind.u64.wrap k) 31)) (shrI IntKind.u32 x (IntKind.u64.wrap (32 - bitsI BinOp.and IntKind.u64 (IntKind.u64.wrap k) 31)))
def rotl (x : UInt32) (k : Int) : UInt32 := UInt32.ofNat (rotR (x.toNat : Nat) k).toNat
theorem rotR_eq (x : UInt32) (k : Int) : rotR (x.toNat : Nat) k = ((rotl x k).toNat : Nat) := by
  have h : 0 ≤ rotR (x.toNat : Nat) k ∧ rotR (x.toNat : Nat) k < 4294967296 := by
    simp only [rotR, bitsI]
    rw [IntKind.wrap_u32]
    omega
  simp only [rotl, UInt32.toNat_ofNat']
  omega
theorem and31 (k : Int) : 0 ≤ bitsI BinOp.and IntKind.u64 k 31 := by
  simp only [bitsI]; rw [IntKind.wrap_u64]; omega
def F113 : FSpec := mkF (fun (a : UInt32 × Int) => [u32 a.1, .int .i64 a.2]) (fun _ => True) (fun a => u32 (rotl a.1 a.2))
theorem f113_ok : FOk Tryz.prog [] 118 F113 := mkF_ok fun a _ Φ h => by
  have hΓ := ctxOk Tryz.f118.ntmps [] [] (FL.all .nil) (HL.all .nil)
  refine CP_of_OK hΓ Tryz.func118 (c := bodyOf Tryz.f118) rfl (by decide) rfl rfl (by simp) (vc_ok hΓ mixed 1000 _ [] _ (by kernel_rfl) rfl ?_)
  conv => whnf
  repeat' (first | (refine And.intro (fun _ => ?_) (fun _ => ?_) <;> conv => whnf) | (refine And.intro ?_ ?_ <;> conv => whnf))
  · exact ⟨and31 _⟩
  · refine ⟨?_⟩
    rw [IntKind.wrap_u64]
    omega
  · refine cast (congrArg Φ ?_) h
    simp only [u32]
    rw [← rotR_eq]
    rfl
def high (l : List UInt8) : UInt32 := l.foldl (fun x c => x <<< 8 ||| UInt32.ofNat c.toNat) 0
def okB (a : By) : Prop := a.ok ∧ a.l.length ≤ 1000000
def F136 : FSpec := mkF (fun (a : By) => [a.v]) okB (fun a => u32 (high a.l))
theorem f136_ok : FOk Tryz.prog [] 259 F136 := mkF_ok fun a ⟨ha, hn⟩ Φ h => by
  refine CP.by1 ha ?_
  generalize a.l = l at h hn
  have hΓ := ctxOk Tryz.f259.ntmps [] [] (FL.all .nil) (HL.all .nil)
  refine CP_of_OK hΓ Tryz.func259 (c := bodyOf Tryz.f259) rfl (by decide) rfl rfl (by simp) (vc_ok hΓ mixed 1000 _ [] _ (by kernel_rfl) rfl ?_)
  conv => whnf
  refine OK_loopC (ι := Nat) (fun i => [(3, u32 (high (l.take i))), (6, byV a.b l), (7, .int .i64 (l.length : Nat)), (8, .int .i64 (i : Nat))]) (fun i => []) (fun i => i ≤ l.length) (fun i => l.length - i) 0 [] ?_ (fun i hi => vc_ok hΓ mixed 1000 _ [] _ (by kernel_rfl) rfl ?_)
  · conv => whnf
    repeat' (first | (refine And.intro (fun _ => ?_) (fun _ => ?_) <;> conv => whnf) | (refine And.intro ?_ ?_ <;> conv => whnf))
    all_goals try first | exact ⟨rfl⟩ | exact ⟨⟨rfl, rfl⟩⟩ | exact ⟨⟨rfl, rfl, rfl⟩⟩ | exact ⟨fun _ _ => rfl⟩ | exact ⟨fun _ _ => trivial⟩ | exact ⟨fun k _ => isU8_bf _ k⟩ | exact ⟨by omega⟩ | exact ⟨⟨by omega, by omega⟩⟩ | exact ⟨⟨by omega, by omega, by omega⟩⟩
  · conv => whnf
    repeat' (first | (refine And.intro (fun _ => ?_) (fun _ => ?_) <;> conv => whnf) | (refine And.intro ?_ ?_ <;> conv => whnf))
    all_goals (try simp only [decide_eq_true_eq, decide_eq_false_iff_not, Int.toNat_natCast, Bool.not_eq_true, Bool.not_eq_false] at *)
    all_goals try first | exact ⟨rfl⟩ | exact ⟨⟨rfl, rfl⟩⟩ | exact ⟨⟨rfl, rfl, rfl⟩⟩ | exact ⟨fun _ _ => rfl⟩ | exact ⟨fun _ _ => trivial⟩ | exact ⟨fun k _ => isU8_bf _ k⟩ | exact ⟨by omega⟩ | exact ⟨⟨by omega, by omega⟩⟩ | exact ⟨⟨by omega, by omega, by omega⟩⟩
    · refine ⟨i + 1, [], ?_⟩
      conv => whnf
      repeat' (refine And.intro ?_ ?_ <;> conv => whnf)
      all_goals try first | exact ⟨rfl⟩ | exact ⟨⟨rfl, rfl⟩⟩ | exact ⟨⟨rfl, rfl, rfl⟩⟩ | exact ⟨fun _ _ => rfl⟩ | exact ⟨fun _ _ => trivial⟩ | exact ⟨fun k _ => isU8_bf _ k⟩ | exact ⟨by omega⟩ | exact ⟨⟨by omega, by omega⟩⟩ | exact ⟨⟨by omega, by omega, by omega⟩⟩
      · refine ⟨?_⟩
        have hi' : i < l.length := by omega
        rw [List.take_succ_eq_append_getElem hi']
        simp only [high, List.foldl_append, List.foldl_cons, List.foldl_nil]
        rw [← w_or, ← w_shl8]
        have hc := l[i].toNat_lt
        have h1 : (UInt32.ofNat l[i].toNat).toNat = l[i].toNat := by rw [UInt32.toNat_ofNat']; omega
        have h2 : l.getD i 0 = l[i] := by simp [List.getD_eq_getElem?_getD, hi']
        rw [h1, h2, IntKind.wrap_u32]
        congr 1
        omega
      · exact ⟨by rw [wrap_id (by omega) (by omega)]; rfl⟩
    refine vc_ok hΓ mixed 1000 _ [] _ (by kernel_rfl) rfl ?_
    conv => whnf
    obtain rfl : i = l.length := by omega
    rw [List.take_length]
    exact h
def k256 : List UInt32 := [0x428a2f98, 0x71374491, 0xb5c0fbcf, 0xe9b5dba5, 0x3956c25b, 0x59f111f1, 0x923f82a4, 0xab1c5ed5,
  0xd807aa98, 0x12835b01, 0x243185be, 0x550c7dc3, 0x72be5d74, 0x80deb1fe, 0x9bdc06a7, 0xc19bf174,
  0xe49b69c1, 0xefbe4786, 0x0fc19dc6, 0x240ca1cc, 0x2de92c6f, 0x4a7484aa, 0x5cb0a9dc, 0x76f988da,
  0x983e5152, 0xa831c66d, 0xb00327c8, 0xbf597fc7, 0xc6e00bf3, 0xd5a79147, 0x06ca6351, 0x14292967,
  0x27b70a85, 0x2e1b2138, 0x4d2c6dfc, 0x53380d13, 0x650a7354, 0x766a0abb, 0x81c2c92e, 0x92722c85,
  0xa2bfe8a1, 0xa81a664b, 0xc24b8b70, 0xc76c51a3, 0xd192e819, 0xd6990624, 0xf40e3585, 0x106aa070,
  0x19a4c116, 0x1e376c08, 0x2748774c, 0x34b0bcb5, 0x391c0cb3, 0x4ed8aa4a, 0x5b9cca4f, 0x682e6ff3,
  0x748f82ee, 0x78a5636f, 0x84c87814, 0x8cc70208, 0x90befffa, 0xa4506ceb, 0xbef9a3f7, 0xc67178f2]
def h256 : List UInt32 := [0x6a09e667, 0xbb67ae85, 0x3c6ef372, 0xa54ff53a, 0x510e527f, 0x9b05688c, 0x1f83d9ab, 0x5be0cd19]
def wV (w : Nat → UInt32) : Nat → V := fun k => u32 (w k)
def gw (l : List UInt32) : Nat → UInt32 := fun k => l.getD k 0
def F115 : FSpec := mkF (fun (a : Unit) => []) (fun _ => True) (fun a => .imm false 1 64 (wV (gw k256)))
theorem lt64 {p : Nat → Prop} (h : ∀ k : Fin 64, p k) : ∀ k, k < 64 → p k := fun k hk => h ⟨k, hk⟩
theorem lt8 {p : Nat → Prop} (h0 : p 0) (h1 : p 1) (h2 : p 2) (h3 : p 3) (h4 : p 4) (h5 : p 5) (h6 : p 6) (h7 : p 7) : ∀ k, k < 8 → p k := fun k hk => by
  match k, hk with
  | 0, _ => exact h0
  | 1, _ => exact h1
  | 2, _ => exact h2
  | 3, _ => exact h3
  | 4, _ => exact h4
  | 5, _ => exact h5
  | 6, _ => exact h6
  | 7, _ => exact h7
theorem lt_step {p : Nat → Prop} {n : Nat} (h0 : p n) (h : ∀ k, k < n → p k) : ∀ k, k < n + 1 → p k := fun k hk => by
  rcases Nat.lt_or_ge k n with hk' | hk'
  · exact h k hk'
  · obtain rfl : k = n := by omega
    exact h0
theorem lt_zero {p : Nat → Prop} : ∀ k, k < 0 → p k := fun k hk => absurd hk (by omega)
theorem f115_ok : FOk Tryz.prog [] 243 F115 := mkF_ld fun a _ => by
  have hΓ := ctxOk Tryz.f243.ntmps [] [] (FL.all .nil) (HL.all .nil)
  refine CP_of_OK hΓ Tryz.func243 (c := bodyOf Tryz.f243) rfl (by decide) rfl rfl (by simp) (vc_ok hΓ mixed 1000 _ [] _ (by kernel_rfl) rfl ?_)
  conv => whnf
  repeat' (first | (refine And.intro (fun _ => ?_) (fun _ => ?_) <;> conv => whnf) | (refine And.intro ?_ ?_ <;> conv => whnf))
  · exact ⟨by omega⟩
  · refine ⟨?_⟩
    repeat (refine lt_step trivial ?_)
    exact lt_zero
  · refine Ld.imm ?_
    repeat (refine lt_step rfl ?_)
    exact lt_zero
def F85 : FSpec := mkF (fun (a : Unit) => []) (fun _ => True) (fun a => .row 1 8 (wV (gw h256)))
theorem f85_ok : FOk Tryz.prog [] 196 F85 := mkF_ld fun a _ => by
  have hΓ := ctxOk Tryz.f196.ntmps [] [] (FL.all .nil) (HL.all .nil)
  refine CP_of_OK hΓ Tryz.func196 (c := bodyOf Tryz.f196) rfl (by decide) rfl rfl (by simp) (vc_ok hΓ mixed 1000 _ [] _ (by kernel_rfl) rfl ?_)
  conv => whnf
  repeat' (first | (refine And.intro (fun _ => ?_) (fun _ => ?_) <;> conv => whnf) | (refine And.intro ?_ ?_ <;> conv => whnf))
  · refine ⟨?_⟩
    repeat (refine lt_step trivial ?_)
    exact lt_zero
  · refine Ld.row ?_
    repeat (refine lt_step rfl ?_)
    exact lt_zero
end Go.Proofs.YtaihjcpfjgpmoaaGreatDoor

/- SHA-256: the words of a block's rounds. -/
namespace Go.Proofs.YtaihjcpfjgpmoaaGreatDoor
set_option linter.unusedVariables false
set_option linter.unusedSimpArgs false
set_option maxRecDepth 100000
open Go Go.DD
def sg0 (x : UInt32) : UInt32 := rotl x (-7) ^^^ rotl x (-18) ^^^ x >>> 3
def sg1 (y : UInt32) : UInt32 := rotl y (-17) ^^^ rotl y (-19) ^^^ y >>> 10
def nextW (w : Nat → UInt32) (i : Nat) : UInt32 := w (i - 16) + sg0 (w (i - 15)) + w (i - 7) + sg1 (w (i - 2))
def sp (p : List UInt8) : Nat → Nat → UInt32
  | 0 => fun _ => 0
  | i + 1 => fun k => if k = i then (if i < 16 then high ((p.drop (4 * i)).take 4) else nextW (sp p i) i) else sp p i k
theorem w_shr3 (x : UInt32) : shrI .u32 (x.toNat : Nat) 3 = ((x >>> 3).toNat : Nat) := w_shr x 3 (by decide)
theorem w_shr10 (x : UInt32) : shrI .u32 (x.toNat : Nat) 10 = ((x >>> 10).toNat : Nat) := w_shr x 10 (by decide)
def F116 : FSpec := mkF (fun (a : By) => [a.v]) (fun a => a.ok ∧ a.l.length = 64) (fun a => .row 1 64 (wV (sp a.l 64)))
theorem f116_ok : FOk Tryz.prog [] 244 F116 := mkF_ok fun a ⟨ha, hn⟩ Φ h => by
  refine CP.by1 ha ?_
  generalize a.l = l at h hn
  have hΓ := ctxOk Tryz.f244.ntmps [(118, F113), (259, F136)] [] (FL.all (.cons f113_ok (.cons f136_ok .nil))) (HL.all .nil)
  refine CP_of_OK hΓ Tryz.func244 (c := bodyOf Tryz.f244) rfl (by decide) rfl rfl (by simp) (vc_ok hΓ mixed 1000 _ [] _ (by kernel_rfl) rfl ?_)
  conv => whnf
  refine OK_loopC (ι := Nat) (fun i => [(0, byV a.b l), (2, .ref 0 []), (3, .ref 1 []), (9, .int .i64 (i : Nat))]) (fun i => [some (.row 1 64 (wV (sp l 0))), some (.row 1 64 (wV (sp l i)))]) (fun i => i ≤ 64) (fun i => 64 - i) 0 [some 0, some 1] ?_ (fun i hi => vc_ok hΓ mixed 1000 _ [] _ (by kernel_rfl) rfl ?_)
  · conv => whnf
    repeat' (first | (refine And.intro (fun _ => ?_) (fun _ => ?_) <;> conv => whnf) | (refine And.intro ?_ ?_ <;> conv => whnf))
    all_goals try first | exact ⟨rfl⟩ | exact ⟨⟨rfl, rfl⟩⟩ | exact ⟨⟨rfl, rfl, rfl⟩⟩ | exact ⟨fun _ _ => rfl⟩ | exact ⟨fun _ _ => trivial⟩ | exact ⟨fun k _ => isU8_bf _ k⟩ | exact ⟨by omega⟩ | exact ⟨⟨by omega, by omega⟩⟩ | exact ⟨⟨by omega, by omega, by omega⟩⟩ | exact ⟨fun k _ => leV_refl _ trivial⟩
  · conv => whnf
    repeat' (first | (refine And.intro (fun _ => ?_) (fun _ => ?_) <;> conv => whnf) | (refine And.intro ?_ ?_ <;> conv => whnf))
    all_goals (try simp only [decide_eq_true_eq, decide_eq_false_iff_not, Int.toNat_natCast, Bool.not_eq_true, Bool.not_eq_false] at *)
    all_goals try first | exact ⟨rfl⟩ | exact ⟨⟨rfl, rfl⟩⟩ | exact ⟨⟨rfl, rfl, rfl⟩⟩ | exact ⟨fun _ _ => rfl⟩ | exact ⟨fun _ _ => trivial⟩ | exact ⟨fun k _ => isU8_bf _ k⟩ | exact ⟨by omega⟩ | exact ⟨⟨by omega, by omega⟩⟩ | exact ⟨⟨by omega, by omega, by omega⟩⟩
    · exact ⟨⟨by rw [IntKind.wrap_i64]; omega, by rw [IntKind.wrap_i64, IntKind.wrap_i64]; omega, by rw [IntKind.wrap_i64, IntKind.wrap_i64]; omega⟩⟩
    · have e1 : (IntKind.i64.wrap (4 * (i : Int))).toNat = 4 * i := by rw [IntKind.wrap_i64]; omega
      have e2 : (IntKind.i64.wrap (IntKind.i64.wrap (4 * (i : Int)) + 4)).toNat - (IntKind.i64.wrap (4 * (i : Int))).toNat = 4 := by rw [IntKind.wrap_i64, IntKind.wrap_i64]; omega
      refine ⟨.imm _ _ _, rfl, ⟨fun k hk => isU8_bf _ _, ?_⟩, ?_⟩
      · simp only [By.l, bytesOf_length]; omega
      conv => whnf
      repeat' (first | (refine And.intro (fun _ => ?_) (fun _ => ?_) <;> conv => whnf) | (refine And.intro ?_ ?_ <;> conv => whnf))
      all_goals try first | exact ⟨rfl⟩ | exact ⟨⟨rfl, rfl⟩⟩ | exact ⟨⟨rfl, rfl, rfl⟩⟩ | exact ⟨fun _ _ => rfl⟩ | exact ⟨fun _ _ => trivial⟩ | exact ⟨fun k _ => isU8_bf _ k⟩ | exact ⟨by omega⟩ | exact ⟨⟨by omega, by omega⟩⟩ | exact ⟨⟨by omega, by omega, by omega⟩⟩
      · refine ⟨i + 1, [some 0, some 1], ?_⟩
        conv => whnf
        repeat' (refine And.intro ?_ ?_ <;> conv => whnf)
        all_goals try first | exact ⟨rfl⟩ | exact ⟨⟨rfl, rfl⟩⟩ | exact ⟨⟨rfl, rfl, rfl⟩⟩ | exact ⟨fun _ _ => rfl⟩ | exact ⟨fun _ _ => trivial⟩ | exact ⟨fun k _ => isU8_bf _ k⟩ | exact ⟨by omega⟩ | exact ⟨⟨by omega, by omega⟩⟩ | exact ⟨⟨by omega, by omega, by omega⟩⟩ | exact ⟨fun k _ => leV_refl _ trivial⟩
        · exact ⟨by rw [wrap_id (by omega) (by omega)]; rfl⟩
        · refine ⟨fun k hk => leV_eq ?_ trivial⟩
          by_cases hki : k = i
          · refine (if_pos hki).trans ?_
            show V.int .u32 _ = _
            simp only [wV, u32, sp, if_pos hki, By.l]
            rw [if_pos (by omega), e2, e1, bytesOf_sub _ _ _ (by omega)]
          · refine (if_neg hki).trans ?_
            simp only [wV, sp, if_neg hki]
    · exact ⟨⟨by rw [IntKind.wrap_i64]; omega, by rw [IntKind.wrap_i64]; omega⟩⟩
    · exact ⟨by rw [IntKind.wrap_i64]; omega⟩
    · exact ⟨⟨by rw [IntKind.wrap_i64]; omega, by rw [IntKind.wrap_i64]; omega⟩⟩
    · exact ⟨by rw [IntKind.wrap_i64]; omega⟩
    · refine ⟨(_, _), rfl, ⟨trivial⟩, ?_⟩
      conv => whnf
      refine ⟨(_, _), rfl, ⟨trivial⟩, ?_⟩
      conv => whnf
      refine And.intro (show Ob (_ ≤ _) from ⟨by decide⟩) ?_
      conv => whnf
      refine ⟨(_, _), rfl, ⟨trivial⟩, ?_⟩
      conv => whnf
      refine ⟨(_, _), rfl, ⟨trivial⟩, ?_⟩
      conv => whnf
      repeat' (first | (refine And.intro (fun _ => ?_) (fun _ => ?_) <;> conv => whnf) | (refine And.intro ?_ ?_ <;> conv => whnf))
      all_goals try first | exact ⟨rfl⟩ | exact ⟨⟨rfl, rfl⟩⟩ | exact ⟨⟨rfl, rfl, rfl⟩⟩ | exact ⟨fun _ _ => rfl⟩ | exact ⟨fun _ _ => trivial⟩ | exact ⟨fun k _ => isU8_bf _ k⟩ | exact ⟨by omega⟩ | exact ⟨⟨by omega, by omega⟩⟩ | exact ⟨⟨by omega, by omega, by omega⟩⟩
      · exact ⟨⟨by rw [IntKind.wrap_i64]; omega, by rw [IntKind.wrap_i64]; omega⟩⟩
      · exact ⟨by rw [IntKind.wrap_i64]; omega⟩
      · exact ⟨⟨by rw [IntKind.wrap_i64]; omega, by rw [IntKind.wrap_i64]; omega⟩⟩
      · exact ⟨by rw [IntKind.wrap_i64]; omega⟩
      refine ⟨i + 1, [some 0, some 1], ?_⟩
      conv => whnf
      repeat' (refine And.intro ?_ ?_ <;> conv => whnf)
      all_goals try first | exact ⟨rfl⟩ | exact ⟨⟨rfl, rfl⟩⟩ | exact ⟨⟨rfl, rfl, rfl⟩⟩ | exact ⟨fun _ _ => rfl⟩ | exact ⟨fun _ _ => trivial⟩ | exact ⟨fun k _ => isU8_bf _ k⟩ | exact ⟨by omega⟩ | exact ⟨⟨by omega, by omega⟩⟩ | exact ⟨⟨by omega, by omega, by omega⟩⟩ | exact ⟨fun k _ => leV_refl _ trivial⟩
      · exact ⟨by rw [wrap_id (by omega) (by omega)]; rfl⟩
      · refine ⟨fun k hk => leV_eq ?_ trivial⟩
        by_cases hki : k = i
        · refine (if_pos hki).trans ?_
          show V.int .u32 _ = _
          have e2 : (IntKind.i64.wrap ((i : Int) - 2)).toNat = i - 2 := by rw [IntKind.wrap_i64]; omega
          have e7 : (IntKind.i64.wrap ((i : Int) - 7)).toNat = i - 7 := by rw [IntKind.wrap_i64]; omega
          have e15 : (IntKind.i64.wrap ((i : Int) - 15)).toNat = i - 15 := by rw [IntKind.wrap_i64]; omega
          have e16 : (IntKind.i64.wrap ((i : Int) - 16)).toNat = i - 16 := by rw [IntKind.wrap_i64]; omega
          simp only [e2, e7, e15, e16, w_xor, w_shr3, w_shr10, w_add, wV, u32, sp, if_pos hki]
          rw [if_neg (by omega)]
          rfl
        · refine (if_neg hki).trans ?_
          simp only [wV, sp, if_neg hki]
    refine vc_ok hΓ mixed 1000 _ [] _ (by kernel_rfl) rfl ?_
    conv => whnf
    conv => whnf
    repeat' (refine And.intro ?_ ?_ <;> conv => whnf)
    · exact ⟨fun k _ => trivial⟩
    obtain rfl : i = 64 := by omega
    exact h
end Go.Proofs.YtaihjcpfjgpmoaaGreatDoor

/- SHA-256: the words behind a block. -/
namespace Go.Proofs.YtaihjcpfjgpmoaaGreatDoor
set_option linter.unusedVariables false
set_option linter.unusedSimpArgs false
set_option maxRecDepth 100000
open Go Go.DD
theorem w_not' (x : UInt32) : bitsI .xor .u32 (if IntKind.u32.signed = true then -1 else IntKind.u32.max) (x.toNat : Nat) = ((~~~x).toNat : Nat) := w_not x
def oneW (v : Nat → UInt32) (k w : UInt32) : UInt32 :=
  v 7 + (rotl (v 4) (-6) ^^^ rotl (v 4) (-11) ^^^ rotl (v 4) (-25)) + ((v 4 &&& v 5) ^^^ (~~~(v 4) &&& v 6)) + k + w
def twoW (v : Nat → UInt32) : UInt32 :=
  (rotl (v 0) (-2) ^^^ rotl (v 0) (-13) ^^^ rotl (v 0) (-22)) + ((v 0 &&& v 1) ^^^ (v 0 &&& v 2) ^^^ (v 1 &&& v 2))
def stepW (v : Nat → UInt32) (k w : UInt32) : Nat → UInt32
  | 0 => oneW v k w + twoW v
  | 1 => v 0
  | 2 => v 1
  | 3 => v 2
  | 4 => v 3 + oneW v k w
  | 5 => v 4
  | 6 => v 5
  | _ => v 6
def rnd (w h : Nat → UInt32) : Nat → Nat → UInt32
  | 0 => h
  | i + 1 => stepW (rnd w h i) (gw k256 i) (w i)
/-- The words behind a block. -/
def takeW (h : Nat → UInt32) (p : List UInt8) : Nat → UInt32 := fun k => h k + rnd (sp p 64) h 64 k
def F87 : FSpec := mkF (fun (a : (Nat → UInt32) × By) => [.row 1 8 (wV a.1), a.2.v]) (fun a => a.2.ok ∧ a.2.l.length = 64) (fun a => .row 1 8 (wV (takeW a.1 a.2.l)))
theorem f87_ok : FOk Tryz.prog [] 197 F87 := mkF_ld fun a ⟨ha, hn⟩ => by
  refine CP.by2 ha ?_
  generalize a.2.l = l at hn
  obtain ⟨h, a⟩ := a
  have hΓ := ctxOk Tryz.f197.ntmps [(243, F115), (244, F116), (118, F113)] [] (FL.all (.cons f115_ok (.cons f116_ok (.cons f113_ok .nil)))) (HL.all .nil)
  refine CP_of_OK hΓ Tryz.func197 (c := bodyOf Tryz.f197) rfl (by decide) rfl rfl (by simp) (vc_ok hΓ mixed 1000 _ [] _ (by kernel_rfl) rfl ?_)
  conv => whnf
  repeat' (first | (refine And.intro (fun _ => ?_) (fun _ => ?_) <;> conv => whnf) | (refine And.intro ?_ ?_ <;> conv => whnf))
  all_goals try first | exact ⟨rfl⟩ | exact ⟨⟨rfl, rfl⟩⟩ | exact ⟨⟨rfl, rfl, rfl⟩⟩ | exact ⟨fun _ _ => rfl⟩ | exact ⟨fun _ _ => trivial⟩ | exact ⟨fun k _ => isU8_bf _ k⟩ | exact ⟨by omega⟩ | exact ⟨⟨by omega, by omega⟩⟩ | exact ⟨⟨by omega, by omega, by omega⟩⟩
  refine ⟨(), rfl, ⟨trivial⟩, ?_⟩
  conv => whnf
  refine ⟨.of _ _, rfl, ⟨trivial, hn⟩, ?_⟩
  conv => whnf
  refine OK_loopC (ι := Nat) (fun i => [(2, .ref 0 []), (4, .ref 1 []), (5, .ref 2 []), (6, .imm false 1 64 (wV (gw k256))), (19, .row 1 64 (wV (sp l 64))), (20, .int .i64 (i : Nat))]) (fun i => [some (.row 1 8 (wV h)), some (.row 1 8 fun _ => u32 0), some (.row 1 8 (wV (rnd (sp l 64) h i)))]) (fun i => i ≤ 64) (fun i => 64 - i) 0 [some 0, some 1, some 2] ?_ (fun i hi => vc_ok hΓ mixed 1000 _ [] _ (by kernel_rfl) rfl ?_)
  · conv => whnf
    repeat' (first | (refine And.intro (fun _ => ?_) (fun _ => ?_) <;> conv => whnf) | (refine And.intro ?_ ?_ <;> conv => whnf))
    all_goals try first | exact ⟨rfl⟩ | exact ⟨⟨rfl, rfl⟩⟩ | exact ⟨⟨rfl, rfl, rfl⟩⟩ | exact ⟨fun _ _ => rfl⟩ | exact ⟨fun _ _ => trivial⟩ | exact ⟨fun k _ => isU8_bf _ k⟩ | exact ⟨by omega⟩ | exact ⟨⟨by omega, by omega⟩⟩ | exact ⟨⟨by omega, by omega, by omega⟩⟩ | exact ⟨fun k _ => leV_refl _ trivial⟩
  · conv => whnf
    repeat' (first | (refine And.intro (fun _ => ?_) (fun _ => ?_) <;> conv => whnf) | (refine And.intro ?_ ?_ <;> conv => whnf))
    all_goals (try simp only [decide_eq_true_eq, decide_eq_false_iff_not, Int.toNat_natCast, Bool.not_eq_true, Bool.not_eq_false] at *)
    all_goals try first | exact ⟨rfl⟩ | exact ⟨⟨rfl, rfl⟩⟩ | exact ⟨⟨rfl, rfl, rfl⟩⟩ | exact ⟨fun _ _ => rfl⟩ | exact ⟨fun _ _ => trivial⟩ | exact ⟨fun k _ => isU8_bf _ k⟩ | exact ⟨by omega⟩ | exact ⟨⟨by omega, by omega⟩⟩ | exact ⟨⟨by omega, by omega, by omega⟩⟩
    · refine ⟨(_, _), rfl, ⟨trivial⟩, ?_⟩
      conv => whnf
      refine ⟨(_, _), rfl, ⟨trivial⟩, ?_⟩
      conv => whnf
      refine ⟨(_, _), rfl, ⟨trivial⟩, ?_⟩
      conv => whnf
      conv => whnf
      repeat' (first | (refine And.intro (fun _ => ?_) (fun _ => ?_) <;> conv => whnf) | (refine And.intro ?_ ?_ <;> conv => whnf))
      all_goals try first | exact ⟨rfl⟩ | exact ⟨⟨rfl, rfl⟩⟩ | exact ⟨⟨rfl, rfl, rfl⟩⟩ | exact ⟨fun _ _ => rfl⟩ | exact ⟨fun _ _ => trivial⟩ | exact ⟨fun k _ => isU8_bf _ k⟩ | exact ⟨by omega⟩ | exact ⟨⟨by omega, by omega⟩⟩ | exact ⟨⟨by omega, by omega, by omega⟩⟩
      refine ⟨(_, _), rfl, ⟨trivial⟩, ?_⟩
      conv => whnf
      refine ⟨(_, _), rfl, ⟨trivial⟩, ?_⟩
      conv => whnf
      refine ⟨(_, _), rfl, ⟨trivial⟩, ?_⟩
      conv => whnf
      conv => whnf
      repeat' (first | (refine And.intro (fun _ => ?_) (fun _ => ?_) <;> conv => whnf) | (refine And.intro ?_ ?_ <;> conv => whnf))
      all_goals try first | exact ⟨rfl⟩ | exact ⟨⟨rfl, rfl⟩⟩ | exact ⟨⟨rfl, rfl, rfl⟩⟩ | exact ⟨fun _ _ => rfl⟩ | exact ⟨fun _ _ => trivial⟩ | exact ⟨fun k _ => isU8_bf _ k⟩ | exact ⟨by omega⟩ | exact ⟨⟨by omega, by omega⟩⟩ | exact ⟨⟨by omega, by omega, by omega⟩⟩
      refine ⟨i + 1, [some 0, some 1, some 2], ?_⟩
      conv => whnf
      repeat' (refine And.intro ?_ ?_ <;> conv => whnf)
      all_goals try first | exact ⟨rfl⟩ | exact ⟨⟨rfl, rfl⟩⟩ | exact ⟨⟨rfl, rfl, rfl⟩⟩ | exact ⟨fun _ _ => rfl⟩ | exact ⟨fun _ _ => trivial⟩ | exact ⟨fun k _ => isU8_bf _ k⟩ | exact ⟨by omega⟩ | exact ⟨⟨by omega, by omega⟩⟩ | exact ⟨⟨by omega, by omega, by omega⟩⟩
      all_goals try exact ⟨fun k _ => leV_refl _ trivial⟩
      · exact ⟨by rw [wrap_id (by omega) (by omega)]; rfl⟩
      · refine ⟨lt8 ?_ ?_ ?_ ?_ ?_ ?_ ?_ ?_⟩
        all_goals refine leV_eq ?_ trivial
        all_goals show V.int .u32 _ = V.int .u32 _
        all_goals (try simp only [w_xor, w_and, w_not', w_add])
        all_goals exact rfl
    refine vc_ok hΓ mixed 1000 _ [] _ (by kernel_rfl) rfl ?_
    conv => whnf
    refine OK_loopC (ι := Nat) (fun j => [(2, .ref 0 []), (4, .ref 1 []), (5, .ref 2 []), (102, .int .i64 (j : Nat))]) (fun j => [some (.row 1 8 (wV fun k => if k < j then takeW h l k else h k)), some (.row 1 8 fun _ => u32 0), some (.row 1 8 (wV (rnd (sp l 64) h 64)))]) (fun j => j ≤ 8) (fun j => 8 - j) 0 [some 0, some 1, some 2] ?_ (fun i hi => vc_ok hΓ mixed 1000 _ [] _ (by kernel_rfl) rfl ?_)
    · conv => whnf
      repeat' (first | (refine And.intro (fun _ => ?_) (fun _ => ?_) <;> conv => whnf) | (refine And.intro ?_ ?_ <;> conv => whnf))
      all_goals try first | exact ⟨rfl⟩ | exact ⟨⟨rfl, rfl⟩⟩ | exact ⟨⟨rfl, rfl, rfl⟩⟩ | exact ⟨fun _ _ => rfl⟩ | exact ⟨fun _ _ => trivial⟩ | exact ⟨fun k _ => isU8_bf _ k⟩ | exact ⟨by omega⟩ | exact ⟨⟨by omega, by omega⟩⟩ | exact ⟨⟨by omega, by omega, by omega⟩⟩
      · obtain rfl : i = 64 := by omega
        exact ⟨fun k _ => leV_refl _ trivial⟩
    · rename_i hi0
      clear hi hi0
      conv => whnf
      repeat' (first | (refine And.intro (fun _ => ?_) (fun _ => ?_) <;> conv => whnf) | (refine And.intro ?_ ?_ <;> conv => whnf))
      all_goals (try simp only [decide_eq_true_eq, decide_eq_false_iff_not, Int.toNat_natCast, Bool.not_eq_true, Bool.not_eq_false] at *)
      all_goals try first | exact ⟨rfl⟩ | exact ⟨⟨rfl, rfl⟩⟩ | exact ⟨⟨rfl, rfl, rfl⟩⟩ | exact ⟨fun _ _ => rfl⟩ | exact ⟨fun _ _ => trivial⟩ | exact ⟨fun k _ => isU8_bf _ k⟩ | exact ⟨by omega⟩ | exact ⟨⟨by omega, by omega⟩⟩ | exact ⟨⟨by omega, by omega, by omega⟩⟩
      · refine ⟨i + 1, [some 0, some 1, some 2], ?_⟩
        conv => whnf
        repeat' (refine And.intro ?_ ?_ <;> conv => whnf)
        all_goals try first | exact ⟨rfl⟩ | exact ⟨⟨rfl, rfl⟩⟩ | exact ⟨⟨rfl, rfl, rfl⟩⟩ | exact ⟨fun _ _ => rfl⟩ | exact ⟨fun _ _ => trivial⟩ | exact ⟨fun k _ => isU8_bf _ k⟩ | exact ⟨by omega⟩ | exact ⟨⟨by omega, by omega⟩⟩ | exact ⟨⟨by omega, by omega, by omega⟩⟩
        all_goals try exact ⟨fun k _ => leV_refl _ trivial⟩
        · exact ⟨by rw [wrap_id (by omega) (by omega)]; rfl⟩
        · refine ⟨fun k hk => leV_eq ?_ trivial⟩
          by_cases hki : k = i
          · refine (if_pos hki).trans ?_
            show V.int .u32 _ = _
            simp only [w_add, if_neg (Nat.lt_irrefl i), wV, if_pos (show k < i + 1 by omega)]
            subst hki
            rfl
          · refine (if_neg hki).trans ?_
            simp only [wV]
            by_cases h2 : k < i
            · rw [if_pos h2, if_pos (by omega)]
            · rw [if_neg h2, if_neg (by omega)]
      refine vc_ok hΓ mixed 1000 _ [] _ (by kernel_rfl) rfl ?_
      conv => whnf
      conv => whnf
      repeat' (refine And.intro ?_ ?_ <;> conv => whnf)
      · exact ⟨fun k _ => trivial⟩
      refine Ld.row fun k hk => ?_
      simp only [wV]
      rw [if_pos (by omega)]
end Go.Proofs.YtaihjcpfjgpmoaaGreatDoor

/- Bytes: clones, rows side by side. -/
namespace Go.Proofs.YtaihjcpfjgpmoaaGreatDoor
set_option linter.unusedVariables false
set_option linter.unusedSimpArgs false
set_option maxRecDepth 100000
open Go Go.DD
def F88 : FSpec := mkF (fun (a : By) => [a.v]) okB (fun a => byV false a.l)
theorem f88_ok : FOk Tryz.prog [] 46 F88 := mkF_ld fun a ⟨ha, hn⟩ => by
  refine CP.by1 ha ?_
  generalize a.l = l at hn
  have hΓ := ctxOk Tryz.f46.ntmps [] [] (FL.all .nil) (HL.all .nil)
  refine CP_of_OK hΓ Tryz.func46 (c := bodyOf Tryz.f46) rfl (by decide) rfl rfl (by simp) (vc_ok hΓ mixed 1000 _ [] _ (by kernel_rfl) rfl ?_)
  conv => whnf
  intro b hb
  conv => whnf
  refine And.intro (fun h1 => ?_) (fun h1 => ?_) <;> conv => whnf
  · have hl : l = [] := List.length_eq_zero_iff.1 (hb h1)
    subst hl
    exact Ld.emp
  · refine Or.inl ?_
    conv => whnf
    repeat' (first | (refine And.intro (fun _ => ?_) (fun _ => ?_) <;> conv => whnf) | (refine And.intro ?_ ?_ <;> conv => whnf))
    all_goals try first | exact ⟨rfl⟩ | exact ⟨⟨rfl, rfl⟩⟩ | exact ⟨⟨rfl, rfl, rfl⟩⟩ | exact ⟨fun _ _ => rfl⟩ | exact ⟨fun _ _ => trivial⟩ | exact ⟨fun k _ => isU8_bf _ k⟩ | exact ⟨by omega⟩ | exact ⟨⟨by omega, by omega⟩⟩ | exact ⟨⟨by omega, by omega, by omega⟩⟩ | exact ⟨⟨by simp only []; omega, by omega⟩⟩
    · refine cast (congrArg (fun n => Ld (V.imm false 1 n _) _) (Nat.zero_add l.length).symm) ?_
      refine Ld.imm fun k hk => ?_
      exact (if_neg (Nat.not_lt_zero _)).trans (by rw [Nat.zero_add]; rfl)
/-- The first rows, side by side. -/
def cat (ls : Nat → List UInt8) : Nat → List UInt8 | 0 => [] | n + 1 => cat ls n ++ ls n
theorem c114_ok : CtxOk Tryz.prog (ctx Tryz.f147.ntmps [] []) := ctxOk Tryz.f147.ntmps [] [] (FL.all .nil) (HL.all .nil)
def S114 : SpecH := fun xs h κ => xs.length = 2 ∧ inlineS Tryz.prog (ctx Tryz.f147.ntmps [] []) (bodyOf Tryz.f147) Tryz.f147.results.toList xs h κ
theorem s114_ok : SpecHOk Tryz.prog [] 147 S114 := inline_ok (c := bodyOf Tryz.f147) (np := 2) c114_ok Tryz.func147 rfl (by decide) rfl (by decide)
def catn (ls : Nat → List UInt8) : Nat → Nat | 0 => 0 | n + 1 => catn ls n + (ls n).length
theorem bf_append (l m : List UInt8) (k : Nat) : bf (l ++ m) k = if l.length ≤ k ∧ k < l.length + m.length then bf m (k - l.length) else bf l k := by
  simp only [bf, List.getD_eq_getElem?_getD]
  split
  · rw [List.getElem?_append_right (by omega)]
  · by_cases h : k < l.length
    · rw [List.getElem?_append_left h]
    · rw [List.getElem?_append_right (by omega), List.getElem?_eq_none (show m.length ≤ k - l.length by omega), List.getElem?_eq_none (show l.length ≤ k by omega)]
theorem catn_mono (ls : Nat → List UInt8) : ∀ i n, i ≤ n → catn ls i ≤ catn ls n
  | i, 0, h => by obtain rfl : i = 0 := by omega
                  exact Nat.le_refl _
  | i, n + 1, h => by
    rcases Nat.lt_or_ge n i with h1 | h1
    · obtain rfl : i = n + 1 := by omega
      exact Nat.le_refl _
    · have := catn_mono ls i n h1
      simp only [catn]; omega
theorem R_emp_imm {E : Env} {c : Nat → Option Value} {o : Nat} {b : Bool} {f : Nat → V} (h : R E .emp c o) : R E (.imm b 1 0 f) c o := by
  simp only [R] at h ⊢
  obtain ⟨a, h⟩ := h
  exact ⟨a, 0, h, Nat.le_refl _, by simp⟩
theorem T_imm_by {E : Env} {l : Bool} {n : Nat} {f : Nat → V} {bs : Nat → Bool} {ls : Nat → List UInt8} {x : Value} (h : ∀ k, k < n → f k = byV (bs k) (ls k) ∨ (f k = .emp ∧ ls k = [])) (hT : T E (.imm l 1 n f) x) : T E (.imm l 1 n fun k => byV (bs k) (ls k)) x := by
  obtain ⟨a, cp, h1, h2, h3⟩ := T_imm.1 hT
  refine T_imm.2 ⟨a, cp, h1, h2, h3.imp id fun ⟨b, off, h4, h5, h6⟩ => ⟨b, off, h4, h5, fun k hk => ?_⟩⟩
  rcases h k hk with e | ⟨e, e2⟩
  · rw [← e]; exact h6 k hk
  · have := h6 k hk
    rw [e] at this
    simp only [byV, e2, List.length_nil]
    exact ⟨rfl, R_emp_imm this.2⟩
structure Bys where
  b : Bool
  n : Nat
  f : Nat → V
  bs : Nat → Bool
  ls : Nat → List UInt8
def F86 : FSpec := mkF (fun (a : Bys) => [.imm a.b 1 a.n a.f]) (fun a => a.n ≤ 1000 ∧ (∀ k, k < a.n → (a.ls k).length ≤ 1000000) ∧ ∀ k, k < a.n → a.f k = byV (a.bs k) (a.ls k) ∨ (a.f k = .emp ∧ a.ls k = [])) (fun a => byV false (cat a.ls a.n))
theorem catn_le {ls : Nat → List UInt8} {n : Nat} (h : ∀ k, k < n → (ls k).length ≤ 1000000) : ∀ i, i ≤ n → catn ls i ≤ 1000000 * i
  | 0, _ => by simp [catn]
  | i + 1, hi => by have := catn_le h i (by omega); have := h i (by omega); simp only [catn]; omega
theorem cat_length {ls : Nat → List UInt8} : ∀ i, (cat ls i).length = catn ls i
  | 0 => rfl
  | i + 1 => by simp [cat, catn, cat_length i]
theorem f86_ok : FOk Tryz.prog [] 101 F86 := mkF_ld fun a ⟨hn, hl, hf⟩ => by
  refine CP.le (ys := [.imm a.b 1 a.n fun k => byV (a.bs k) (a.ls k)]) (fun E l hT => ?_) ?_
  · cases l with
    | nil => exact hT
    | cons x l => exact ⟨T_imm_by hf hT.1, hT.2⟩
  have hb := catn_le hl
  have hΓ := ctxOk Tryz.f101.ntmps [] [(147, S114)] (FL.all .nil) (HL.all (.cons s114_ok .nil))
  refine CP_of_OK hΓ Tryz.func101 (c := bodyOf Tryz.f101) rfl (by decide) rfl rfl (by simp) (vc_ok hΓ mixed 1000 _ [] _ (by kernel_rfl) rfl ?_)
  conv => whnf
  refine OK_loopC (ι := Nat) (fun i => [(0, .imm a.b 1 a.n fun k => byV (a.bs k) (a.ls k)), (3, .int .i64 (catn a.ls i : Nat)), (9, .imm a.b 1 a.n fun k => byV (a.bs k) (a.ls k)), (10, .int .i64 (a.n : Nat)), (11, .int .i64 (i : Nat))]) (fun i => []) (fun i => i ≤ a.n) (fun i => a.n - i) 0 [] ?_ (fun i hi => vc_ok hΓ mixed 1000 _ [] _ (by kernel_rfl) rfl ?_)
  · conv => whnf
    repeat' (first | (refine And.intro (fun _ => ?_) (fun _ => ?_) <;> conv => whnf) | (refine And.intro ?_ ?_ <;> conv => whnf))
    all_goals try first | exact ⟨rfl⟩ | exact ⟨⟨rfl, rfl⟩⟩ | exact ⟨⟨rfl, rfl, rfl⟩⟩ | exact ⟨fun _ _ => rfl⟩ | exact ⟨fun _ _ => trivial⟩ | exact ⟨fun k _ => isU8_bf _ k⟩ | exact ⟨by omega⟩ | exact ⟨⟨by omega, by omega⟩⟩ | exact ⟨⟨by omega, by omega, by omega⟩⟩
  · have hbi := hb i hi
    conv => whnf
    repeat' (first | (refine And.intro (fun _ => ?_) (fun _ => ?_) <;> conv => whnf) | (refine And.intro ?_ ?_ <;> conv => whnf))
    all_goals (try simp only [decide_eq_true_eq, decide_eq_false_iff_not, Int.toNat_natCast, Bool.not_eq_true, Bool.not_eq_false] at *)
    all_goals try first | exact ⟨rfl⟩ | exact ⟨⟨rfl, rfl⟩⟩ | exact ⟨⟨rfl, rfl, rfl⟩⟩ | exact ⟨fun _ _ => rfl⟩ | exact ⟨fun _ _ => trivial⟩ | exact ⟨fun k _ => isU8_bf _ k⟩ | exact ⟨by omega⟩ | exact ⟨⟨by omega, by omega⟩⟩ | exact ⟨⟨by omega, by omega, by omega⟩⟩
    · rename_i h1 h2
      have h3 := hl i (by omega)
      rw [wrap_id (by omega) (by omega)] at h2
      omega
    · have h3 := hl i (by omega)
      refine ⟨i + 1, [], ?_⟩
      conv => whnf
      repeat' (refine And.intro ?_ ?_ <;> conv => whnf)
      all_goals try first | exact ⟨rfl⟩ | exact ⟨⟨rfl, rfl⟩⟩ | exact ⟨⟨rfl, rfl, rfl⟩⟩ | exact ⟨fun _ _ => rfl⟩ | exact ⟨fun _ _ => trivial⟩ | exact ⟨fun k _ => isU8_bf _ k⟩ | exact ⟨by omega⟩ | exact ⟨⟨by omega, by omega⟩⟩ | exact ⟨⟨by omega, by omega, by omega⟩⟩
      · exact ⟨by rw [wrap_id (by omega) (by omega)]; simp only [catn]; omega⟩
      · exact ⟨by rw [wrap_id (by omega) (by omega)]; rfl⟩
    obtain rfl : i = a.n := by omega
    refine vc_ok hΓ mixed 1000 _ [] _ (by kernel_rfl) rfl ?_
    conv => whnf
    refine ⟨rfl, ?_⟩
    refine vc_ok (CtxOk.inner c114_ok _) mixed 1000 _ [] _ (by kernel_rfl) rfl ?_
    conv => whnf
    refine And.intro (fun h1 => ?_) (fun h1 => ?_) <;> conv => whnf
    · simp only [decide_eq_true_eq] at h1
      omega
    have hN : catn a.ls a.n ≤ 1000000000 := by omega
    refine And.intro (fun h2 => ?_) (fun h2 => ?_) <;> conv => whnf
    · have e0 : IntKind.i64.wrap ((catn a.ls a.n : Nat) - IntKind.i64.wrap (0 - 0)) = (catn a.ls a.n : Nat) := by
        rw [show IntKind.i64.wrap (0 - 0) = 0 from rfl, wrap_id (by omega) (by omega)]; omega
      conv => whnf
      repeat' (first | (refine And.intro (fun _ => ?_) (fun _ => ?_) <;> conv => whnf) | (refine And.intro ?_ ?_ <;> conv => whnf))
      · exact ⟨⟨rfl, rfl, rfl⟩⟩
      · refine ⟨?_⟩
        rw [e0]
        simp only []
        omega
      · refine ⟨?_⟩
        rw [e0]
        omega
      · refine OK_loopC (ι := Nat) (fun i => [(6, .sl 0 [] 1 0 (catn a.ls i) (catn a.ls a.n)), (25, .imm a.b 1 a.n fun k => byV (a.bs k) (a.ls k)), (26, .int .i64 (a.n : Nat)), (27, .int .i64 (i : Nat))]) (fun i => [some (.row 1 (catn a.ls a.n) (bf (cat a.ls i)))]) (fun i => i ≤ a.n) (fun i => a.n - i) 0 [some 0] ?_ (fun i hi => vc_ok hΓ mixed 1000 _ [] _ (by kernel_rfl) rfl ?_)
        · conv => whnf
          repeat' (first | (refine And.intro (fun _ => ?_) (fun _ => ?_) <;> conv => whnf) | (refine And.intro ?_ ?_ <;> conv => whnf))
          all_goals try first | exact ⟨rfl⟩ | exact ⟨⟨rfl, rfl⟩⟩ | exact ⟨⟨rfl, rfl, rfl⟩⟩ | exact ⟨fun _ _ => rfl⟩ | exact ⟨fun _ _ => trivial⟩ | exact ⟨fun k _ => isU8_bf _ k⟩ | exact ⟨by omega⟩ | exact ⟨⟨by omega, by omega⟩⟩ | exact ⟨⟨by omega, by omega, by omega⟩⟩
          all_goals first
            | exact ⟨⟨by rfl, by rfl, by rw [e0]; omega⟩⟩
            | exact ⟨by rw [e0]; omega⟩
            | exact ⟨⟨by rfl, by simp only [catn] at *; omega⟩⟩
            | exact ⟨⟨rfl, hz⟩⟩
            | exact ⟨hz⟩
            | exact ⟨by omega⟩
            | exact ⟨fun k _ => leV_eq (show _ = bf [] k from rfl) trivial⟩
        · have hm := catn_mono a.ls (i + 1) a.n
          conv => whnf
          repeat' (first | (refine And.intro (fun _ => ?_) (fun _ => ?_) <;> conv => whnf) | (refine And.intro ?_ ?_ <;> conv => whnf))
          all_goals (try simp only [decide_eq_true_eq, decide_eq_false_iff_not, Int.toNat_natCast, Bool.not_eq_true, Bool.not_eq_false] at *)
          all_goals try first | exact ⟨rfl⟩ | exact ⟨⟨rfl, rfl⟩⟩ | exact ⟨⟨rfl, rfl, rfl⟩⟩ | exact ⟨fun _ _ => rfl⟩ | exact ⟨fun _ _ => trivial⟩ | exact ⟨fun k _ => isU8_bf _ k⟩ | exact ⟨by omega⟩ | exact ⟨⟨by omega, by omega⟩⟩ | exact ⟨⟨by omega, by omega, by omega⟩⟩
          · refine Or.inr ?_
            conv => whnf
            repeat' (first | (refine And.intro (fun _ => ?_) (fun _ => ?_) <;> conv => whnf) | (refine And.intro ?_ ?_ <;> conv => whnf))
            · refine ⟨⟨?_, ?_⟩⟩
              · have := hm (by omega); simp only [catn] at this; omega
              · have := hm (by omega); simp only [catn] at this; omega
            refine ⟨i + 1, [some 0], ?_⟩
            conv => whnf
            repeat' (refine And.intro ?_ ?_ <;> conv => whnf)
            all_goals try first | exact ⟨rfl⟩ | exact ⟨⟨rfl, rfl⟩⟩ | exact ⟨⟨rfl, rfl, rfl⟩⟩ | exact ⟨fun _ _ => rfl⟩ | exact ⟨fun _ _ => trivial⟩ | exact ⟨fun k _ => isU8_bf _ k⟩ | exact ⟨by omega⟩ | exact ⟨⟨by omega, by omega⟩⟩ | exact ⟨⟨by omega, by omega, by omega⟩⟩
            · exact ⟨by rw [wrap_id (by omega) (by omega)]; rfl⟩
            all_goals
              refine ⟨fun k hk => leV_eq ?_ trivial⟩
              simp only [cat]
              rw [bf_append, cat_length]
              first | done | simp only [Nat.zero_add]
          refine vc_ok hΓ mixed 1000 _ [] _ (by kernel_rfl) rfl ?_
          conv => whnf
          obtain rfl : i = a.n := by omega
          conv => whnf
          repeat' (refine And.intro ?_ ?_ <;> conv => whnf)
          · exact ⟨by omega⟩
          · exact ⟨fun k _ => own_bf _ _⟩
          · rw [byV, cat_length]
            exact Ld.imm fun k hk => by rw [Nat.zero_add]
    · have e0 : IntKind.i64.wrap ((catn a.ls a.n : Nat) - IntKind.i64.wrap (0 - 0)) = (catn a.ls a.n : Nat) := by
        rw [show IntKind.i64.wrap (0 - 0) = 0 from rfl, wrap_id (by omega) (by omega)]; omega
      have hz : catn a.ls a.n = 0 := by
        simp only [decide_eq_false_iff_not] at h2
        rw [e0] at h2
        omega
      conv => whnf
      repeat' (first | (refine And.intro (fun _ => ?_) (fun _ => ?_) <;> conv => whnf) | (refine And.intro ?_ ?_ <;> conv => whnf))
      refine OK_loopC (ι := Nat) (fun i => [(6, .sl 0 [] 1 0 (catn a.ls i) (catn a.ls a.n)), (25, .imm a.b 1 a.n fun k => byV (a.bs k) (a.ls k)), (26, .int .i64 (a.n : Nat)), (27, .int .i64 (i : Nat))]) (fun i => [some (.row 1 (catn a.ls a.n) (bf (cat a.ls i)))]) (fun i => i ≤ a.n) (fun i => a.n - i) 0 [none] ?_ (fun i hi => vc_ok hΓ mixed 1000 _ [] _ (by kernel_rfl) rfl ?_)
      · conv => whnf
        repeat' (first | (refine And.intro (fun _ => ?_) (fun _ => ?_) <;> conv => whnf) | (refine And.intro ?_ ?_ <;> conv => whnf))
        all_goals try first | exact ⟨rfl⟩ | exact ⟨⟨rfl, rfl⟩⟩ | exact ⟨⟨rfl, rfl, rfl⟩⟩ | exact ⟨fun _ _ => rfl⟩ | exact ⟨fun _ _ => trivial⟩ | exact ⟨fun k _ => isU8_bf _ k⟩ | exact ⟨by omega⟩ | exact ⟨⟨by omega, by omega⟩⟩ | exact ⟨⟨by omega, by omega, by omega⟩⟩
        all_goals first
          | exact ⟨⟨by rfl, by rfl, by rw [e0]; omega⟩⟩
          | exact ⟨by rw [e0]; omega⟩
          | exact ⟨⟨by rfl, by simp only [catn] at *; omega⟩⟩
          | exact ⟨⟨rfl, hz⟩⟩
          | exact ⟨hz⟩
          | exact ⟨by omega⟩
          | exact ⟨fun k _ => leV_eq (show _ = bf [] k from rfl) trivial⟩
      · have hm := catn_mono a.ls (i + 1) a.n
        conv => whnf
        repeat' (first | (refine And.intro (fun _ => ?_) (fun _ => ?_) <;> conv => whnf) | (refine And.intro ?_ ?_ <;> conv => whnf))
        all_goals (try simp only [decide_eq_true_eq, decide_eq_false_iff_not, Int.toNat_natCast, Bool.not_eq_true, Bool.not_eq_false] at *)
        all_goals try first | exact ⟨rfl⟩ | exact ⟨⟨rfl, rfl⟩⟩ | exact ⟨⟨rfl, rfl, rfl⟩⟩ | exact ⟨fun _ _ => rfl⟩ | exact ⟨fun _ _ => trivial⟩ | exact ⟨fun k _ => isU8_bf _ k⟩ | exact ⟨by omega⟩ | exact ⟨⟨by omega, by omega⟩⟩ | exact ⟨⟨by omega, by omega, by omega⟩⟩
        · refine Or.inr ?_
          conv => whnf
          repeat' (first | (refine And.intro (fun _ => ?_) (fun _ => ?_) <;> conv => whnf) | (refine And.intro ?_ ?_ <;> conv => whnf))
          · refine ⟨⟨?_, ?_⟩⟩
            · have := hm (by omega); simp only [catn] at this; omega
            · have := hm (by omega); simp only [catn] at this; omega
          refine ⟨i + 1, [some 0], ?_⟩
          conv => whnf
          repeat' (refine And.intro ?_ ?_ <;> conv => whnf)
          all_goals try first | exact ⟨rfl⟩ | exact ⟨⟨rfl, rfl⟩⟩ | exact ⟨⟨rfl, rfl, rfl⟩⟩ | exact ⟨fun _ _ => rfl⟩ | exact ⟨fun _ _ => trivial⟩ | exact ⟨fun k _ => isU8_bf _ k⟩ | exact ⟨by omega⟩ | exact ⟨⟨by omega, by omega⟩⟩ | exact ⟨⟨by omega, by omega, by omega⟩⟩
          · exact ⟨by rw [wrap_id (by omega) (by omega)]; rfl⟩
          all_goals
            refine ⟨fun k hk => leV_eq ?_ trivial⟩
            simp only [cat]
            rw [bf_append, cat_length]
            first | done | simp only [Nat.zero_add]
        refine vc_ok hΓ mixed 1000 _ [] _ (by kernel_rfl) rfl ?_
        conv => whnf
        obtain rfl : i = a.n := by omega
        conv => whnf
        repeat' (refine And.intro ?_ ?_ <;> conv => whnf)
        · exact ⟨by omega⟩
        · exact ⟨fun k _ => own_bf _ _⟩
        · rw [byV, cat_length]
          exact Ld.imm fun k hk => by rw [Nat.zero_add]
end Go.Proofs.YtaihjcpfjgpmoaaGreatDoor

/- SHA-256: the sum of what was told. -/
namespace Go.Proofs.YtaihjcpfjgpmoaaGreatDoor
set_option linter.unusedVariables false
set_option linter.unusedSimpArgs false
set_option maxRecDepth 100000
open Go Go.DD
/-- Whole blocks are summed; what is left. -/
def absorb (h : Nat → UInt32) (l : List UInt8) : (Nat → UInt32) × List UInt8 :=
  if 64 ≤ l.length then absorb (takeW h (l.take 64)) (l.drop 64) else (h, l)
termination_by l.length
decreasing_by simp; omega
def zerosN (n : Nat) : Nat := (119 - n % 64) % 64
def lenB (n k : Nat) : UInt8 := UInt8.ofNat (n * 8 / 2 ^ (8 * k))
def lenL (n : Nat) : Nat → List UInt8 | 0 => [] | k + 1 => lenL n k ++ [lenB n (7 - k)]
def lastL (rest : List UInt8) (n : Nat) : List UInt8 := rest ++ [128] ++ List.replicate (zerosN rest.length) 0 ++ lenL n 8
def outB (h : Nat → UInt32) (k : Nat) : UInt8 := UInt8.ofNat (h (k / 4) >>> UInt32.ofNat (24 - 8 * (k % 4))).toNat
def outLs (h : Nat → UInt32) : List UInt8 := (List.range 32).map (outB h)
def finW (h : Nat → UInt32) (rest : List UInt8) (n : Nat) : List UInt8 := outLs (absorb h (lastL rest n)).1
def shaV (h : Nat → UInt32) (rest : List UInt8) (n : Nat) : V := .st (.cons (.row 1 8 (wV h)) (.cons (byV false rest) (.cons (.int .i64 (n : Nat)) .nil)))
structure Sh where
  h : Nat → UInt32
  rest : List UInt8
  n : Nat
theorem c88_ok : CtxOk Tryz.prog (ctx Tryz.f46.ntmps [] []) := ctxOk Tryz.f46.ntmps [] [] (FL.all .nil) (HL.all .nil)
def S88 : SpecH := fun xs h κ => xs.length = 1 ∧ inlineS Tryz.prog (ctx Tryz.f46.ntmps [] []) (bodyOf Tryz.f46) Tryz.f46.results.toList xs h κ
theorem s88_ok : SpecHOk Tryz.prog [] 46 S88 := inline_ok (c := bodyOf Tryz.f46) (np := 1) c88_ok Tryz.func46 rfl (by decide) rfl (by decide)
def F53 : FSpec := mkF (fun (a : Sh) => [.pim true (shaV a.h a.rest a.n)]) (fun a => a.rest.length < 64 ∧ a.n ≤ 1000000) (fun a => arrV 32 (finW a.h a.rest a.n))
theorem bf_lt (l m : List UInt8) {k : Nat} (h : k < l.length) : bf (l ++ m) k = bf l k := by
  rw [bf_append, if_neg (by omega)]
theorem bf_at (l : List UInt8) (c : UInt8) (m : List UInt8) : bf (l ++ c :: m) l.length = .int .u8 (c.toNat : Nat) := by
  simp [bf, List.getD_eq_getElem?_getD]
theorem bf_at' (l : List UInt8) (c : UInt8) (m : List UInt8) {n : Nat} (h : n = l.length) : bf (l ++ c :: m) n = .int .u8 (c.toNat : Nat) := h ▸ bf_at l c m
theorem zeros_snoc (i : Nat) : List.replicate (i + 1) (0 : UInt8) = List.replicate i 0 ++ [0] := List.replicate_succ'
theorem lenL_length (n : Nat) : ∀ k, (lenL n k).length = k
  | 0 => rfl
  | k + 1 => by simp [lenL, lenL_length n k]
theorem len_byte {n i : Nat} (hn : n ≤ 1000000) (hi : i ≤ 7) : IntKind.u8.wrap (shrI .u64 (shlI .u64 (IntKind.u64.wrap (n : Nat)) 3) (IntKind.i64.wrap (8 * (7 - (i : Int))))) = ((lenB n (7 - i)).toNat : Nat) := by
  have h1 : IntKind.u64.wrap (n : Nat) = (n : Nat) := by rw [IntKind.wrap_u64]; omega
  have h2 : shlI .u64 (n : Nat) 3 = ((n * 8 : Nat) : Int) := by
    simp only [shlI, IntKind.bits]
    rw [IntKind.wrap_u64]
    have : min (Int.toNat 3) 64 = 3 := by decide
    rw [this]
    omega
  have h3 : (IntKind.i64.wrap (8 * (7 - (i : Int)))).toNat = 8 * (7 - i) := by rw [IntKind.wrap_i64]; omega
  rw [h1, h2]
  simp only [shrI, h3, IntKind.bits]
  rw [Nat.min_eq_left (by omega), Int.fdiv_eq_ediv_of_nonneg _ (by exact Int.le_of_lt (Int.pow_pos (by decide))), IntKind.wrap_u8, lenB, UInt8.toNat_ofNat']
  have : (((n * 8 : Nat) : Int) / 2 ^ (8 * (7 - i))) = ((n * 8 / 2 ^ (8 * (7 - i)) : Nat) : Int) := by simp
  rw [this]
  omega
def hsN (h : Nat → UInt32) (l : List UInt8) : Nat → Nat → UInt32 | 0 => h | j + 1 => takeW (hsN h l j) ((l.drop (64 * j)).take 64)
theorem absorb_hs (h : Nat → UInt32) (l : List UInt8) : ∀ j, 64 * j ≤ l.length → absorb h l = absorb (hsN h l j) (l.drop (64 * j))
  | 0, _ => rfl
  | j + 1, hj => by
    rw [absorb_hs h l j (by omega), absorb, if_pos (by simp; omega), List.drop_drop]
    rfl
theorem absorb_all (h : Nat → UInt32) (l : List UInt8) (q : Nat) (hq : l.length = 64 * q) : (absorb h l).1 = hsN h l q := by
  rw [absorb_hs h l q (by omega), List.drop_eq_nil_of_le (by omega), absorb]
  rfl
theorem lastL_length (rest : List UInt8) (n : Nat) : (lastL rest n).length = rest.length + 1 + zerosN rest.length + 8 := by
  simp [lastL, lenL_length]; omega
theorem outL_bf (h : Nat → UInt32) {k : Nat} (hk : k < 32) : bf (outLs h) k = .int .u8 ((outB h k).toNat : Nat) := by
  simp [bf, outLs, List.getD_eq_getElem?_getD, hk]
def ob (h : Nat → UInt32) (j k : Nat) : UInt8 := if k < j then outB h k else 0
theorem f53_ok : FOk Tryz.prog [] 146 F53 := mkF_ld fun ⟨h, rest, n⟩ ⟨hr, hn⟩ => by
  show CP _ _ _ [.pim true (shaV h rest n)] fun v => Ld v (arrV 32 (finW h rest n))
  replace hr : rest.length < 64 := hr
  replace hn : n ≤ 1000000 := hn
  have hΓ := ctxOk Tryz.f146.ntmps [(197, F87)] [(46, S88)] (FL.all (.cons f87_ok .nil)) (HL.all (.cons s88_ok .nil))
  refine CP_of_OK hΓ Tryz.func146 (c := bodyOf Tryz.f146) rfl (by decide) rfl rfl (by simp) (vc_ok hΓ mixed 1000 _ [] _ (by kernel_rfl) rfl ?_)
  conv => whnf
  refine ⟨rfl, ?_⟩
  refine vc_ok (CtxOk.inner c88_ok _) mixed 1000 _ [] _ (by kernel_rfl) rfl ?_
  conv => whnf
  intro b hb
  conv => whnf
  refine And.intro (fun h1 => ?_) (fun h1 => ?_) <;> conv => whnf
  · have hl : rest.length = 0 := hb h1
    conv => whnf
    repeat' (first | (refine And.intro (fun _ => ?_) (fun _ => ?_) <;> conv => whnf) | (refine And.intro ?_ ?_ <;> conv => whnf))
    all_goals try first | exact ⟨rfl⟩ | exact ⟨⟨rfl, rfl⟩⟩ | exact ⟨⟨rfl, rfl, rfl⟩⟩ | exact ⟨fun _ _ => rfl⟩ | exact ⟨fun _ _ => trivial⟩ | exact ⟨fun k _ => isU8_bf _ k⟩ | exact ⟨by omega⟩ | exact ⟨⟨by omega, by omega⟩⟩ | exact ⟨⟨by omega, by omega, by omega⟩⟩
    refine Or.inl ?_
    conv => whnf
    repeat' (first | (refine And.intro (fun _ => ?_) (fun _ => ?_) <;> conv => whnf) | (refine And.intro ?_ ?_ <;> conv => whnf))
    all_goals try first | exact ⟨rfl⟩ | exact ⟨⟨rfl, rfl⟩⟩ | exact ⟨⟨rfl, rfl, rfl⟩⟩ | exact ⟨fun _ _ => rfl⟩ | exact ⟨fun _ _ => trivial⟩ | exact ⟨fun k _ => isU8_bf _ k⟩ | exact ⟨by omega⟩ | exact ⟨⟨by omega, by omega⟩⟩ | exact ⟨⟨by omega, by omega, by omega⟩⟩ | exact ⟨⟨by simp only []; omega, by omega⟩⟩
    have hzl : zerosN rest.length < 64 := Nat.mod_lt _ (by decide)
    refine OK_loopC (ι := Nat) (fun i => [(0, .pim true (shaV h rest n)), (2, .ref 0 []), (3, .sl 1 [] 1 0 (rest.length + 1 + i) (rest.length + 1 + i))]) (fun i => [some (.row 1 32 (bf [])), some (.row 1 (rest.length + 1 + i) (bf (rest ++ [128] ++ List.replicate i 0)))]) (fun i => i ≤ zerosN rest.length) (fun i => zerosN rest.length - i) 0 [some 0, some 2] ?_ (fun i hi => vc_ok hΓ mixed 1000 _ [] _ (by kernel_rfl) rfl ?_)
    · conv => whnf
      repeat' (first | (refine And.intro (fun _ => ?_) (fun _ => ?_) <;> conv => whnf) | (refine And.intro ?_ ?_ <;> conv => whnf))
      all_goals try first | exact ⟨rfl⟩ | exact ⟨⟨rfl, rfl⟩⟩ | exact ⟨⟨rfl, rfl, rfl⟩⟩ | exact ⟨fun _ _ => rfl⟩ | exact ⟨fun _ _ => trivial⟩ | exact ⟨fun k _ => isU8_bf _ k⟩ | exact ⟨by omega⟩ | exact ⟨⟨by omega, by omega⟩⟩ | exact ⟨⟨by omega, by omega, by omega⟩⟩
      · refine ⟨?_⟩
        refine leV_snoc (i := rest.length) ?_ ?_ fun k _ => trivial
        · intro k hk
          simp only [List.replicate_zero, List.append_nil]
          rw [bf_lt _ _ hk]
          exact absurd hk (by omega)
        · simp only [List.replicate_zero, List.append_nil]
          rw [bf_at]
          rw [hl]; rfl
    · conv => whnf
      repeat' (first | (refine And.intro (fun _ => ?_) (fun _ => ?_) <;> conv => whnf) | (refine And.intro ?_ ?_ <;> conv => whnf))
      all_goals try first | exact ⟨rfl⟩ | exact ⟨⟨rfl, rfl⟩⟩ | exact ⟨⟨rfl, rfl, rfl⟩⟩ | exact ⟨fun _ _ => rfl⟩ | exact ⟨fun _ _ => trivial⟩ | exact ⟨fun k _ => isU8_bf _ k⟩ | exact ⟨by omega⟩ | exact ⟨⟨by omega, by omega⟩⟩ | exact ⟨⟨by omega, by omega, by omega⟩⟩
      · refine Or.inl ?_
        conv => whnf
        repeat' (first | (refine And.intro (fun _ => ?_) (fun _ => ?_) <;> conv => whnf) | (refine And.intro ?_ ?_ <;> conv => whnf))
        all_goals try first | exact ⟨rfl⟩ | exact ⟨⟨rfl, rfl⟩⟩ | exact ⟨⟨rfl, rfl, rfl⟩⟩ | exact ⟨fun _ _ => rfl⟩ | exact ⟨fun _ _ => trivial⟩ | exact ⟨fun k _ => isU8_bf _ k⟩ | exact ⟨by omega⟩ | exact ⟨⟨by omega, by omega⟩⟩ | exact ⟨⟨by omega, by omega, by omega⟩⟩ | exact ⟨⟨by simp only []; omega, by omega⟩⟩
        rename_i hne
        simp only [zerosN] at hi hzl
        have hi2 : i < zerosN rest.length := by
          rcases Nat.lt_or_ge i (zerosN rest.length) with h1 | h1
          · exact h1
          · exfalso
            simp only [zerosN] at h1
            simp only [bne_iff_ne, ne_eq] at hne
            apply hne
            rw [Int.tmod_eq_emod_of_nonneg (by omega)]
            omega
        refine ⟨i + 1, [some 0, some 3], ?_⟩
        conv => whnf
        repeat' (refine And.intro ?_ ?_ <;> conv => whnf)
        all_goals try first | exact ⟨rfl⟩ | exact ⟨⟨rfl, rfl⟩⟩ | exact ⟨⟨rfl, rfl, rfl⟩⟩ | exact ⟨fun _ _ => rfl⟩ | exact ⟨fun _ _ => trivial⟩ | exact ⟨fun k _ => isU8_bf _ k⟩ | exact ⟨by omega⟩ | exact ⟨⟨by omega, by omega⟩⟩ | exact ⟨⟨by omega, by omega, by omega⟩⟩
        · refine ⟨?_⟩
          refine leV_snoc (i := rest.length + 1 + i) ?_ ?_ fun k _ => trivial
          · intro k hk
            refine (if_pos hk).trans ?_
            rw [zeros_snoc, ← List.append_assoc]
            exact (bf_lt _ _ (by simp; omega)).symm
          · rw [zeros_snoc, ← List.append_assoc, bf_at' _ _ _ (by simp; omega)]
            exact (if_neg (Nat.lt_irrefl _)).trans (by rw [Nat.sub_self]; rfl)
      refine vc_ok hΓ mixed 1000 _ [] _ (by kernel_rfl) rfl ?_
      conv => whnf
      obtain rfl : i = zerosN rest.length := by
        rename_i hne
        rcases Nat.lt_or_ge i (zerosN rest.length) with h1 | h1
        · exfalso
          simp only [zerosN] at h1
          simp only [bne_eq_false_iff_eq] at hne
          rw [Int.tmod_eq_emod_of_nonneg (by omega)] at hne
          omega
        · omega
      refine OK_loopC (ι := Nat) (fun i => [(0, .pim true (shaV h rest n)), (2, .ref 0 []), (3, .sl 1 [] 1 0 (rest.length + 1 + zerosN rest.length + i) (rest.length + 1 + zerosN rest.length + i)), (4, .int .i64 (7 - (i : Nat)))]) (fun i => [some (.row 1 32 (bf [])), some (.row 1 (rest.length + 1 + zerosN rest.length + i) (bf (rest ++ [128] ++ List.replicate (zerosN rest.length) 0 ++ lenL n i)))]) (fun i => i ≤ 8) (fun i => 8 - i) 0 [some 0, some 1] ?_ (fun i hi => vc_ok hΓ mixed 1000 _ [] _ (by kernel_rfl) rfl ?_)
      · conv => whnf
        repeat' (first | (refine And.intro (fun _ => ?_) (fun _ => ?_) <;> conv => whnf) | (refine And.intro ?_ ?_ <;> conv => whnf))
        all_goals try first | exact ⟨rfl⟩ | exact ⟨⟨rfl, rfl⟩⟩ | exact ⟨⟨rfl, rfl, rfl⟩⟩ | exact ⟨fun _ _ => rfl⟩ | exact ⟨fun _ _ => trivial⟩ | exact ⟨fun k _ => isU8_bf _ k⟩ | exact ⟨by omega⟩ | exact ⟨⟨by omega, by omega⟩⟩ | exact ⟨⟨by omega, by omega, by omega⟩⟩ | exact ⟨fun k _ => leV_eq (by simp only [lenL, List.append_nil]) trivial⟩
      · conv => whnf
        repeat' (first | (refine And.intro (fun _ => ?_) (fun _ => ?_) <;> conv => whnf) | (refine And.intro ?_ ?_ <;> conv => whnf))
        all_goals (try simp only [decide_eq_true_eq, decide_eq_false_iff_not, Int.toNat_natCast, Bool.not_eq_true, Bool.not_eq_false] at *)
        all_goals try first | exact ⟨rfl⟩ | exact ⟨⟨rfl, rfl⟩⟩ | exact ⟨⟨rfl, rfl, rfl⟩⟩ | exact ⟨fun _ _ => rfl⟩ | exact ⟨fun _ _ => trivial⟩ | exact ⟨fun k _ => isU8_bf _ k⟩ | exact ⟨by omega⟩ | exact ⟨⟨by omega, by omega⟩⟩ | exact ⟨⟨by omega, by omega, by omega⟩⟩
        · exact ⟨by rw [wrap_id (by omega) (by omega)]; omega⟩
        · refine Or.inl ?_
          conv => whnf
          repeat' (first | (refine And.intro (fun _ => ?_) (fun _ => ?_) <;> conv => whnf) | (refine And.intro ?_ ?_ <;> conv => whnf))
          all_goals try first | exact ⟨rfl⟩ | exact ⟨⟨rfl, rfl⟩⟩ | exact ⟨⟨rfl, rfl, rfl⟩⟩ | exact ⟨fun _ _ => rfl⟩ | exact ⟨fun _ _ => trivial⟩ | exact ⟨fun k _ => isU8_bf _ k⟩ | exact ⟨by omega⟩ | exact ⟨⟨by omega, by omega⟩⟩ | exact ⟨⟨by omega, by omega, by omega⟩⟩ | exact ⟨⟨by simp only []; omega, by omega⟩⟩
          refine ⟨i + 1, [some 0, some 3], ?_⟩
          conv => whnf
          repeat' (refine And.intro ?_ ?_ <;> conv => whnf)
          all_goals try first | exact ⟨rfl⟩ | exact ⟨⟨rfl, rfl⟩⟩ | exact ⟨⟨rfl, rfl, rfl⟩⟩ | exact ⟨fun _ _ => rfl⟩ | exact ⟨fun _ _ => trivial⟩ | exact ⟨fun k _ => isU8_bf _ k⟩ | exact ⟨by omega⟩ | exact ⟨⟨by omega, by omega⟩⟩ | exact ⟨⟨by omega, by omega, by omega⟩⟩
          · exact ⟨by rw [wrap_id (by omega) (by omega)]; omega⟩
          · refine ⟨?_⟩
            refine leV_snoc (i := rest.length + 1 + zerosN rest.length + i) ?_ ?_ fun k _ => trivial
            · intro k hk
              refine (if_pos hk).trans ?_
              simp only [lenL]
              rw [← List.append_assoc]
              exact (bf_lt _ _ (by simp [lenL_length]; omega)).symm
            · simp only [lenL]
              rw [← List.append_assoc, bf_at' _ _ _ (by simp [lenL_length]; omega), ← len_byte hn (by omega)]
              exact (if_neg (Nat.lt_irrefl _)).trans (by rw [Nat.sub_self]; rfl)
        refine vc_ok hΓ mixed 1000 _ [] _ (by kernel_rfl) rfl ?_
        conv => whnf
        obtain rfl : i = 8 := by omega
        refine vc_ok hΓ mixed 1000 _ [] _ (by kernel_rfl) rfl ?_
        conv => whnf
        have hlen := lastL_length rest n
        generalize hL : lastL rest n = L at hlen
        have hL' : rest ++ [128] ++ List.replicate (zerosN rest.length) 0 ++ lenL n 8 = L := hL
        obtain ⟨q, hq⟩ : ∃ q, L.length = 64 * q := ⟨L.length / 64, by simp only [zerosN] at hlen; omega⟩
        have hq2 : q ≤ 3 := by simp only [zerosN] at hlen; omega
        refine OK_loopC (ι := Nat) (fun j => [(2, .ref 0 []), (3, .sl 1 [] 1 (64 * j) (64 * q - 64 * j) (64 * q - 64 * j)), (5, .ref 2 [])]) (fun j => [some (.row 1 32 (bf [])), some (.row 1 (64 * q) (bf L)), some (.row 1 8 (wV (hsN h L j)))]) (fun j => j ≤ q) (fun j => q - j) 0 [some 0, some 1, some 2] ?_ (fun i hi => vc_ok hΓ mixed 1000 _ [] _ (by kernel_rfl) rfl ?_)
        · conv => whnf
          repeat' (first | (refine And.intro (fun _ => ?_) (fun _ => ?_) <;> conv => whnf) | (refine And.intro ?_ ?_ <;> conv => whnf))
          all_goals try first | exact ⟨rfl⟩ | exact ⟨⟨rfl, rfl⟩⟩ | exact ⟨⟨rfl, rfl, rfl⟩⟩ | exact ⟨fun _ _ => rfl⟩ | exact ⟨fun _ _ => trivial⟩ | exact ⟨fun k _ => isU8_bf _ k⟩ | exact ⟨by omega⟩ | exact ⟨⟨by omega, by omega⟩⟩ | exact ⟨⟨by omega, by omega, by omega⟩⟩
          exact ⟨fun k _ => leV_eq (by rw [hL']) trivial⟩
        · conv => whnf
          repeat' (first | (refine And.intro (fun _ => ?_) (fun _ => ?_) <;> conv => whnf) | (refine And.intro ?_ ?_ <;> conv => whnf))
          all_goals (try simp only [decide_eq_true_eq, decide_eq_false_iff_not, Int.toNat_natCast, Bool.not_eq_true, Bool.not_eq_false] at *)
          all_goals try first | exact ⟨rfl⟩ | exact ⟨⟨rfl, rfl⟩⟩ | exact ⟨⟨rfl, rfl, rfl⟩⟩ | exact ⟨fun _ _ => rfl⟩ | exact ⟨fun _ _ => trivial⟩ | exact ⟨fun k _ => isU8_bf _ k⟩ | exact ⟨by omega⟩ | exact ⟨⟨by omega, by omega⟩⟩ | exact ⟨⟨by omega, by omega, by omega⟩⟩
          · have e0 : bytesOf (Int.toNat 64 - Int.toNat 0) (fun k => bf L (64 * i + Int.toNat 0 + k)) = (L.drop (64 * i)).take 64 := bytesOf_sub L (64 * i) 64 (by omega)
            refine ⟨(_, .imm _ _ _), rfl, ⟨fun k hk => isU8_bf _ _, ?_⟩, ?_⟩
            · simp only [By.l, bytesOf_length]; rfl
            conv => whnf
            repeat' (first | (refine And.intro (fun _ => ?_) (fun _ => ?_) <;> conv => whnf) | (refine And.intro ?_ ?_ <;> conv => whnf))
            all_goals try first | exact ⟨rfl⟩ | exact ⟨⟨rfl, rfl⟩⟩ | exact ⟨⟨rfl, rfl, rfl⟩⟩ | exact ⟨fun _ _ => rfl⟩ | exact ⟨fun _ _ => trivial⟩ | exact ⟨fun k _ => isU8_bf _ k⟩ | exact ⟨by omega⟩ | exact ⟨⟨by omega, by omega⟩⟩ | exact ⟨⟨by omega, by omega, by omega⟩⟩
            refine ⟨i + 1, [some 0, some 1, some 2], ?_⟩
            conv => whnf
            repeat' (refine And.intro ?_ ?_ <;> conv => whnf)
            all_goals try first | exact ⟨rfl⟩ | exact ⟨⟨rfl, rfl⟩⟩ | exact ⟨⟨rfl, rfl, rfl⟩⟩ | exact ⟨by omega⟩ | exact ⟨⟨by omega, by omega⟩⟩ | exact ⟨⟨by omega, by omega, by omega⟩⟩
            · exact ⟨fun k _ => leV_refl _ trivial⟩
            · exact ⟨fun k _ => leV_refl _ trivial⟩
            · refine ⟨fun k hk => leV_eq ?_ trivial⟩
              simp only [By.l, hsN]
              rw [e0]
          obtain rfl : q = i := by omega
          refine vc_ok hΓ mixed 1000 _ [] _ (by kernel_rfl) rfl ?_
          conv => whnf
          refine OK_loopC (ι := Nat) (fun j => [(2, .ref 0 []), (5, .ref 1 []), (6, .ref 2 []), (52, .int .i64 (j : Nat))]) (fun j => [some (.row 1 32 (bf [])), some (.row 1 8 (wV (hsN h L q))), some (.row 1 32 (fun k => .int .u8 ((ob (hsN h L q) j k).toNat : Nat)))]) (fun j => j ≤ 32) (fun j => 32 - j) 0 [some 0, some 2, some 3] ?_ (fun i hi => vc_ok hΓ mixed 1000 _ [] _ (by kernel_rfl) rfl ?_)
          · conv => whnf
            repeat' (first | (refine And.intro (fun _ => ?_) (fun _ => ?_) <;> conv => whnf) | (refine And.intro ?_ ?_ <;> conv => whnf))
            all_goals try first | exact ⟨rfl⟩ | exact ⟨⟨rfl, rfl⟩⟩ | exact ⟨⟨rfl, rfl, rfl⟩⟩ | exact ⟨by omega⟩ | exact ⟨⟨by omega, by omega⟩⟩ | exact ⟨⟨by omega, by omega, by omega⟩⟩ | exact ⟨fun k _ => leV_refl _ trivial⟩
          · have t1 : IntKind.i64.wrap ((i : Int).tdiv 4) = ((i / 4 : Nat) : Int) := by rw [Int.tdiv_eq_ediv_of_nonneg (by omega), wrap_id (by omega) (by omega)]; omega
            have t2 : IntKind.i64.wrap (24 - IntKind.i64.wrap (8 * (i : Int).tmod 4)) = ((24 - 8 * (i % 4) : Nat) : Int) := by
              rw [Int.tmod_eq_emod_of_nonneg (by omega), wrap_id (x := 8 * _) (by omega) (by omega), wrap_id (by omega) (by omega)]; omega
            conv => whnf
            repeat' (first | (refine And.intro (fun _ => ?_) (fun _ => ?_) <;> conv => whnf) | (refine And.intro ?_ ?_ <;> conv => whnf))
            all_goals (try simp only [decide_eq_true_eq, decide_eq_false_iff_not, Int.toNat_natCast, Bool.not_eq_true, Bool.not_eq_false] at *)
            · exact ⟨by decide⟩
            · exact ⟨by rw [t1]; omega⟩
            · exact ⟨by rw [t1]; omega⟩
            · exact ⟨by decide⟩
            · exact ⟨by rw [t2]; omega⟩
            · exact ⟨by omega⟩
            · exact ⟨by omega⟩
            · refine ⟨i + 1, [some 0, some 1, some 2], ?_⟩
              conv => whnf
              repeat' (refine And.intro ?_ ?_ <;> conv => whnf)
              all_goals try first | exact ⟨rfl⟩ | exact ⟨⟨rfl, rfl⟩⟩ | exact ⟨⟨rfl, rfl, rfl⟩⟩ | exact ⟨by omega⟩ | exact ⟨⟨by omega, by omega⟩⟩ | exact ⟨⟨by omega, by omega, by omega⟩⟩ | exact ⟨fun k _ => leV_refl _ trivial⟩
              · exact ⟨by rw [wrap_id (by omega) (by omega)]; rfl⟩
              refine ⟨fun k hk => leV_eq ?_ trivial⟩
              by_cases hki : k = i
              · refine (if_pos hki).trans ?_
                show V.int .u8 _ = V.int .u8 ((ob (hsN h L q) (i + 1) k).toNat : Nat)
                rw [t1, t2, Int.toNat_natCast, w_shr _ _ (by omega), hki, ob, if_pos (by omega), outB, UInt8.toNat_ofNat', IntKind.wrap_u8]
                congr 1
              · refine (if_neg hki).trans ?_
                simp only [ob]
                by_cases hk2 : k < i
                · rw [if_pos hk2, if_pos (by omega)]
                · rw [if_neg hk2, if_neg (by omega)]
            refine vc_ok hΓ mixed 1000 _ [] _ (by kernel_rfl) rfl ?_
            conv => whnf
            conv => whnf
            repeat' (refine And.intro ?_ ?_ <;> conv => whnf)
            · exact ⟨fun k _ => trivial⟩
            refine Ld.row fun k hk => ?_
            rw [finW, hL, outL_bf _ hk, absorb_all _ _ _ hq, ob, if_pos (by omega)]
  · refine Or.inl ?_
    conv => whnf
    repeat' (first | (refine And.intro (fun _ => ?_) (fun _ => ?_) <;> conv => whnf) | (refine And.intro ?_ ?_ <;> conv => whnf))
    all_goals try first | exact ⟨rfl⟩ | exact ⟨⟨rfl, rfl⟩⟩ | exact ⟨⟨rfl, rfl, rfl⟩⟩ | exact ⟨fun _ _ => rfl⟩ | exact ⟨fun _ _ => trivial⟩ | exact ⟨fun k _ => isU8_bf _ k⟩ | exact ⟨by omega⟩ | exact ⟨⟨by omega, by omega⟩⟩ | exact ⟨⟨by omega, by omega, by omega⟩⟩ | exact ⟨⟨by simp only []; omega, by omega⟩⟩
    refine Or.inl ?_
    conv => whnf
    repeat' (first | (refine And.intro (fun _ => ?_) (fun _ => ?_) <;> conv => whnf) | (refine And.intro ?_ ?_ <;> conv => whnf))
    all_goals try first | exact ⟨rfl⟩ | exact ⟨⟨rfl, rfl⟩⟩ | exact ⟨⟨rfl, rfl, rfl⟩⟩ | exact ⟨fun _ _ => rfl⟩ | exact ⟨fun _ _ => trivial⟩ | exact ⟨fun k _ => isU8_bf _ k⟩ | exact ⟨by omega⟩ | exact ⟨⟨by omega, by omega⟩⟩ | exact ⟨⟨by omega, by omega, by omega⟩⟩ | exact ⟨⟨by simp only []; omega, by omega⟩⟩
    have hzl : zerosN rest.length < 64 := Nat.mod_lt _ (by decide)
    refine OK_loopC (ι := Nat) (fun i => [(0, .pim true (shaV h rest n)), (2, .ref 0 []), (3, .sl 1 [] 1 0 (rest.length + 1 + i) (rest.length + 1 + i))]) (fun i => [some (.row 1 32 (bf [])), some (.row 1 (rest.length + 1 + i) (bf (rest ++ [128] ++ List.replicate i 0)))]) (fun i => i ≤ zerosN rest.length) (fun i => zerosN rest.length - i) 0 [some 0, some 4] ?_ (fun i hi => vc_ok hΓ mixed 1000 _ [] _ (by kernel_rfl) rfl ?_)
    · conv => whnf
      repeat' (first | (refine And.intro (fun _ => ?_) (fun _ => ?_) <;> conv => whnf) | (refine And.intro ?_ ?_ <;> conv => whnf))
      all_goals try first | exact ⟨rfl⟩ | exact ⟨⟨rfl, rfl⟩⟩ | exact ⟨⟨rfl, rfl, rfl⟩⟩ | exact ⟨fun _ _ => rfl⟩ | exact ⟨fun _ _ => trivial⟩ | exact ⟨fun k _ => isU8_bf _ k⟩ | exact ⟨by omega⟩ | exact ⟨⟨by omega, by omega⟩⟩ | exact ⟨⟨by omega, by omega, by omega⟩⟩
      · refine ⟨?_⟩
        refine leV_snoc (i := rest.length) ?_ ?_ fun k _ => trivial
        · intro k hk
          simp only [List.replicate_zero, List.append_nil]
          rw [bf_lt _ _ hk]
          exact (if_pos (by omega)).trans (if_neg (Nat.not_lt_zero _))
        · simp only [List.replicate_zero, List.append_nil]
          rw [bf_at]
          exact (if_neg (by omega)).trans (by rw [show rest.length - (0 + rest.length) = 0 by omega]; rfl)
    · conv => whnf
      repeat' (first | (refine And.intro (fun _ => ?_) (fun _ => ?_) <;> conv => whnf) | (refine And.intro ?_ ?_ <;> conv => whnf))
      all_goals try first | exact ⟨rfl⟩ | exact ⟨⟨rfl, rfl⟩⟩ | exact ⟨⟨rfl, rfl, rfl⟩⟩ | exact ⟨fun _ _ => rfl⟩ | exact ⟨fun _ _ => trivial⟩ | exact ⟨fun k _ => isU8_bf _ k⟩ | exact ⟨by omega⟩ | exact ⟨⟨by omega, by omega⟩⟩ | exact ⟨⟨by omega, by omega, by omega⟩⟩
      · refine Or.inl ?_
        conv => whnf
        repeat' (first | (refine And.intro (fun _ => ?_) (fun _ => ?_) <;> conv => whnf) | (refine And.intro ?_ ?_ <;> conv => whnf))
        all_goals try first | exact ⟨rfl⟩ | exact ⟨⟨rfl, rfl⟩⟩ | exact ⟨⟨rfl, rfl, rfl⟩⟩ | exact ⟨fun _ _ => rfl⟩ | exact ⟨fun _ _ => trivial⟩ | exact ⟨fun k _ => isU8_bf _ k⟩ | exact ⟨by omega⟩ | exact ⟨⟨by omega, by omega⟩⟩ | exact ⟨⟨by omega, by omega, by omega⟩⟩ | exact ⟨⟨by simp only []; omega, by omega⟩⟩
        rename_i hne
        simp only [zerosN] at hi hzl
        have hi2 : i < zerosN rest.length := by
          rcases Nat.lt_or_ge i (zerosN rest.length) with h1 | h1
          · exact h1
          · exfalso
            simp only [zerosN] at h1
            simp only [bne_iff_ne, ne_eq] at hne
            apply hne
            rw [Int.tmod_eq_emod_of_nonneg (by omega)]
            omega
        refine ⟨i + 1, [some 0, some 3], ?_⟩
        conv => whnf
        repeat' (refine And.intro ?_ ?_ <;> conv => whnf)
        all_goals try first | exact ⟨rfl⟩ | exact ⟨⟨rfl, rfl⟩⟩ | exact ⟨⟨rfl, rfl, rfl⟩⟩ | exact ⟨fun _ _ => rfl⟩ | exact ⟨fun _ _ => trivial⟩ | exact ⟨fun k _ => isU8_bf _ k⟩ | exact ⟨by omega⟩ | exact ⟨⟨by omega, by omega⟩⟩ | exact ⟨⟨by omega, by omega, by omega⟩⟩
        · refine ⟨?_⟩
          refine leV_snoc (i := rest.length + 1 + i) ?_ ?_ fun k _ => trivial
          · intro k hk
            refine (if_pos hk).trans ?_
            rw [zeros_snoc, ← List.append_assoc]
            exact (bf_lt _ _ (by simp; omega)).symm
          · rw [zeros_snoc, ← List.append_assoc, bf_at' _ _ _ (by simp; omega)]
            exact (if_neg (Nat.lt_irrefl _)).trans (by rw [Nat.sub_self]; rfl)
      refine vc_ok hΓ mixed 1000 _ [] _ (by kernel_rfl) rfl ?_
      conv => whnf
      obtain rfl : i = zerosN rest.length := by
        rename_i hne
        rcases Nat.lt_or_ge i (zerosN rest.length) with h1 | h1
        · exfalso
          simp only [zerosN] at h1
          simp only [bne_eq_false_iff_eq] at hne
          rw [Int.tmod_eq_emod_of_nonneg (by omega)] at hne
          omega
        · omega
      refine OK_loopC (ι := Nat) (fun i => [(0, .pim true (shaV h rest n)), (2, .ref 0 []), (3, .sl 1 [] 1 0 (rest.length + 1 + zerosN rest.length + i) (rest.length + 1 + zerosN rest.length + i)), (4, .int .i64 (7 - (i : Nat)))]) (fun i => [some (.row 1 32 (bf [])), some (.row 1 (rest.length + 1 + zerosN rest.length + i) (bf (rest ++ [128] ++ List.replicate (zerosN rest.length) 0 ++ lenL n i)))]) (fun i => i ≤ 8) (fun i => 8 - i) 0 [some 0, some 1] ?_ (fun i hi => vc_ok hΓ mixed 1000 _ [] _ (by kernel_rfl) rfl ?_)
      · conv => whnf
        repeat' (first | (refine And.intro (fun _ => ?_) (fun _ => ?_) <;> conv => whnf) | (refine And.intro ?_ ?_ <;> conv => whnf))
        all_goals try first | exact ⟨rfl⟩ | exact ⟨⟨rfl, rfl⟩⟩ | exact ⟨⟨rfl, rfl, rfl⟩⟩ | exact ⟨fun _ _ => rfl⟩ | exact ⟨fun _ _ => trivial⟩ | exact ⟨fun k _ => isU8_bf _ k⟩ | exact ⟨by omega⟩ | exact ⟨⟨by omega, by omega⟩⟩ | exact ⟨⟨by omega, by omega, by omega⟩⟩ | exact ⟨fun k _ => leV_eq (by simp only [lenL, List.append_nil]) trivial⟩
      · conv => whnf
        repeat' (first | (refine And.intro (fun _ => ?_) (fun _ => ?_) <;> conv => whnf) | (refine And.intro ?_ ?_ <;> conv => whnf))
        all_goals (try simp only [decide_eq_true_eq, decide_eq_false_iff_not, Int.toNat_natCast, Bool.not_eq_true, Bool.not_eq_false] at *)
        all_goals try first | exact ⟨rfl⟩ | exact ⟨⟨rfl, rfl⟩⟩ | exact ⟨⟨rfl, rfl, rfl⟩⟩ | exact ⟨fun _ _ => rfl⟩ | exact ⟨fun _ _ => trivial⟩ | exact ⟨fun k _ => isU8_bf _ k⟩ | exact ⟨by omega⟩ | exact ⟨⟨by omega, by omega⟩⟩ | exact ⟨⟨by omega, by omega, by omega⟩⟩
        · exact ⟨by rw [wrap_id (by omega) (by omega)]; omega⟩
        · refine Or.inl ?_
          conv => whnf
          repeat' (first | (refine And.intro (fun _ => ?_) (fun _ => ?_) <;> conv => whnf) | (refine And.intro ?_ ?_ <;> conv => whnf))
          all_goals try first | exact ⟨rfl⟩ | exact ⟨⟨rfl, rfl⟩⟩ | exact ⟨⟨rfl, rfl, rfl⟩⟩ | exact ⟨fun _ _ => rfl⟩ | exact ⟨fun _ _ => trivial⟩ | exact ⟨fun k _ => isU8_bf _ k⟩ | exact ⟨by omega⟩ | exact ⟨⟨by omega, by omega⟩⟩ | exact ⟨⟨by omega, by omega, by omega⟩⟩ | exact ⟨⟨by simp only []; omega, by omega⟩⟩
          refine ⟨i + 1, [some 0, some 3], ?_⟩
          conv => whnf
          repeat' (refine And.intro ?_ ?_ <;> conv => whnf)
          all_goals try first | exact ⟨rfl⟩ | exact ⟨⟨rfl, rfl⟩⟩ | exact ⟨⟨rfl, rfl, rfl⟩⟩ | exact ⟨fun _ _ => rfl⟩ | exact ⟨fun _ _ => trivial⟩ | exact ⟨fun k _ => isU8_bf _ k⟩ | exact ⟨by omega⟩ | exact ⟨⟨by omega, by omega⟩⟩ | exact ⟨⟨by omega, by omega, by omega⟩⟩
          · exact ⟨by rw [wrap_id (by omega) (by omega)]; omega⟩
          · refine ⟨?_⟩
            refine leV_snoc (i := rest.length + 1 + zerosN rest.length + i) ?_ ?_ fun k _ => trivial
            · intro k hk
              refine (if_pos hk).trans ?_
              simp only [lenL]
              rw [← List.append_assoc]
              exact (bf_lt _ _ (by simp [lenL_length]; omega)).symm
            · simp only [lenL]
              rw [← List.append_assoc, bf_at' _ _ _ (by simp [lenL_length]; omega), ← len_byte hn (by omega)]
              exact (if_neg (Nat.lt_irrefl _)).trans (by rw [Nat.sub_self]; rfl)
        refine vc_ok hΓ mixed 1000 _ [] _ (by kernel_rfl) rfl ?_
        conv => whnf
        obtain rfl : i = 8 := by omega
        refine vc_ok hΓ mixed 1000 _ [] _ (by kernel_rfl) rfl ?_
        conv => whnf
        have hlen := lastL_length rest n
        generalize hL : lastL rest n = L at hlen
        have hL' : rest ++ [128] ++ List.replicate (zerosN rest.length) 0 ++ lenL n 8 = L := hL
        obtain ⟨q, hq⟩ : ∃ q, L.length = 64 * q := ⟨L.length / 64, by simp only [zerosN] at hlen; omega⟩
        have hq2 : q ≤ 3 := by simp only [zerosN] at hlen; omega
        refine OK_loopC (ι := Nat) (fun j => [(2, .ref 0 []), (3, .sl 1 [] 1 (64 * j) (64 * q - 64 * j) (64 * q - 64 * j)), (5, .ref 2 [])]) (fun j => [some (.row 1 32 (bf [])), some (.row 1 (64 * q) (bf L)), some (.row 1 8 (wV (hsN h L j)))]) (fun j => j ≤ q) (fun j => q - j) 0 [some 0, some 1, some 2] ?_ (fun i hi => vc_ok hΓ mixed 1000 _ [] _ (by kernel_rfl) rfl ?_)
        · conv => whnf
          repeat' (first | (refine And.intro (fun _ => ?_) (fun _ => ?_) <;> conv => whnf) | (refine And.intro ?_ ?_ <;> conv => whnf))
          all_goals try first | exact ⟨rfl⟩ | exact ⟨⟨rfl, rfl⟩⟩ | exact ⟨⟨rfl, rfl, rfl⟩⟩ | exact ⟨fun _ _ => rfl⟩ | exact ⟨fun _ _ => trivial⟩ | exact ⟨fun k _ => isU8_bf _ k⟩ | exact ⟨by omega⟩ | exact ⟨⟨by omega, by omega⟩⟩ | exact ⟨⟨by omega, by omega, by omega⟩⟩
          exact ⟨fun k _ => leV_eq (by rw [hL']) trivial⟩
        · conv => whnf
          repeat' (first | (refine And.intro (fun _ => ?_) (fun _ => ?_) <;> conv => whnf) | (refine And.intro ?_ ?_ <;> conv => whnf))
          all_goals (try simp only [decide_eq_true_eq, decide_eq_false_iff_not, Int.toNat_natCast, Bool.not_eq_true, Bool.not_eq_false] at *)
          all_goals try first | exact ⟨rfl⟩ | exact ⟨⟨rfl, rfl⟩⟩ | exact ⟨⟨rfl, rfl, rfl⟩⟩ | exact ⟨fun _ _ => rfl⟩ | exact ⟨fun _ _ => trivial⟩ | exact ⟨fun k _ => isU8_bf _ k⟩ | exact ⟨by omega⟩ | exact ⟨⟨by omega, by omega⟩⟩ | exact ⟨⟨by omega, by omega, by omega⟩⟩
          · have e0 : bytesOf (Int.toNat 64 - Int.toNat 0) (fun k => bf L (64 * i + Int.toNat 0 + k)) = (L.drop (64 * i)).take 64 := bytesOf_sub L (64 * i) 64 (by omega)
            refine ⟨(_, .imm _ _ _), rfl, ⟨fun k hk => isU8_bf _ _, ?_⟩, ?_⟩
            · simp only [By.l, bytesOf_length]; rfl
            conv => whnf
            repeat' (first | (refine And.intro (fun _ => ?_) (fun _ => ?_) <;> conv => whnf) | (refine And.intro ?_ ?_ <;> conv => whnf))
            all_goals try first | exact ⟨rfl⟩ | exact ⟨⟨rfl, rfl⟩⟩ | exact ⟨⟨rfl, rfl, rfl⟩⟩ | exact ⟨fun _ _ => rfl⟩ | exact ⟨fun _ _ => trivial⟩ | exact ⟨fun k _ => isU8_bf _ k⟩ | exact ⟨by omega⟩ | exact ⟨⟨by omega, by omega⟩⟩ | exact ⟨⟨by omega, by omega, by omega⟩⟩
            refine ⟨i + 1, [some 0, some 1, some 2], ?_⟩
            conv => whnf
            repeat' (refine And.intro ?_ ?_ <;> conv => whnf)
            all_goals try first | exact ⟨rfl⟩ | exact ⟨⟨rfl, rfl⟩⟩ | exact ⟨⟨rfl, rfl, rfl⟩⟩ | exact ⟨by omega⟩ | exact ⟨⟨by omega, by omega⟩⟩ | exact ⟨⟨by omega, by omega, by omega⟩⟩
            · exact ⟨fun k _ => leV_refl _ trivial⟩
            · exact ⟨fun k _ => leV_refl _ trivial⟩
            · refine ⟨fun k hk => leV_eq ?_ trivial⟩
              simp only [By.l, hsN]
              rw [e0]
          obtain rfl : q = i := by omega
          refine vc_ok hΓ mixed 1000 _ [] _ (by kernel_rfl) rfl ?_
          conv => whnf
          refine OK_loopC (ι := Nat) (fun j => [(2, .ref 0 []), (5, .ref 1 []), (6, .ref 2 []), (52, .int .i64 (j : Nat))]) (fun j => [some (.row 1 32 (bf [])), some (.row 1 8 (wV (hsN h L q))), some (.row 1 32 (fun k => .int .u8 ((ob (hsN h L q) j k).toNat : Nat)))]) (fun j => j ≤ 32) (fun j => 32 - j) 0 [some 0, some 2, some 3] ?_ (fun i hi => vc_ok hΓ mixed 1000 _ [] _ (by kernel_rfl) rfl ?_)
          · conv => whnf
            repeat' (first | (refine And.intro (fun _ => ?_) (fun _ => ?_) <;> conv => whnf) | (refine And.intro ?_ ?_ <;> conv => whnf))
            all_goals try first | exact ⟨rfl⟩ | exact ⟨⟨rfl, rfl⟩⟩ | exact ⟨⟨rfl, rfl, rfl⟩⟩ | exact ⟨by omega⟩ | exact ⟨⟨by omega, by omega⟩⟩ | exact ⟨⟨by omega, by omega, by omega⟩⟩ | exact ⟨fun k _ => leV_refl _ trivial⟩
          · have t1 : IntKind.i64.wrap ((i : Int).tdiv 4) = ((i / 4 : Nat) : Int) := by rw [Int.tdiv_eq_ediv_of_nonneg (by omega), wrap_id (by omega) (by omega)]; omega
            have t2 : IntKind.i64.wrap (24 - IntKind.i64.wrap (8 * (i : Int).tmod 4)) = ((24 - 8 * (i % 4) : Nat) : Int) := by
              rw [Int.tmod_eq_emod_of_nonneg (by omega), wrap_id (x := 8 * _) (by omega) (by omega), wrap_id (by omega) (by omega)]; omega
            conv => whnf
            repeat' (first | (refine And.intro (fun _ => ?_) (fun _ => ?_) <;> conv => whnf) | (refine And.intro ?_ ?_ <;> conv => whnf))
            all_goals (try simp only [decide_eq_true_eq, decide_eq_false_iff_not, Int.toNat_natCast, Bool.not_eq_true, Bool.not_eq_false] at *)
            · exact ⟨by decide⟩
            · exact ⟨by rw [t1]; omega⟩
            · exact ⟨by rw [t1]; omega⟩
            · exact ⟨by decide⟩
            · exact ⟨by rw [t2]; omega⟩
            · exact ⟨by omega⟩
            · exact ⟨by omega⟩
            · refine ⟨i + 1, [some 0, some 1, some 2], ?_⟩
              conv => whnf
              repeat' (refine And.intro ?_ ?_ <;> conv => whnf)
              all_goals try first | exact ⟨rfl⟩ | exact ⟨⟨rfl, rfl⟩⟩ | exact ⟨⟨rfl, rfl, rfl⟩⟩ | exact ⟨by omega⟩ | exact ⟨⟨by omega, by omega⟩⟩ | exact ⟨⟨by omega, by omega, by omega⟩⟩ | exact ⟨fun k _ => leV_refl _ trivial⟩
              · exact ⟨by rw [wrap_id (by omega) (by omega)]; rfl⟩
              refine ⟨fun k hk => leV_eq ?_ trivial⟩
              by_cases hki : k = i
              · refine (if_pos hki).trans ?_
                show V.int .u8 _ = V.int .u8 ((ob (hsN h L q) (i + 1) k).toNat : Nat)
                rw [t1, t2, Int.toNat_natCast, w_shr _ _ (by omega), hki, ob, if_pos (by omega), outB, UInt8.toNat_ofNat', IntKind.wrap_u8]
                congr 1
              · refine (if_neg hki).trans ?_
                simp only [ob]
                by_cases hk2 : k < i
                · rw [if_pos hk2, if_pos (by omega)]
                · rw [if_neg hk2, if_neg (by omega)]
            refine vc_ok hΓ mixed 1000 _ [] _ (by kernel_rfl) rfl ?_
            conv => whnf
            conv => whnf
            repeat' (refine And.intro ?_ ?_ <;> conv => whnf)
            · exact ⟨fun k _ => trivial⟩
            refine Ld.row fun k hk => ?_
            rw [finW, hL, outL_bf _ hk, absorb_all _ _ _ hq, ob, if_pos (by omega)]
end Go.Proofs.YtaihjcpfjgpmoaaGreatDoor

/- SHA-256 of bytes. -/
namespace Go.Proofs.YtaihjcpfjgpmoaaGreatDoor
set_option linter.unusedVariables false
set_option linter.unusedSimpArgs false
set_option maxRecDepth 100000
open Go Go.DD
def sha (l : List UInt8) : List UInt8 := finW (absorb (gw h256) l).1 (absorb (gw h256) l).2 l.length
theorem c51_ok : CtxOk Tryz.prog (ctx Tryz.f144.ntmps [(196, F85)] []) := ctxOk Tryz.f144.ntmps [(196, F85)] [] (FL.all (.cons f85_ok .nil)) (HL.all .nil)
def S51 : SpecH := fun xs h κ => xs.length = 0 ∧ inlineS Tryz.prog (ctx Tryz.f144.ntmps [(196, F85)] []) (bodyOf Tryz.f144) Tryz.f144.results.toList xs h κ
theorem s51_ok : SpecHOk Tryz.prog [] 144 S51 := inline_ok (c := bodyOf Tryz.f144) (np := 0) c51_ok Tryz.func144 rfl (by decide) rfl (by decide)
theorem c52_ok : CtxOk Tryz.prog (ctx Tryz.f145.ntmps [(101, F86), (197, F87), (46, F88)] []) := ctxOk Tryz.f145.ntmps [(101, F86), (197, F87), (46, F88)] [] (FL.all (.cons f86_ok (.cons f87_ok (.cons f88_ok .nil)))) (HL.all .nil)
def S52 : SpecH := fun xs h κ => xs.length = 2 ∧ inlineS Tryz.prog (ctx Tryz.f145.ntmps [(101, F86), (197, F87), (46, F88)] []) (bodyOf Tryz.f145) Tryz.f145.results.toList xs h κ
theorem s52_ok : SpecHOk Tryz.prog [] 145 S52 := inline_ok (c := bodyOf Tryz.f145) (np := 2) c52_ok Tryz.func145 rfl (by decide) rfl (by decide)
theorem bf_drop (l : List UInt8) (n k : Nat) : bf (l.drop n) k = bf l (n + k) := by
  simp [bf, List.getD_eq_getElem?_getD]
def F21 : FSpec := mkF (fun (a : By) => [a.v]) okB (fun a => arrV 32 (sha a.l))
theorem f21_ok : FOk Tryz.prog [] 100 F21 := mkF_ld fun a ⟨ha, hn⟩ => by
  refine CP.by1 ha ?_
  generalize a.l = l at hn
  have hΓ := ctxOk Tryz.f100.ntmps [(146, F53)] [(144, S51), (145, S52)] (FL.all (.cons f53_ok .nil)) (HL.all (.cons s51_ok (.cons s52_ok .nil)))
  refine CP_of_OK hΓ Tryz.func100 (c := bodyOf Tryz.f100) rfl (by decide) rfl rfl (by simp) (vc_ok hΓ mixed 1000 _ [] _ (by kernel_rfl) rfl ?_)
  conv => whnf
  refine ⟨rfl, ?_⟩
  refine vc_ok (CtxOk.inner c51_ok _) mixed 1000 _ [] _ (by kernel_rfl) rfl ?_
  conv => whnf
  refine ⟨(), rfl, ⟨trivial⟩, ?_⟩
  conv => whnf
  refine ⟨rfl, ?_⟩
  refine vc_ok (CtxOk.inner c52_ok _) mixed 1000 _ [] _ (by kernel_rfl) rfl ?_
  conv => whnf
  conv => whnf
  repeat' (first | (refine And.intro (fun _ => ?_) (fun _ => ?_) <;> conv => whnf) | (refine And.intro ?_ ?_ <;> conv => whnf))
  all_goals try first | exact ⟨rfl⟩ | exact ⟨⟨rfl, rfl⟩⟩ | exact ⟨⟨rfl, rfl, rfl⟩⟩ | exact ⟨fun _ _ => rfl⟩ | exact ⟨fun _ _ => trivial⟩ | exact ⟨fun k _ => isU8_bf _ k⟩ | exact ⟨by omega⟩ | exact ⟨⟨by omega, by omega⟩⟩ | exact ⟨⟨by omega, by omega, by omega⟩⟩
  · refine ⟨lt_step ?_ (lt_step ?_ lt_zero)⟩ <;> exact trivial
  refine ⟨⟨true, 2, _, fun k => a.b, fun k => if k = 0 then [] else l⟩, rfl, ⟨by show 2 ≤ 1000; omega, ?_, ?_⟩, ?_⟩
  · refine lt_step ?_ (lt_step ?_ lt_zero)
    · simpa using hn
    · simp
  · refine lt_step ?_ (lt_step ?_ lt_zero)
    · exact .inl rfl
    · exact .inr ⟨rfl, rfl⟩
  have hcat : cat (fun k => if k = 0 then [] else l) 2 = l := by simp [cat]
  conv => whnf
  repeat' (first | (refine And.intro (fun _ => ?_) (fun _ => ?_) <;> conv => whnf) | (refine And.intro ?_ ?_ <;> conv => whnf))
  refine OK_loopC (ι := (Nat → UInt32) × List UInt8) (fun x => [(0, .ref 1 []), (4, byV false x.2)]) (fun x => [some (.row 1 32 (bf [])), some (shaV x.1 [] l.length)]) (fun x => x.2.length ≤ 1000000 ∧ absorb x.1 x.2 = absorb (gw h256) l) (fun x => x.2.length) (gw h256, l) [some 0, some 1] ?_ (fun i hi => vc_ok (CtxOk.inner c52_ok _) mixed 1000 _ [] _ (by kernel_rfl) rfl ?_)
  · conv => whnf
    repeat' (first | (refine And.intro (fun _ => ?_) (fun _ => ?_) <;> conv => whnf) | (refine And.intro ?_ ?_ <;> conv => whnf))
    all_goals try first | exact ⟨rfl⟩ | exact ⟨⟨rfl, rfl⟩⟩ | exact ⟨⟨rfl, rfl, rfl⟩⟩ | exact ⟨fun _ _ => rfl⟩ | exact ⟨fun _ _ => trivial⟩ | exact ⟨fun k _ => isU8_bf _ k⟩ | exact ⟨by omega⟩ | exact ⟨⟨by omega, by omega⟩⟩ | exact ⟨⟨by omega, by omega, by omega⟩⟩ | exact ⟨fun k _ => leV_refl _ trivial⟩
    all_goals try exact ⟨⟨hn, rfl⟩⟩
    exact ⟨by rw [wrap_id (by omega) (by omega)]; omega⟩
  · obtain ⟨h, r⟩ := i
    obtain ⟨hr, he⟩ : r.length ≤ 1000000 ∧ absorb h r = absorb (gw h256) l := hi
    conv => whnf
    repeat' (first | (refine And.intro (fun _ => ?_) (fun _ => ?_) <;> conv => whnf) | (refine And.intro ?_ ?_ <;> conv => whnf))
    all_goals (try simp only [decide_eq_true_eq, decide_eq_false_iff_not, Int.toNat_natCast, Bool.not_eq_true, Bool.not_eq_false] at *)
    all_goals try first | exact ⟨rfl⟩ | exact ⟨⟨rfl, rfl⟩⟩ | exact ⟨⟨rfl, rfl, rfl⟩⟩ | exact ⟨by omega⟩ | exact ⟨⟨by omega, by omega⟩⟩ | exact ⟨⟨by omega, by omega, by omega⟩⟩
    · exact ⟨fun _ _ => trivial⟩
    · have e0 : bytesOf (Int.toNat 64 - Int.toNat 0) (fun k => bf r (Int.toNat 0 + k)) = r.take 64 := bytesOf_sub r 0 64 (by omega)
      refine ⟨(_, .imm _ _ _), rfl, ⟨fun k hk => isU8_bf _ _, ?_⟩, ?_⟩
      · simp only [By.l, bytesOf_length]; rfl
      conv => whnf
      repeat' (first | (refine And.intro (fun _ => ?_) (fun _ => ?_) <;> conv => whnf) | (refine And.intro ?_ ?_ <;> conv => whnf))
      all_goals try first | exact ⟨rfl⟩ | exact ⟨⟨rfl, rfl⟩⟩ | exact ⟨⟨rfl, rfl, rfl⟩⟩ | exact ⟨by omega⟩ | exact ⟨⟨by omega, by omega⟩⟩ | exact ⟨⟨by omega, by omega, by omega⟩⟩
      refine ⟨(takeW h (r.take 64), r.drop 64), [some 0, some 1], ?_⟩
      conv => whnf
      repeat' (first | (refine And.intro (fun _ => ?_) (fun _ => ?_) <;> conv => whnf) | (refine And.intro ?_ ?_ <;> conv => whnf))
      all_goals try first | exact ⟨rfl⟩ | exact ⟨⟨rfl, rfl⟩⟩ | exact ⟨⟨rfl, rfl, rfl⟩⟩ | exact ⟨by omega⟩ | exact ⟨⟨by omega, by omega⟩⟩ | exact ⟨⟨by omega, by omega, by omega⟩⟩
      · exact ⟨by simp⟩
      · exact ⟨fun k _ => (bf_drop r 64 k).symm⟩
      · exact ⟨fun k _ => leV_refl _ trivial⟩
      · refine ⟨fun k hk => leV_eq ?_ trivial⟩
        simp only [By.l]
        rw [e0]
      · exact ⟨fun _ _ => rfl⟩
      · refine ⟨⟨⟨by simp; omega, ?_⟩, by simp; omega⟩⟩
        rw [← he, absorb.eq_1 h r, if_pos (by omega)]
    refine vc_ok (CtxOk.inner c52_ok _) mixed 1000 _ [] _ (by kernel_rfl) rfl ?_
    conv => whnf
    refine ⟨.of _ _, rfl, ⟨trivial, hr⟩, ?_⟩
    conv => whnf
    repeat' (first | (refine And.intro (fun _ => ?_) (fun _ => ?_) <;> conv => whnf) | (refine And.intro ?_ ?_ <;> conv => whnf))
    all_goals try first | exact ⟨rfl⟩ | exact ⟨⟨rfl, rfl⟩⟩ | exact ⟨⟨rfl, rfl, rfl⟩⟩ | exact ⟨by omega⟩ | exact ⟨⟨by omega, by omega⟩⟩ | exact ⟨⟨by omega, by omega, by omega⟩⟩
    · exact ⟨⟨⟨fun _ _ => trivial, trivial, trivial, trivial⟩, fun h => nomatch h⟩⟩
    refine ⟨⟨h, r, l.length⟩, rfl, ⟨by show r.length < 64; omega, hn⟩, ?_⟩
    have he2 : absorb h r = (h, r) := by rw [absorb, if_neg (by omega)]
    conv => whnf
    repeat' (first | (refine And.intro (fun _ => ?_) (fun _ => ?_) <;> conv => whnf) | (refine And.intro ?_ ?_ <;> conv => whnf))
    all_goals try first | exact ⟨rfl⟩ | exact ⟨⟨rfl, rfl⟩⟩ | exact ⟨⟨rfl, rfl, rfl⟩⟩ | exact ⟨by omega⟩ | exact ⟨⟨by omega, by omega⟩⟩ | exact ⟨⟨by omega, by omega, by omega⟩⟩
    · exact ⟨fun _ _ => trivial⟩
    refine Ld.of ?_
    rw [sha, ← he, he2]
    rfl
end Go.Proofs.YtaihjcpfjgpmoaaGreatDoor

/- Heads of CBOR. -/
namespace Go.Proofs.YtaihjcpfjgpmoaaGreatDoor
set_option linter.unusedVariables false
set_option linter.unusedSimpArgs false
set_option maxRecDepth 100000
open Go Go.DD
/-- A row of bytes of one's own. -/
def slV (i : Nat) (l : List UInt8) : V := .sl i [] 1 0 l.length l.length
def rowV (l : List UInt8) : V := .row 1 l.length (bf l)
theorem rok_rowV (l : List UInt8) : rok (rowV l) := by
  simp only [rowV, rok]
  exact fun k _ => trivial
def H88 : SpecH := mkHS (fun (l : List UInt8) => [slV 0 l]) (fun l => [some (rowV l)]) (fun l => l.length ≤ 1000000) (fun l => slV 1 l) (fun l => [some (rowV l), some (rowV l)])
theorem h88_ok : SpecHOk Tryz.prog [] 46 H88 := mkHS_ok s88_ok (fun l κ hn h => by
  refine ⟨rfl, ?_⟩
  refine vc_ok (CtxOk.inner c88_ok _) mixed 1000 _ [] _ (by kernel_rfl) rfl ?_
  conv => whnf
  intro b hb
  conv => whnf
  refine And.intro (fun h1 => ?_) (fun h1 => ?_) <;> conv => whnf
  · have hl : l.length = 0 := hb h1
    refine ⟨[some 0, none], slV 1 l, [some (rowV l), some (rowV l)], ?_⟩
    conv => whnf
    repeat' (refine And.intro ?_ ?_ <;> conv => whnf)
    all_goals try first | exact ⟨rfl⟩ | exact ⟨⟨rfl, rfl⟩⟩ | exact ⟨⟨rfl, rfl, rfl⟩⟩ | exact ⟨fun _ _ => rfl⟩ | exact ⟨fun _ _ => trivial⟩ | exact ⟨fun k _ => isU8_bf _ k⟩ | exact ⟨by omega⟩ | exact ⟨⟨by omega, by omega⟩⟩ | exact ⟨⟨by omega, by omega, by omega⟩⟩
    exact h
  · refine And.intro (show Ob (_ ≤ _) from ⟨by omega⟩) ?_
    conv => whnf
    refine Or.inl ?_
    conv => whnf
    repeat' (first | (refine And.intro (fun _ => ?_) (fun _ => ?_) <;> conv => whnf) | (refine And.intro ?_ ?_ <;> conv => whnf))
    all_goals try first | exact ⟨rfl⟩ | exact ⟨⟨rfl, rfl⟩⟩ | exact ⟨⟨rfl, rfl, rfl⟩⟩ | exact ⟨fun _ _ => rfl⟩ | exact ⟨fun _ _ => trivial⟩ | exact ⟨fun k _ => isU8_bf _ k⟩ | exact ⟨by omega⟩ | exact ⟨⟨by omega, by omega⟩⟩ | exact ⟨⟨by omega, by omega, by omega⟩⟩ | exact ⟨⟨by simp only []; omega, by omega⟩⟩
    refine ⟨[some 0, some 2], slV 1 l, [some (rowV l), some (rowV l)], ?_⟩
    conv => whnf
    repeat' (refine And.intro ?_ ?_ <;> conv => whnf)
    all_goals try first | exact ⟨rfl⟩ | exact ⟨⟨rfl, rfl⟩⟩ | exact ⟨⟨rfl, rfl, rfl⟩⟩ | exact ⟨fun _ _ => rfl⟩ | exact ⟨fun _ _ => trivial⟩ | exact ⟨fun k _ => isU8_bf _ k⟩ | exact ⟨by omega⟩ | exact ⟨⟨by omega, by omega⟩⟩ | exact ⟨⟨by omega, by omega, by omega⟩⟩
    · exact ⟨fun k _ => leV_eq ((if_neg (Nat.not_lt_zero _)).trans (by simp)) trivial⟩
    · exact h) (fun _ => by simp) (fun _ => by simp only [slV, rok]) (fun l u hu => by simp at hu; subst hu; exact rok_rowV l)
def sizeB (n : Nat) : Nat × Nat := if n < 24 then (0, n) else if n < 256 then (1, 24) else if n < 65536 then (2, 25) else if n < 4294967296 then (4, 26) else (8, 27)
def F121 : FSpec := mkF (fun (n : Nat) => [.int .i64 (n : Nat)]) (fun _ => True) (fun n => .tup (.cons (.int .i64 ((sizeB n).1 : Nat)) (.cons (.int .i64 ((sizeB n).2 : Nat)) .nil)))
theorem f121_ok : FOk Tryz.prog [] 264 F121 := mkF_ok fun n _ Φ h => by
  have hΓ := ctxOk Tryz.f264.ntmps [] [] (FL.all .nil) (HL.all .nil)
  refine CP_of_OK hΓ Tryz.func264 (c := bodyOf Tryz.f264) rfl (by decide) rfl rfl (by simp) (vc_ok hΓ mixed 1000 _ [] _ (by kernel_rfl) rfl ?_)
  conv => whnf
  repeat' (first | (refine And.intro (fun _ => ?_) (fun _ => ?_) <;> conv => whnf) | (refine And.intro ?_ ?_ <;> conv => whnf))
  all_goals (try simp only [decide_eq_true_eq, decide_eq_false_iff_not, Int.toNat_natCast, Bool.not_eq_true, Bool.not_eq_false] at *)
  all_goals (refine cast (congrArg Φ ?_) h; unfold sizeB)
  · rw [if_pos (by omega)]; rfl
  · rw [if_neg (by omega), if_pos (by omega)]; rfl
  · rw [if_neg (by omega), if_neg (by omega), if_pos (by omega)]; rfl
  · rw [if_neg (by omega), if_neg (by omega), if_neg (by omega), if_pos (by omega)]; rfl
  · rw [if_neg (by omega), if_neg (by omega), if_neg (by omega), if_neg (by omega)]; rfl
/-- The last bytes of a number, the highest first: the first so many of them. -/
def beU (n k : Nat) : Nat → List UInt8 | 0 => [] | i + 1 => beU n k i ++ [UInt8.ofNat (n / 2 ^ (8 * (k - 1 - i)))]
theorem beU_length (n k : Nat) : ∀ i, (beU n k i).length = i
  | 0 => rfl
  | i + 1 => by simp [beU, beU_length n k i]
def headL (major n : Nat) : List UInt8 := UInt8.ofNat (major * 32 + (sizeB n).2) :: beU n (sizeB n).1 (sizeB n).1
theorem hd_byte' : ∀ (m : Fin 8) (s : Fin 28), IntKind.u8.wrap (bitsI .or .i64 (shlI .i64 (m.val : Nat) 5) (s.val : Nat)) = ((UInt8.ofNat (m.val * 32 + s.val)).toNat : Nat) := by decide
theorem hd_byte {m s : Nat} (hm : m < 8) (hs : s ≤ 27) : IntKind.u8.wrap (bitsI .or .i64 (shlI .i64 (m : Nat) 5) (s : Nat)) = ((UInt8.ofNat (m * 32 + s)).toNat : Nat) := hd_byte' ⟨m, hm⟩ ⟨s, by omega⟩
theorem be_byte {n B i : Nat} (hi : i < B) (hB : B ≤ 8) : IntKind.u8.wrap (shrI .i64 (n : Nat) (IntKind.i64.wrap (8 * ((B : Int) - 1 - (i : Nat))))) = ((UInt8.ofNat (n / 2 ^ (8 * (B - 1 - i)))).toNat : Nat) := by
  have h3 : (IntKind.i64.wrap (8 * ((B : Int) - 1 - (i : Nat)))).toNat = 8 * (B - 1 - i) := by rw [IntKind.wrap_i64]; omega
  simp only [shrI, h3, IntKind.bits]
  rw [Nat.min_eq_left (by omega), Int.fdiv_eq_ediv_of_nonneg _ (by exact Int.le_of_lt (Int.pow_pos (by decide))), IntKind.wrap_u8, UInt8.toNat_ofNat']
  have : ((n : Int) / 2 ^ (8 * (B - 1 - i))) = ((n / 2 ^ (8 * (B - 1 - i)) : Nat) : Int) := by simp
  rw [this]
  omega
structure Put where
  b : List UInt8
  major : Nat
  n : Int
def putL (a : Put) : List UInt8 := if a.n < 0 then [] else a.b ++ headL a.major a.n.toNat
def putE (a : Put) : Int := if a.n < 0 then 1 else 0
theorem sizeB_le (n : Nat) : (sizeB n).1 ≤ 8 ∧ (sizeB n).2 ≤ 27 := by
  unfold sizeB
  repeat' split
  all_goals simp
  omega
def H152 : SpecH := mkHS (fun (a : Put) => [slV 0 a.b, .int .i64 (a.major : Nat), .int .i64 a.n]) (fun a => [some (rowV a.b)]) (fun a => a.b.length ≤ 900000 ∧ a.major < 8 ∧ a.n ≤ 9223372036854775807)
  (fun a => .tup (.cons (slV 1 (putL a)) (.cons (.int .i64 (putE a)) .nil))) (fun a => [some (rowV a.b), some (rowV (putL a))])
theorem c152_ok : CtxOk Tryz.prog (ctx Tryz.f263.ntmps [(264, F121)] [(46, H88)]) := ctxOk Tryz.f263.ntmps [(264, F121)] [(46, H88)] (FL.all (.cons f121_ok .nil)) (HL.all (.cons h88_ok .nil))
def S152 : SpecH := fun xs h κ => xs.length = 3 ∧ inlineS Tryz.prog (ctx Tryz.f263.ntmps [(264, F121)] [(46, H88)]) (bodyOf Tryz.f263) Tryz.f263.results.toList xs h κ
theorem s152_ok : SpecHOk Tryz.prog [] 263 S152 := inline_ok (c := bodyOf Tryz.f263) (np := 3) c152_ok Tryz.func263 rfl (by decide) rfl (by decide)
theorem h152_ok : SpecHOk Tryz.prog [] 263 H152 := mkHS_ok s152_ok (fun ⟨b, major, n⟩ κ ⟨hb, hm, hn⟩ h => by
  simp only [] at hb hm hn
  refine ⟨rfl, ?_⟩
  refine vc_ok (CtxOk.inner c152_ok _) mixed 1000 _ [] _ (by kernel_rfl) rfl ?_
  conv => whnf
  conv => whnf
  repeat' (first | (refine And.intro (fun _ => ?_) (fun _ => ?_) <;> conv => whnf) | (refine And.intro ?_ ?_ <;> conv => whnf))
  all_goals (try simp only [decide_eq_true_eq, decide_eq_false_iff_not, Int.toNat_natCast, Bool.not_eq_true, Bool.not_eq_false] at *)
  · omega
  · omega
  · refine ⟨[some 0, none], .tup (.cons (slV 1 (putL ⟨b, major, n⟩)) (.cons (.int .i64 (putE ⟨b, major, n⟩)) .nil)), [some (rowV b), some (rowV (putL ⟨b, major, n⟩))], ?_⟩
    have e1 : putL ⟨b, major, n⟩ = [] := if_pos ‹_›
    have e2 : putE ⟨b, major, n⟩ = 1 := if_pos ‹_›
    rw [e1, e2] at h ⊢
    conv => whnf
    repeat' (refine And.intro ?_ ?_ <;> conv => whnf)
    all_goals try first | exact ⟨rfl⟩ | exact ⟨⟨rfl, rfl⟩⟩ | exact ⟨⟨rfl, rfl, rfl⟩⟩ | exact ⟨fun _ _ => rfl⟩ | exact ⟨fun _ _ => trivial⟩ | exact ⟨fun k _ => isU8_bf _ k⟩ | exact ⟨by omega⟩ | exact ⟨⟨by omega, by omega⟩⟩ | exact ⟨⟨by omega, by omega, by omega⟩⟩
    exact h
  obtain ⟨n, rfl⟩ : ∃ q : Nat, n = q := ⟨n.toNat, by omega⟩
  have e1 : putL ⟨b, major, n⟩ = b ++ headL major n := if_neg (show ¬ ((n : Nat) : Int) < 0 by omega)
  have e2 : putE ⟨b, major, n⟩ = 0 := if_neg (show ¬ ((n : Nat) : Int) < 0 by omega)
  rw [e1, e2] at h
  have hsz := sizeB_le n
  refine ⟨n, rfl, ⟨trivial⟩, ?_⟩
  conv => whnf
  refine ⟨b, [some 0], ?_⟩
  conv => whnf
  repeat' (first | (refine And.intro (fun _ => ?_) (fun _ => ?_) <;> conv => whnf) | (refine And.intro ?_ ?_ <;> conv => whnf))
  all_goals try first | exact ⟨rfl⟩ | exact ⟨⟨rfl, rfl⟩⟩ | exact ⟨⟨rfl, rfl, rfl⟩⟩ | exact ⟨fun _ _ => rfl⟩ | exact ⟨fun _ _ => trivial⟩ | exact ⟨fun k _ => isU8_bf _ k⟩ | exact ⟨by omega⟩ | exact ⟨⟨by omega, by omega⟩⟩ | exact ⟨⟨by omega, by omega, by omega⟩⟩
  refine Or.inl ?_
  conv => whnf
  repeat' (first | (refine And.intro (fun _ => ?_) (fun _ => ?_) <;> conv => whnf) | (refine And.intro ?_ ?_ <;> conv => whnf))
  all_goals try first | exact ⟨rfl⟩ | exact ⟨⟨rfl, rfl⟩⟩ | exact ⟨⟨rfl, rfl, rfl⟩⟩ | exact ⟨fun _ _ => rfl⟩ | exact ⟨fun _ _ => trivial⟩ | exact ⟨fun k _ => isU8_bf _ k⟩ | exact ⟨by omega⟩ | exact ⟨⟨by omega, by omega⟩⟩ | exact ⟨⟨by omega, by omega, by omega⟩⟩ | exact ⟨⟨by simp only []; omega, by omega⟩⟩
  generalize hB : sizeB n = B at hsz e1 h ⊢
  obtain ⟨B, says⟩ := B
  simp only [] at hsz
  have hhd : headL major n = UInt8.ofNat (major * 32 + says) :: beU n B B := by rw [headL, hB]
  rw [hhd] at h
  refine OK_loopC (ι := Nat) (fun i => [(2, .int .i64 (n : Nat)), (10, .sl 1 [] 1 0 (b.length + 1 + i) (b.length + 1 + i)), (11, .int .i64 ((B : Int) - 1 - (i : Nat)))]) (fun i => [some (rowV b), some (.row 1 (b.length + 1 + i) (bf (b ++ UInt8.ofNat (major * 32 + says) :: beU n B i)))]) (fun i => i ≤ B) (fun i => B - i) 0 [some 0, some 4] ?_ (fun i hi => vc_ok (CtxOk.inner c152_ok _) mixed 1000 _ [] _ (by kernel_rfl) rfl ?_)
  · conv => whnf
    repeat' (first | (refine And.intro (fun _ => ?_) (fun _ => ?_) <;> conv => whnf) | (refine And.intro ?_ ?_ <;> conv => whnf))
    all_goals try first | exact ⟨rfl⟩ | exact ⟨⟨rfl, rfl⟩⟩ | exact ⟨⟨rfl, rfl, rfl⟩⟩ | exact ⟨by omega⟩ | exact ⟨⟨by omega, by omega⟩⟩ | exact ⟨⟨by omega, by omega, by omega⟩⟩
    · exact ⟨by rw [wrap_id (by simp only []; omega) (by simp only []; omega)]; simp⟩
    · exact ⟨fun k _ => leV_refl _ trivial⟩
    · refine ⟨?_⟩
      refine leV_snoc (i := b.length) ?_ ?_ fun k _ => trivial
      · intro k hk
        refine (if_pos hk).trans ?_
        exact (bf_lt _ _ hk).symm
      · rw [bf_at, ← hd_byte hm hsz.2]
        exact (if_neg (Nat.lt_irrefl _)).trans (by rw [Nat.sub_self]; rfl)
  · conv => whnf
    repeat' (first | (refine And.intro (fun _ => ?_) (fun _ => ?_) <;> conv => whnf) | (refine And.intro ?_ ?_ <;> conv => whnf))
    all_goals (try simp only [decide_eq_true_eq, decide_eq_false_iff_not, Int.toNat_natCast, Bool.not_eq_true, Bool.not_eq_false] at *)
    all_goals try first | exact ⟨rfl⟩ | exact ⟨⟨rfl, rfl⟩⟩ | exact ⟨⟨rfl, rfl, rfl⟩⟩ | exact ⟨by omega⟩ | exact ⟨⟨by omega, by omega⟩⟩ | exact ⟨⟨by omega, by omega, by omega⟩⟩
    · exact ⟨by rw [wrap_id (by omega) (by omega)]; omega⟩
    · refine Or.inl ?_
      conv => whnf
      repeat' (first | (refine And.intro (fun _ => ?_) (fun _ => ?_) <;> conv => whnf) | (refine And.intro ?_ ?_ <;> conv => whnf))
      all_goals try first | exact ⟨rfl⟩ | exact ⟨⟨rfl, rfl⟩⟩ | exact ⟨⟨rfl, rfl, rfl⟩⟩ | exact ⟨fun _ _ => rfl⟩ | exact ⟨fun _ _ => trivial⟩ | exact ⟨fun k _ => isU8_bf _ k⟩ | exact ⟨by omega⟩ | exact ⟨⟨by omega, by omega⟩⟩ | exact ⟨⟨by omega, by omega, by omega⟩⟩ | exact ⟨⟨by simp only []; omega, by omega⟩⟩
      refine ⟨i + 1, [some 0, some 3], ?_⟩
      conv => whnf
      repeat' (refine And.intro ?_ ?_ <;> conv => whnf)
      all_goals try first | exact ⟨rfl⟩ | exact ⟨⟨rfl, rfl⟩⟩ | exact ⟨⟨rfl, rfl, rfl⟩⟩ | exact ⟨fun _ _ => rfl⟩ | exact ⟨fun _ _ => trivial⟩ | exact ⟨fun k _ => isU8_bf _ k⟩ | exact ⟨by omega⟩ | exact ⟨⟨by omega, by omega⟩⟩ | exact ⟨⟨by omega, by omega, by omega⟩⟩
      · exact ⟨by rw [wrap_id (by omega) (by omega)]; omega⟩
      · refine ⟨?_⟩
        refine leV_snoc (i := b.length + 1 + i) ?_ ?_ fun k _ => trivial
        · intro k hk
          refine (if_pos hk).trans ?_
          simp only [beU]
          rw [← List.cons_append, ← List.append_assoc]
          exact (bf_lt _ _ (by simp [beU_length]; omega)).symm
        · have key : bf (b ++ UInt8.ofNat (major * 32 + says) :: beU n B (i + 1)) (b.length + 1 + i) = .int .u8 ((UInt8.ofNat (n / 2 ^ (8 * (B - 1 - i)))).toNat : Nat) := by
            simp only [beU]
            rw [← List.cons_append, ← List.append_assoc]
            exact bf_at' _ _ _ (by simp [beU_length]; omega)
          refine Eq.trans ?_ key.symm
          rw [← be_byte (by omega) (by omega)]
          exact (if_neg (Nat.lt_irrefl _)).trans (by rw [Nat.sub_self]; rfl)
    obtain rfl : B = i := by omega
    refine vc_ok (CtxOk.inner c152_ok _) mixed 1000 _ [] _ (by kernel_rfl) rfl ?_
    conv => whnf
    refine ⟨[some 0, some 1], .tup (.cons (slV 1 (b ++ UInt8.ofNat (major * 32 + says) :: beU n B B)) (.cons (.int .i64 0) .nil)), [some (rowV b), some (rowV (b ++ UInt8.ofNat (major * 32 + says) :: beU n B B))], ?_⟩
    have hl : (b ++ UInt8.ofNat (major * 32 + says) :: beU n B B).length = b.length + 1 + B := by simp [beU_length]; omega
    conv => whnf
    repeat' (refine And.intro ?_ ?_ <;> conv => whnf)
    all_goals try first | exact ⟨rfl⟩ | exact ⟨⟨rfl, rfl⟩⟩ | exact ⟨⟨rfl, rfl, rfl⟩⟩ | exact ⟨by omega⟩ | exact ⟨⟨by omega, by omega⟩⟩ | exact ⟨⟨by omega, by omega, by omega⟩⟩
    · exact ⟨fun k _ => leV_refl _ trivial⟩
    · exact ⟨fun k _ => leV_refl _ trivial⟩
    · exact h) (fun _ => by simp) (fun _ => by simp [slV, rok, roks]) (fun l u hu => by simp at hu; rcases hu with rfl | rfl <;> exact rok_rowV _)
end Go.Proofs.YtaihjcpfjgpmoaaGreatDoor

/- The writer of CBOR. -/
namespace Go.Proofs.YtaihjcpfjgpmoaaGreatDoor
set_option linter.unusedVariables false
set_option linter.unusedSimpArgs false
set_option maxRecDepth 100000
open Go Go.DD
/-- A token. -/
structure Tk where
  kind : Int
  n : Int
  lent : Bool
  l : List UInt8
def tokV (t : Tk) : V := .st (.cons (.int .i64 t.kind) (.cons (.int .i64 t.n) (.cons (byV t.lent t.l) .nil)))
structure Toks where
  lt : Bool
  n : Nat
  ts : Nat → Tk
def toksV (a : Toks) : V := .imm a.lt 3 a.n fun k => tokV (a.ts k)
/-- The writer: where it is, what it wrote, whether it is bad. -/
structure WS where
  at' : Nat
  out : List UInt8
  bad : Bool
def wsV (a : Toks) (s : WS) (i : Nat) : V := .st (.cons (toksV a) (.cons (.int .i64 (s.at' : Nat)) (.cons (slV i s.out) (.cons (.bool s.bad) .nil))))
def wsH (a : Toks) (s : WS) : Heap := [some (wsV a s 1), some (rowV s.out)]
def wsH' (a : Toks) (s : WS) : Heap := [some (wsV a s 2), none, some (rowV s.out)]
theorem wsH'_rok (a : Toks) (s : WS) (u : V) (h : some u ∈ wsH' a s) : rok u := by
  simp [wsH'] at h
  rcases h with rfl | rfl
  · simp [wsV, rok, roks, toksV, slV]
  · exact rok_rowV _
def wHead (s : WS) (major : Nat) (n : Int) : WS := ⟨s.at', putL ⟨s.out, major, n⟩, s.bad || !(putE ⟨s.out, major, n⟩ == 0)⟩
structure HdA where
  a : Toks
  s : WS
  major : Nat
  n : Int
def H138 : SpecH := mkHS (fun (x : HdA) => [.ref 0 [], .int .i64 (x.major : Nat), .int .i64 x.n]) (fun x => wsH x.a x.s) (fun x => x.s.out.length ≤ 900000 ∧ x.major < 8 ∧ x.n ≤ 9223372036854775807)
  (fun x => .tup .nil) (fun x => wsH' x.a (wHead x.s x.major x.n))
theorem c138_ok : CtxOk Tryz.prog (ctx Tryz.f262.ntmps [] [(263, H152)]) := ctxOk Tryz.f262.ntmps [] [(263, H152)] (FL.all .nil) (HL.all (.cons h152_ok .nil))
def S138 : SpecH := fun xs h κ => xs.length = 3 ∧ inlineS Tryz.prog (ctx Tryz.f262.ntmps [] [(263, H152)]) (bodyOf Tryz.f262) Tryz.f262.results.toList xs h κ
theorem s138_ok : SpecHOk Tryz.prog [] 262 S138 := inline_ok (c := bodyOf Tryz.f262) (np := 3) c138_ok Tryz.func262 rfl (by decide) rfl (by decide)
theorem h138_ok : SpecHOk Tryz.prog [] 262 H138 := mkHS_ok s138_ok (fun ⟨a, s, major, n⟩ κ ⟨hb, hm, hn⟩ h => by
  refine ⟨rfl, ?_⟩
  refine vc_ok (CtxOk.inner c138_ok _) mixed 1000 _ [] _ (by kernel_rfl) rfl ?_
  conv => whnf
  refine ⟨⟨s.out, major, n⟩, [some 1], ?_⟩
  conv => whnf
  repeat' (first | (refine And.intro (fun _ => ?_) (fun _ => ?_) <;> conv => whnf) | (refine And.intro ?_ ?_ <;> conv => whnf))
  all_goals try first | exact ⟨rfl⟩ | exact ⟨⟨rfl, rfl⟩⟩ | exact ⟨⟨rfl, rfl, rfl⟩⟩ | exact ⟨by omega⟩ | exact ⟨⟨by omega, by omega⟩⟩ | exact ⟨⟨by omega, by omega, by omega⟩⟩
  · exact ⟨fun k _ => leV_refl _ trivial⟩
  · rename_i hbad
    refine ⟨[some 0, some 1, some 3], .tup .nil, wsH' a (wHead s major n), ?_⟩
    conv => whnf
    repeat' (refine And.intro ?_ ?_ <;> conv => whnf)
    all_goals try first | exact ⟨rfl⟩ | exact ⟨⟨rfl, rfl⟩⟩ | exact ⟨⟨rfl, rfl, rfl⟩⟩ | exact ⟨by omega⟩ | exact ⟨⟨by omega, by omega⟩⟩ | exact ⟨⟨by omega, by omega, by omega⟩⟩ | exact ⟨fun k _ => leV_refl _ trivial⟩ | exact ⟨fun _ _ => rfl⟩
    · exact ⟨by simp_all [wHead]⟩
    · exact h
  · rename_i hbad
    refine ⟨[some 0, some 1, some 3], .tup .nil, wsH' a (wHead s major n), ?_⟩
    conv => whnf
    repeat' (refine And.intro ?_ ?_ <;> conv => whnf)
    all_goals try first | exact ⟨rfl⟩ | exact ⟨⟨rfl, rfl⟩⟩ | exact ⟨⟨rfl, rfl, rfl⟩⟩ | exact ⟨by omega⟩ | exact ⟨⟨by omega, by omega⟩⟩ | exact ⟨⟨by omega, by omega, by omega⟩⟩ | exact ⟨fun k _ => leV_refl _ trivial⟩ | exact ⟨fun _ _ => rfl⟩
    · refine ⟨?_⟩
      have hb2 : s.bad = false := hbad
      simp only [wHead, hb2, Bool.false_or]
      rfl
    · exact h) (fun _ => by simp [wsH, wsH']) (fun _ => by simp [rok, roks]) (fun x u hu => wsH'_rok _ _ u hu)
def wNum (s : WS) (major : Nat) (t : Tk) : WS := wHead ⟨s.at', s.out, s.bad || decide (0 < (t.l.length : Int))⟩ major t.n
structure NumA where
  a : Toks
  s : WS
  major : Nat
  t : Tk
def H123 : SpecH := mkHS (fun (x : NumA) => [.ref 0 [], .int .i64 (x.major : Nat), tokV x.t]) (fun x => wsH x.a x.s) (fun x => x.s.out.length ≤ 900000 ∧ x.major < 8 ∧ x.t.n ≤ 9223372036854775807)
  (fun x => .tup .nil) (fun x => wsH' x.a (wNum x.s x.major x.t))
theorem c123_ok : CtxOk Tryz.prog (ctx Tryz.f253.ntmps [] [(262, H138)]) := ctxOk Tryz.f253.ntmps [] [(262, H138)] (FL.all .nil) (HL.all (.cons h138_ok .nil))
def S123 : SpecH := fun xs h κ => xs.length = 3 ∧ inlineS Tryz.prog (ctx Tryz.f253.ntmps [] [(262, H138)]) (bodyOf Tryz.f253) Tryz.f253.results.toList xs h κ
theorem s123_ok : SpecHOk Tryz.prog [] 253 S123 := inline_ok (c := bodyOf Tryz.f253) (np := 3) c123_ok Tryz.func253 rfl (by decide) rfl (by decide)
theorem h123_ok : SpecHOk Tryz.prog [] 253 H123 := mkHS_ok s123_ok (fun ⟨a, s, major, t⟩ κ ⟨hb, hm, hn⟩ h => by
  refine ⟨rfl, ?_⟩
  refine vc_ok (CtxOk.inner c123_ok _) mixed 1000 _ [] _ (by kernel_rfl) rfl ?_
  conv => whnf
  conv => whnf
  repeat' (first | (refine And.intro (fun _ => ?_) (fun _ => ?_) <;> conv => whnf) | (refine And.intro ?_ ?_ <;> conv => whnf))
  · rename_i hbad
    have hb2 : s.bad = true := hbad
    have e : wNum s major t = wHead ⟨s.at', s.out, true⟩ major t.n := by simp [wNum, hb2]
    rw [e] at h
    refine ⟨⟨a, ⟨s.at', s.out, true⟩, major, t.n⟩, [some 0, some 1], ?_⟩
    conv => whnf
    repeat' (first | (refine And.intro (fun _ => ?_) (fun _ => ?_) <;> conv => whnf) | (refine And.intro ?_ ?_ <;> conv => whnf))
    all_goals try first | exact ⟨rfl⟩ | exact ⟨⟨rfl, rfl⟩⟩ | exact ⟨⟨rfl, rfl, rfl⟩⟩ | exact ⟨by omega⟩ | exact ⟨⟨by omega, by omega⟩⟩ | exact ⟨⟨by omega, by omega, by omega⟩⟩ | exact ⟨fun k _ => leV_refl _ trivial⟩ | exact ⟨fun _ _ => rfl⟩ | exact ⟨⟨hb, hm, hn⟩⟩
    refine ⟨[some 0, some 1, some 5], .tup .nil, wsH' a (wHead ⟨s.at', s.out, true⟩ major t.n), ?_⟩
    conv => whnf
    repeat' (refine And.intro ?_ ?_ <;> conv => whnf)
    all_goals try first | exact ⟨rfl⟩ | exact ⟨⟨rfl, rfl⟩⟩ | exact ⟨⟨rfl, rfl, rfl⟩⟩ | exact ⟨by omega⟩ | exact ⟨⟨by omega, by omega⟩⟩ | exact ⟨⟨by omega, by omega, by omega⟩⟩ | exact ⟨fun k _ => leV_refl _ trivial⟩ | exact ⟨fun _ _ => rfl⟩
    exact h
  · rename_i hbad
    have hb2 : s.bad = false := hbad
    have e : wNum s major t = wHead ⟨s.at', s.out, decide (0 < (t.l.length : Int))⟩ major t.n := by simp [wNum, hb2]
    rw [e] at h
    refine ⟨⟨a, ⟨s.at', s.out, (decide (0 < (t.l.length : Int)))⟩, major, t.n⟩, [some 0, some 1], ?_⟩
    conv => whnf
    repeat' (first | (refine And.intro (fun _ => ?_) (fun _ => ?_) <;> conv => whnf) | (refine And.intro ?_ ?_ <;> conv => whnf))
    all_goals try first | exact ⟨rfl⟩ | exact ⟨⟨rfl, rfl⟩⟩ | exact ⟨⟨rfl, rfl, rfl⟩⟩ | exact ⟨by omega⟩ | exact ⟨⟨by omega, by omega⟩⟩ | exact ⟨⟨by omega, by omega, by omega⟩⟩ | exact ⟨fun k _ => leV_refl _ trivial⟩ | exact ⟨fun _ _ => rfl⟩ | exact ⟨⟨hb, hm, hn⟩⟩
    refine ⟨[some 0, some 1, some 5], .tup .nil, wsH' a (wHead ⟨s.at', s.out, (decide (0 < (t.l.length : Int)))⟩ major t.n), ?_⟩
    conv => whnf
    repeat' (refine And.intro ?_ ?_ <;> conv => whnf)
    all_goals try first | exact ⟨rfl⟩ | exact ⟨⟨rfl, rfl⟩⟩ | exact ⟨⟨rfl, rfl, rfl⟩⟩ | exact ⟨by omega⟩ | exact ⟨⟨by omega, by omega⟩⟩ | exact ⟨⟨by omega, by omega, by omega⟩⟩ | exact ⟨fun k _ => leV_refl _ trivial⟩ | exact ⟨fun _ _ => rfl⟩
    exact h
  ) (fun _ => by simp [wsH, wsH']) (fun _ => by simp [rok, roks]) (fun x u hu => wsH'_rok _ _ u hu)
end Go.Proofs.YtaihjcpfjgpmoaaGreatDoor

/- The package variables; UTF-8. -/
namespace Go.Proofs.YtaihjcpfjgpmoaaGreatDoor
set_option linter.unusedVariables false
set_option linter.unusedSimpArgs false
set_option maxRecDepth 100000
open Go Go.DD
/-- Go's table of first bytes, and of the ranges of second ones. -/
def firstB (c : Nat) : UInt8 :=
  if c < 0x80 then 0xF0 else if c < 0xC2 then 0xF1 else if c < 0xE0 then 0x02 else if c = 0xE0 then 0x13 else if c < 0xED then 0x03 else if c = 0xED then 0x23
  else if c < 0xF0 then 0x03 else if c = 0xF0 then 0x34 else if c < 0xF4 then 0x04 else if c = 0xF4 then 0x44 else 0xF1
def accB (k : Nat) : UInt8 × UInt8 :=
  if k = 0 then (0x80, 0xBF) else if k = 1 then (0xA0, 0xBF) else if k = 2 then (0x80, 0x9F) else if k = 3 then (0x90, 0xBF) else if k = 4 then (0x80, 0x8F) else (0, 0)
def firstV : V := .row 1 256 fun k => .int .u8 ((firstB k).toNat : Nat)
def accV : V := .row 2 16 fun k => .st (.cons (.int .u8 ((accB k).1.toNat : Nat)) (.cons (.int .u8 ((accB k).2.toNat : Nat)) .nil))
/-- What stands in the package variables. -/
def G : List (Nat × V) := [(1, firstV), (2, accV)]
def ctxG (n : Nat) (fs : List (Nat × FSpec)) (fh : List (Nat × SpecH)) (ex : List (Nat × Plan)) : Ctx := ⟨tb, fs.map fun p => (p.1, callS p.2), fh, G, n, 0, ex, false⟩
theorem ctxG_ok (n : Nat) (fs : List (Nat × FSpec)) (fh : List (Nat × SpecH)) (ex : List (Nat × Plan)) (h : FL Tryz.prog G fs) (h' : HL Tryz.prog G fh) : CtxOk Tryz.prog (ctxG n fs fh ex) where
  tb := tabOk
  fs := fun p hp => by
    obtain ⟨q, hq, rfl⟩ := List.mem_map.1 hp
    exact (h.all q hq).spec
  fh := h'.all
theorem _root_.Go.DD.FOk.g {n : Nat} {F : FSpec} (h : FOk Tryz.prog [] n F) : FOk Tryz.prog G n F :=
  ⟨h.sng, fun xs Φ hx E args hw hN hK _ hT => h.ok xs Φ hx E args hw hN hK (fun p hp => by cases hp) hT⟩
theorem hg {n : Nat} {S : SpecH} (h : SpecHOk Tryz.prog [] n S) : SpecHOk Tryz.prog G n S :=
  ⟨h.1, fun E hh xs args κ hw hs _ ht hd => h.2 E hh xs args κ hw hs (fun p hp => by cases hp) ht hd⟩
def inR (a : UInt8 × UInt8) (c : UInt8) : Bool := decide (a.1.toNat ≤ c.toNat) && decide (c.toNat ≤ a.2.toNat)
/-- Are these bytes UTF-8? -/
def utf8 : List UInt8 → Bool
  | [] => true
  | c :: r =>
    if c.toNat < 128 then utf8 r
    else if (firstB c.toNat).toNat % 8 = 2 then
      match r with | d :: r => inR (accB ((firstB c.toNat).toNat / 16)) d && utf8 r | _ => false
    else if (firstB c.toNat).toNat % 8 = 3 then
      match r with | d :: e :: r => inR (accB ((firstB c.toNat).toNat / 16)) d && inR (0x80, 0xBF) e && utf8 r | _ => false
    else if (firstB c.toNat).toNat % 8 = 4 then
      match r with | d :: e :: f :: r => inR (accB ((firstB c.toNat).toNat / 16)) d && inR (0x80, 0xBF) e && inR (0x80, 0xBF) f && utf8 r | _ => false
    else false
end Go.Proofs.YtaihjcpfjgpmoaaGreatDoor

/- Go's test of UTF-8: eight bytes as a word. -/
namespace Go.Proofs.YtaihjcpfjgpmoaaGreatDoor
set_option linter.unusedVariables false
set_option linter.unusedSimpArgs false
set_option maxRecDepth 100000
open Go Go.DD
theorem u64_bv (x : Nat) (h : x < 2 ^ 64) : (BitVec.ofInt 64 (x : Nat)) = BitVec.ofNat 64 x := by
  apply BitVec.eq_of_toNat_eq
  rw [BitVec.toNat_ofInt, BitVec.toNat_ofNat]
  omega
theorem u64_wrap (x : Nat) (h : x < 2 ^ 64) : IntKind.u64.wrap (x : Nat) = (x : Nat) := by
  rw [IntKind.wrap_u64]; omega
theorem u64_or (x y : Nat) (hx : x < 2 ^ 64) (hy : y < 2 ^ 64) : bitsI .or .u64 (x : Nat) (y : Nat) = ((x ||| y : Nat) : Int) := by
  simp only [bitsI, IntKind.bits, u64_bv x hx, u64_bv y hy]
  have h : x ||| y < 2 ^ 64 := Nat.or_lt_two_pow hx hy
  show IntKind.u64.wrap (((BitVec.ofNat 64 x ||| BitVec.ofNat 64 y).toNat : Nat) : Int) = _
  rw [BitVec.toNat_or, BitVec.toNat_ofNat, BitVec.toNat_ofNat, Nat.mod_eq_of_lt hx, Nat.mod_eq_of_lt hy, u64_wrap _ h]
theorem u64_and (x y : Nat) (hx : x < 2 ^ 64) (hy : y < 2 ^ 64) : bitsI .and .u64 (x : Nat) (y : Nat) = ((x &&& y : Nat) : Int) := by
  simp only [bitsI, IntKind.bits, u64_bv x hx, u64_bv y hy]
  have h : x &&& y < 2 ^ 64 := Nat.and_lt_two_pow x hy
  show IntKind.u64.wrap (((BitVec.ofNat 64 x &&& BitVec.ofNat 64 y).toNat : Nat) : Int) = _
  rw [BitVec.toNat_and, BitVec.toNat_ofNat, BitVec.toNat_ofNat, Nat.mod_eq_of_lt hx, Nat.mod_eq_of_lt hy, u64_wrap _ h]
theorem u64_shl (x n : Nat) (hn : n ≤ 56) (hx : x < 256) : shlI .u64 (x : Nat) ((n : Nat) : Int) = ((x <<< n : Nat) : Int) := by
  have h : x <<< n < 2 ^ 64 := by
    rw [Nat.shiftLeft_eq]
    have : 2 ^ n ≤ 2 ^ 56 := Nat.pow_le_pow_right (by decide) hn
    calc x * 2 ^ n ≤ 255 * 2 ^ 56 := Nat.mul_le_mul (by omega) this
      _ < 2 ^ 64 := by decide
  simp only [shlI, IntKind.bits, Int.toNat_natCast, Nat.min_eq_left (show n ≤ 64 by omega)]
  rw [← u64_wrap _ h, Nat.shiftLeft_eq]
  simp
/-- Eight bytes, the lowest first. -/
def word8 (l : List UInt8) : Nat :=
  (l.getD 0 0).toNat ||| (l.getD 1 0).toNat <<< 8 ||| (l.getD 2 0).toNat <<< 16 ||| (l.getD 3 0).toNat <<< 24 ||| (l.getD 4 0).toNat <<< 32 ||| (l.getD 5 0).toNat <<< 40 ||| (l.getD 6 0).toNat <<< 48 ||| (l.getD 7 0).toNat <<< 56
theorem shl_lt {x n : Nat} (hn : n ≤ 56) (hx : x < 256) : x <<< n < 2 ^ 64 := by
  rw [Nat.shiftLeft_eq]
  have : 2 ^ n ≤ 2 ^ 56 := Nat.pow_le_pow_right (by decide) hn
  calc x * 2 ^ n ≤ 255 * 2 ^ 56 := Nat.mul_le_mul (by omega) this
    _ < 2 ^ 64 := by decide
theorem byte_lt (l : List UInt8) (k : Nat) : (l.getD k 0).toNat < 256 := (l.getD k 0).toNat_lt
theorem word8_lt (l : List UInt8) : word8 l < 2 ^ 64 := by
  have h0 : (l.getD 0 0).toNat < 2 ^ 64 := by have := byte_lt l 0; omega
  exact Nat.or_lt_two_pow (Nat.or_lt_two_pow (Nat.or_lt_two_pow (Nat.or_lt_two_pow (Nat.or_lt_two_pow (Nat.or_lt_two_pow (Nat.or_lt_two_pow h0 (shl_lt (by decide) (byte_lt l 1))) (shl_lt (by decide) (byte_lt l 2))) (shl_lt (by decide) (byte_lt l 3))) (shl_lt (by decide) (byte_lt l 4))) (shl_lt (by decide) (byte_lt l 5))) (shl_lt (by decide) (byte_lt l 6))) (shl_lt (by decide) (byte_lt l 7))
def hiM : Nat := 0x8080808080808080
theorem bit7 {x : Nat} (hx : x < 256) (h : x.testBit 7 = false) : x < 128 := by
  rcases Nat.lt_or_ge x 128 with h1 | h1
  · exact h1
  · exfalso
    have : x / 128 = 1 := by omega
    simp [Nat.testBit, Nat.shiftRight_eq_div_pow, this] at h
/-- Where no high bit is set all eight bytes are small. -/
theorem word8_small {w : Nat} (l : List UInt8) (hw : ∀ i, (word8 l).testBit i = true → w.testBit i = true) (h : w &&& hiM = 0) : ∀ k, k < 8 → (l.getD k 0).toNat < 128 := by
  have key : ∀ k, k < 8 → (word8 l).testBit (8 * k + 7) = false := fun k hk => by
    have h1 : (w &&& hiM).testBit (8 * k + 7) = false := by rw [h]; simp
    rw [Nat.testBit_and] at h1
    have h2 : hiM.testBit (8 * k + 7) = true := by
      match k, hk with
      | 0, _ | 1, _ | 2, _ | 3, _ | 4, _ | 5, _ | 6, _ | 7, _ => decide
    rw [h2, Bool.and_true] at h1
    cases hq : (word8 l).testBit (8 * k + 7)
    · rfl
    · rw [hw _ hq] at h1; cases h1
  intro k hk
  refine bit7 (byte_lt l k) ?_
  have h3 := key k hk
  simp only [word8, Nat.testBit_or, Bool.or_eq_false_iff, Nat.testBit_shiftLeft] at h3
  match k, hk with
  | 0, _ => exact h3.1.1.1.1.1.1.1
  | 1, _ => simpa using h3.1.1.1.1.1.1.2
  | 2, _ => simpa using h3.1.1.1.1.1.2
  | 3, _ => simpa using h3.1.1.1.1.2
  | 4, _ => simpa using h3.1.1.1.2
  | 5, _ => simpa using h3.1.1.2
  | 6, _ => simpa using h3.1.2
  | 7, _ => simpa using h3.2
def F159 : FSpec := mkG (fun (a : By) => [a.v]) (fun a => a.ok ∧ 8 ≤ a.l.length) (fun a => word8 a.l) (fun r => .int .u64 (r : Nat))
theorem f159_ok : FOk Tryz.prog [] 245 F159 := mkG_ok fun a ⟨ha, hn⟩ => by
  refine CP.by1 ha ?_
  generalize a.l = l at hn
  have hΓ := ctxOk Tryz.f245.ntmps [] [] (FL.all .nil) (HL.all .nil)
  refine CP_of_OK hΓ Tryz.func245 (c := bodyOf Tryz.f245) rfl (by decide) rfl rfl (by simp) (vc_ok hΓ mixed 1000 _ [] _ (by kernel_rfl) rfl ?_)
  conv => whnf
  repeat' (first | (refine And.intro (fun _ => ?_) (fun _ => ?_) <;> conv => whnf) | (refine And.intro ?_ ?_ <;> conv => whnf))
  all_goals try first | exact ⟨rfl⟩ | exact ⟨⟨rfl, rfl⟩⟩ | exact ⟨⟨rfl, rfl, rfl⟩⟩ | exact ⟨fun _ _ => rfl⟩ | exact ⟨fun _ _ => trivial⟩ | exact ⟨fun k _ => isU8_bf _ k⟩ | exact ⟨by omega⟩ | exact ⟨⟨by omega, by omega⟩⟩ | exact ⟨⟨by omega, by omega, by omega⟩⟩
  refine Ld.of (congrArg (V.int .u64) ?_)
  have c : ∀ k, IntKind.u64.wrap (((l.getD k 0).toNat : Nat) : Int) = ((l.getD k 0).toNat : Nat) := fun k => u64_wrap _ (by have := byte_lt l k; omega)
  have e1 : shlI .u64 (((l.getD 1 0).toNat : Nat) : Int) 8 = (((l.getD 1 0).toNat <<< 8 : Nat) : Int) := u64_shl _ 8 (by decide) (byte_lt l 1)
  have b1 := shl_lt (x := (l.getD 1 0).toNat) (n := 8) (by decide) (byte_lt l 1)
  have e2 : shlI .u64 (((l.getD 2 0).toNat : Nat) : Int) 16 = (((l.getD 2 0).toNat <<< 16 : Nat) : Int) := u64_shl _ 16 (by decide) (byte_lt l 2)
  have b2 := shl_lt (x := (l.getD 2 0).toNat) (n := 16) (by decide) (byte_lt l 2)
  have e3 : shlI .u64 (((l.getD 3 0).toNat : Nat) : Int) 24 = (((l.getD 3 0).toNat <<< 24 : Nat) : Int) := u64_shl _ 24 (by decide) (byte_lt l 3)
  have b3 := shl_lt (x := (l.getD 3 0).toNat) (n := 24) (by decide) (byte_lt l 3)
  have e4 : shlI .u64 (((l.getD 4 0).toNat : Nat) : Int) 32 = (((l.getD 4 0).toNat <<< 32 : Nat) : Int) := u64_shl _ 32 (by decide) (byte_lt l 4)
  have b4 := shl_lt (x := (l.getD 4 0).toNat) (n := 32) (by decide) (byte_lt l 4)
  have e5 : shlI .u64 (((l.getD 5 0).toNat : Nat) : Int) 40 = (((l.getD 5 0).toNat <<< 40 : Nat) : Int) := u64_shl _ 40 (by decide) (byte_lt l 5)
  have b5 := shl_lt (x := (l.getD 5 0).toNat) (n := 40) (by decide) (byte_lt l 5)
  have e6 : shlI .u64 (((l.getD 6 0).toNat : Nat) : Int) 48 = (((l.getD 6 0).toNat <<< 48 : Nat) : Int) := u64_shl _ 48 (by decide) (byte_lt l 6)
  have b6 := shl_lt (x := (l.getD 6 0).toNat) (n := 48) (by decide) (byte_lt l 6)
  have e7 : shlI .u64 (((l.getD 7 0).toNat : Nat) : Int) 56 = (((l.getD 7 0).toNat <<< 56 : Nat) : Int) := u64_shl _ 56 (by decide) (byte_lt l 7)
  have b7 := shl_lt (x := (l.getD 7 0).toNat) (n := 56) (by decide) (byte_lt l 7)
  have b0 : (l.getD 0 0).toNat < 2 ^ 64 := by have := byte_lt l 0; omega
  have o1 := Nat.or_lt_two_pow b0 b1
  have o2 := Nat.or_lt_two_pow o1 b2
  have o3 := Nat.or_lt_two_pow o2 b3
  have o4 := Nat.or_lt_two_pow o3 b4
  have o5 := Nat.or_lt_two_pow o4 b5
  have o6 := Nat.or_lt_two_pow o5 b6
  simp only [show Int.toNat 0 = 0 from rfl, show Int.toNat 1 = 1 from rfl, show Int.toNat 2 = 2 from rfl, show Int.toNat 3 = 3 from rfl, show Int.toNat 4 = 4 from rfl, show Int.toNat 5 = 5 from rfl, show Int.toNat 6 = 6 from rfl, show Int.toNat 7 = 7 from rfl, c]
  rw [e1, e2, e3, e4, e5, e6, e7, u64_or _ _ b0 b1, u64_or _ _ o1 b2, u64_or _ _ o2 b3, u64_or _ _ o3 b4, u64_or _ _ o4 b5, u64_or _ _ o5 b6, u64_or _ _ o6 b7]
  rfl
end Go.Proofs.YtaihjcpfjgpmoaaGreatDoor

/- Go's test of UTF-8: the walk. -/
namespace Go.Proofs.YtaihjcpfjgpmoaaGreatDoor
set_option linter.unusedVariables false
set_option linter.unusedSimpArgs false
set_option maxRecDepth 100000
open Go Go.DD
theorem utf8_drop : ∀ (n : Nat) (r : List UInt8), (∀ k, k < n → (r.getD k 0).toNat < 128) → n ≤ r.length → utf8 (r.drop n) = utf8 r
  | 0, r, _, _ => rfl
  | n + 1, [], _, h => by simp at h
  | n + 1, c :: r, h, hn => by
    have h0 := h 0 (by omega)
    simp only [List.getD_cons_zero] at h0
    rw [List.drop_succ_cons, utf8_drop n r (fun k hk => by simpa using h (k + 1) (by omega)) (by simpa using hn)]
    conv => rhs; unfold utf8
    rw [if_pos h0]
theorem utf8_step (r : List UInt8) (h : 0 < r.length) : utf8 r =
    if (r.getD 0 0).toNat < 128 then utf8 (r.drop 1)
    else if (firstB (r.getD 0 0).toNat).toNat % 8 = 2 then decide (2 ≤ r.length) && inR (accB ((firstB (r.getD 0 0).toNat).toNat / 16)) (r.getD 1 0) && utf8 (r.drop 2)
    else if (firstB (r.getD 0 0).toNat).toNat % 8 = 3 then decide (3 ≤ r.length) && inR (accB ((firstB (r.getD 0 0).toNat).toNat / 16)) (r.getD 1 0) && inR (0x80, 0xBF) (r.getD 2 0) && utf8 (r.drop 3)
    else if (firstB (r.getD 0 0).toNat).toNat % 8 = 4 then decide (4 ≤ r.length) && inR (accB ((firstB (r.getD 0 0).toNat).toNat / 16)) (r.getD 1 0) && inR (0x80, 0xBF) (r.getD 2 0) && inR (0x80, 0xBF) (r.getD 3 0) && utf8 (r.drop 4)
    else false := by
  match r, h with
  | c :: r, _ =>
    conv => lhs; unfold utf8
    simp only [List.getD_cons_zero, List.drop_succ_cons, List.drop_zero]
    split
    · rfl
    · split
      · match r with
        | [] => simp
        | d :: r => simp
      · split
        · match r with
          | [] => simp
          | [d] => simp
          | d :: e :: r => simp
        · split
          · match r with
            | [] => simp
            | [d] => simp
            | [d, e] => simp
            | d :: e :: f :: r => simp
          · rfl
theorem u8_and7 : ∀ x : Fin 256, IntKind.i64.wrap (bitsI .and .u8 (x.val : Nat) 7) = ((x.val % 8 : Nat) : Int) := by decide
theorem u8_shr4 : ∀ x : Fin 256, shrI .u8 (x.val : Nat) 4 = ((x.val / 16 : Nat) : Int) := by decide
theorem size_eq (c : UInt8) : IntKind.i64.wrap (bitsI .and .u8 (c.toNat : Nat) 7) = ((c.toNat % 8 : Nat) : Int) := u8_and7 ⟨c.toNat, c.toNat_lt⟩
theorem shr_eq (c : UInt8) : shrI .u8 (c.toNat : Nat) 4 = ((c.toNat / 16 : Nat) : Int) := u8_shr4 ⟨c.toNat, c.toNat_lt⟩
def F153 : FSpec := mkG (fun (a : By) => [a.v]) okB (fun a => utf8 a.l) .bool
theorem small_of {w : Nat} (hw : w < 2 ^ 64) (h : (bitsI .and .u64 (w : Nat) 9259542123273814144 == 0) = true) : w &&& hiM = 0 := by
  have h1 : bitsI .and .u64 (w : Nat) 9259542123273814144 = ((w &&& hiM : Nat) : Int) := u64_and w hiM hw (by decide)
  rw [h1, beq_iff_eq] at h
  omega
theorem small8 {l : List UInt8} (h : (bitsI .and .u64 (word8 l : Nat) 9259542123273814144 == 0) = true) : ∀ k, k < 8 → (l.getD k 0).toNat < 128 :=
  word8_small l (fun _ h => h) (small_of (word8_lt l) h)
theorem small16 {l m : List UInt8} (h : (bitsI .and .u64 (bitsI .or .u64 (word8 l : Nat) (word8 m : Nat)) 9259542123273814144 == 0) = true) : (∀ k, k < 8 → (l.getD k 0).toNat < 128) ∧ ∀ k, k < 8 → (m.getD k 0).toNat < 128 := by
  rw [u64_or _ _ (word8_lt l) (word8_lt m)] at h
  have h2 := small_of (Nat.or_lt_two_pow (word8_lt l) (word8_lt m)) h
  exact ⟨word8_small l (fun i h => by rw [Nat.testBit_or, h]; rfl) h2, word8_small m (fun i h => by rw [Nat.testBit_or, h, Bool.or_true]) h2⟩
theorem small32 {l m n o : List UInt8} (h : (bitsI .and .u64 (bitsI .or .u64 (bitsI .or .u64 (word8 l : Nat) (word8 m : Nat)) (bitsI .or .u64 (word8 n : Nat) (word8 o : Nat))) 9259542123273814144 == 0) = true) :
    (∀ k, k < 8 → (l.getD k 0).toNat < 128) ∧ (∀ k, k < 8 → (m.getD k 0).toNat < 128) ∧ (∀ k, k < 8 → (n.getD k 0).toNat < 128) ∧ ∀ k, k < 8 → (o.getD k 0).toNat < 128 := by
  have a := Nat.or_lt_two_pow (word8_lt l) (word8_lt m)
  have b := Nat.or_lt_two_pow (word8_lt n) (word8_lt o)
  rw [u64_or _ _ (word8_lt l) (word8_lt m), u64_or _ _ (word8_lt n) (word8_lt o), u64_or _ _ a b] at h
  have h2 := small_of (Nat.or_lt_two_pow a b) h
  refine ⟨word8_small l (fun i h => ?_) h2, word8_small m (fun i h => ?_) h2, word8_small n (fun i h => ?_) h2, word8_small o (fun i h => ?_) h2⟩
  all_goals simp only [Nat.testBit_or, h, Bool.true_or, Bool.or_true]
theorem utf8_more {r : List UInt8} {n : Nat} (h : ∀ k, k < 8 → ((r.drop n).getD k 0).toNat < 128) (hl : n + 8 ≤ r.length) : utf8 (r.drop (n + 8)) = utf8 (r.drop n) := by
  rw [← utf8_drop 8 (r.drop n) h (by rw [List.length_drop]; omega), List.drop_drop]
theorem f153_ok : FOk Tryz.prog G 198 F153 := mkG_ok fun a ⟨ha, hn⟩ => by
  refine CP.by1 ha ?_
  generalize a.l = l at hn
  generalize a.b = b
  have hΓ := ctxG_ok Tryz.f198.ntmps [(245, F159)] [] [] (.cons (f159_ok.g) .nil) .nil
  refine CP_of_OK hΓ Tryz.func198 (c := bodyOf Tryz.f198) rfl (by decide) rfl rfl (by simp) (vc_ok hΓ mixed 1000 _ [] _ (by kernel_rfl) rfl ?_)
  conv => whnf
  refine Or.inr ?_
  conv => whnf
  repeat' (first | (refine And.intro (fun _ => ?_) (fun _ => ?_) <;> conv => whnf) | (refine And.intro ?_ ?_ <;> conv => whnf))
  · exact ⟨by omega⟩
  refine OK_loopC (ι := List UInt8) (fun r => [(0, byV b r)]) (fun r => []) (fun r => utf8 r = utf8 l ∧ r.length ≤ 1000000) (fun r => r.length) l [] ?_ (fun r hr => vc_ok hΓ mixed 1000 _ [] _ (by kernel_rfl) rfl ?_)
  · conv => whnf
    repeat' (first | (refine And.intro (fun _ => ?_) (fun _ => ?_) <;> conv => whnf) | (refine And.intro ?_ ?_ <;> conv => whnf))
    all_goals try first | exact ⟨rfl⟩ | exact ⟨⟨rfl, rfl⟩⟩ | exact ⟨⟨rfl, rfl, rfl⟩⟩ | exact ⟨fun _ _ => rfl⟩ | exact ⟨fun _ _ => trivial⟩ | exact ⟨fun k _ => isU8_bf _ k⟩ | exact ⟨by omega⟩ | exact ⟨⟨by omega, by omega⟩⟩ | exact ⟨⟨by omega, by omega, by omega⟩⟩
    · refine ⟨fun k _ => ?_⟩
      show bf l (0 + k) = _
      rw [Nat.zero_add]
    · exact ⟨⟨rfl, hn⟩⟩
  obtain ⟨i1, i2⟩ := hr
  have hst := utf8_step r
  conv => whnf
  repeat' (first | (refine And.intro (fun _ => ?_) (fun _ => ?_) <;> conv => whnf) | (refine And.intro ?_ ?_ <;> conv => whnf))
  all_goals (try simp only [size_eq, shr_eq, Int.toNat_natCast, show Int.toNat 0 = 0 from rfl, show Int.toNat 1 = 1 from rfl, show Int.toNat 2 = 2 from rfl, show Int.toNat 3 = 3 from rfl, show Int.toNat 4 = 4 from rfl, decide_eq_true_eq, decide_eq_false_iff_not, beq_iff_eq, beq_eq_false_iff_ne, ne_eq] at *)
  all_goals have hc0 := byte_lt r 0
  all_goals have hf0 := (firstB (r.getD 0 0).toNat).toNat_lt
  all_goals try exact ⟨by omega⟩
  all_goals try
    (refine Ld.of (congrArg V.bool (Eq.symm ?_))
     rw [← i1, hst (by omega)]
     repeat' (first | rw [if_pos (by omega)] | rw [if_neg (by omega)])
     first
       | done
       | (refine Bool.and_eq_false_iff.2 (.inl ?_)
          simp only [inR, Bool.and_eq_false_iff, decide_eq_false_iff_not]
          try simp only [show (0x80 : UInt8).toNat = 128 from rfl, show (0xBF : UInt8).toNat = 191 from rfl]
          omega))
  · have h1 : utf8 (r.drop 1) = utf8 l := by rw [← i1, hst (by omega), if_pos (by omega)]
    refine ⟨.of b (r.drop 1), ⟨AE.imm' (by first | (simp only [List.length_drop]; done) | (simp [List.length_drop]; done) | (simp [List.length_drop]; omega)) (fun k _ => ?_), trivial⟩, ⟨trivial, by show 8 ≤ (r.drop 1).length; simp [List.length_drop] at *; omega⟩, ?_⟩
    · rw [bf_drop]
      try exact congrArg (bf r) (by first | rfl | (simp only [show Int.toNat 8 = 8 from rfl, show Int.toNat 16 = 16 from rfl, show Int.toNat 24 = 24 from rfl]; omega))
    intro w1 e1
    replace e1 : w1 = word8 (r.drop 1) := e1
    subst e1
    conv => whnf
    repeat' (first | (refine And.intro (fun _ => ?_) (fun _ => ?_) <;> conv => whnf) | (refine And.intro ?_ ?_ <;> conv => whnf))
    all_goals try exact ⟨by omega⟩
    · rename_i g1 g2
      have h9 : utf8 (r.drop 9) = utf8 l := by rw [← h1]; exact utf8_more (small8 g1) (by simp at g2; omega)
      refine ⟨.of b (r.drop 9), ⟨AE.imm' (by first | (simp only [List.length_drop]; done) | (simp [List.length_drop]; done) | (simp [List.length_drop]; omega)) (fun k _ => ?_), trivial⟩, ⟨trivial, by show 8 ≤ (r.drop 9).length; simp [List.length_drop] at *; omega⟩, ?_⟩
      · rw [bf_drop]
        try exact congrArg (bf r) (by first | rfl | (simp only [show Int.toNat 8 = 8 from rfl, show Int.toNat 16 = 16 from rfl, show Int.toNat 24 = 24 from rfl]; omega))
      intro w2 e2
      replace e2 : w2 = word8 (r.drop 9) := e2
      subst e2
      conv => whnf
      repeat' (first | (refine And.intro (fun _ => ?_) (fun _ => ?_) <;> conv => whnf) | (refine And.intro ?_ ?_ <;> conv => whnf))
      all_goals try exact ⟨by simp at *; omega⟩
      refine ⟨.of b (r.drop 17), ⟨AE.imm' (by first | (simp only [List.length_drop]; done) | (simp [List.length_drop]; done) | (simp [List.length_drop]; omega)) (fun k _ => ?_), trivial⟩, ⟨trivial, by show 8 ≤ (r.drop 17).length; simp [List.length_drop] at *; omega⟩, ?_⟩
      · rw [bf_drop]
        try exact congrArg (bf r) (by first | rfl | (simp only [show Int.toNat 8 = 8 from rfl, show Int.toNat 16 = 16 from rfl, show Int.toNat 24 = 24 from rfl]; omega))
      intro w3 e3
      replace e3 : w3 = word8 (r.drop 17) := e3
      subst e3
      conv => whnf
      repeat' (first | (refine And.intro (fun _ => ?_) (fun _ => ?_) <;> conv => whnf) | (refine And.intro ?_ ?_ <;> conv => whnf))
      · exact ⟨by simp at *; omega⟩
      · rename_i g3
        have g4 := small16 g3
        have h17 : utf8 (r.drop 17) = utf8 l := by rw [← h9]; exact utf8_more g4.1 (by simp at g2; omega)
        have h25 : utf8 (r.drop 25) = utf8 l := by rw [← h17]; exact utf8_more g4.2 (by simp at g2; omega)
        refine OK_loopC (ι := List UInt8) (fun q => [(0, byV b q)]) (fun q => []) (fun q => utf8 q = utf8 l ∧ q.length < r.length) (fun q => q.length) (r.drop 25) [] ?_ (fun q hq => vc_ok hΓ mixed 1000 _ [] _ (by kernel_rfl) rfl ?_)
        · conv => whnf
          repeat' (refine And.intro ?_ ?_ <;> conv => whnf)
          · exact ⟨⟨rfl, rfl⟩⟩
          · exact ⟨by simp [List.length_drop]; omega⟩
          · exact ⟨fun k _ => ((bf_drop _ _ _).trans (congrArg (bf r) (by simp only [show Int.toNat 8 = 8 from rfl, show Int.toNat 16 = 16 from rfl]; omega))).symm⟩
          · exact ⟨⟨h25, by simp [List.length_drop]; omega⟩⟩
        obtain ⟨q1, q2⟩ := hq
        conv => whnf
        refine And.intro (fun h5 => ?_) (fun h5 => ?_) <;> conv => whnf
        · have h6 : 32 < q.length := by
            have : (32 : Int) < (q.length : Nat) := by simpa using h5
            omega
          refine ⟨.of b q, ⟨AE.refl _, trivial⟩, ⟨trivial, by show 8 ≤ q.length; omega⟩, ?_⟩
          intro v1 f1
          replace f1 : v1 = word8 q := f1
          subst f1
          conv => whnf
          repeat' (first | (refine And.intro (fun _ => ?_) (fun _ => ?_) <;> conv => whnf) | (refine And.intro ?_ ?_ <;> conv => whnf))
          all_goals try exact ⟨by omega⟩
          refine ⟨.of b (q.drop 8), ⟨AE.imm' (by first | (simp only [List.length_drop]; done) | (simp [List.length_drop]; done) | (simp [List.length_drop]; omega)) (fun k _ => ?_), trivial⟩, ⟨trivial, by show 8 ≤ (q.drop 8).length; simp [List.length_drop] at *; omega⟩, ?_⟩
          · rw [bf_drop]
            try exact congrArg (bf q) (by first | rfl | (simp only [show Int.toNat 8 = 8 from rfl, show Int.toNat 16 = 16 from rfl, show Int.toNat 24 = 24 from rfl]; omega))
          intro v2 f2
          replace f2 : v2 = word8 (q.drop 8) := f2
          subst f2
          conv => whnf
          repeat' (first | (refine And.intro (fun _ => ?_) (fun _ => ?_) <;> conv => whnf) | (refine And.intro ?_ ?_ <;> conv => whnf))
          all_goals try exact ⟨by omega⟩
          refine ⟨.of b (q.drop 16), ⟨AE.imm' (by first | (simp only [List.length_drop]; done) | (simp [List.length_drop]; done) | (simp [List.length_drop]; omega)) (fun k _ => ?_), trivial⟩, ⟨trivial, by show 8 ≤ (q.drop 16).length; simp [List.length_drop] at *; omega⟩, ?_⟩
          · rw [bf_drop]
            try exact congrArg (bf q) (by first | rfl | (simp only [show Int.toNat 8 = 8 from rfl, show Int.toNat 16 = 16 from rfl, show Int.toNat 24 = 24 from rfl]; omega))
          intro v3 f3
          replace f3 : v3 = word8 (q.drop 16) := f3
          subst f3
          conv => whnf
          repeat' (first | (refine And.intro (fun _ => ?_) (fun _ => ?_) <;> conv => whnf) | (refine And.intro ?_ ?_ <;> conv => whnf))
          all_goals try exact ⟨by omega⟩
          refine ⟨.of b (q.drop 24), ⟨AE.imm' (by first | (simp only [List.length_drop]; done) | (simp [List.length_drop]; done) | (simp [List.length_drop]; omega)) (fun k _ => ?_), trivial⟩, ⟨trivial, by show 8 ≤ (q.drop 24).length; simp [List.length_drop] at *; omega⟩, ?_⟩
          · rw [bf_drop]
            try exact congrArg (bf q) (by first | rfl | (simp only [show Int.toNat 8 = 8 from rfl, show Int.toNat 16 = 16 from rfl, show Int.toNat 24 = 24 from rfl]; omega))
          intro v4 f4
          replace f4 : v4 = word8 (q.drop 24) := f4
          subst f4
          conv => whnf
          repeat' (first | (refine And.intro (fun _ => ?_) (fun _ => ?_) <;> conv => whnf) | (refine And.intro ?_ ?_ <;> conv => whnf))
          all_goals try exact ⟨by omega⟩
          · rename_i g6
            have g7 := small32 g6
            have k1 : utf8 (q.drop 8) = utf8 q := utf8_more (n := 0) g7.1 (by omega)
            have k2 : utf8 (q.drop 16) = utf8 q := by rw [← k1]; exact utf8_more g7.2.1 (by omega)
            have k3 : utf8 (q.drop 24) = utf8 q := by rw [← k2]; exact utf8_more g7.2.2.1 (by omega)
            have k4 : utf8 (q.drop 32) = utf8 q := by rw [← k3]; exact utf8_more g7.2.2.2 (by omega)
            refine ⟨q.drop 32, [], ?_⟩
            conv => whnf
            repeat' (refine And.intro ?_ ?_ <;> conv => whnf)
            · exact ⟨⟨rfl, rfl⟩⟩
            · exact ⟨by simp [List.length_drop]⟩
            · exact ⟨fun k _ => (bf_drop _ _ _).symm⟩
            · exact ⟨⟨⟨by rw [k4]; exact q1, by simp only [List.length_drop]; omega⟩, by simp only [List.length_drop]; omega⟩⟩
          · refine vc_ok hΓ mixed 1000 _ [] _ (by kernel_rfl) rfl ?_
            conv => whnf
            refine ⟨q, [], ?_⟩
            conv => whnf
            repeat' (refine And.intro ?_ ?_ <;> conv => whnf)
            all_goals try first | exact ⟨rfl⟩ | exact ⟨⟨rfl, rfl⟩⟩ | exact ⟨⟨rfl, rfl, rfl⟩⟩ | exact ⟨fun _ _ => rfl⟩ | exact ⟨fun _ _ => trivial⟩ | exact ⟨fun k _ => isU8_bf _ k⟩ | exact ⟨by omega⟩ | exact ⟨⟨by omega, by omega⟩⟩ | exact ⟨⟨by omega, by omega, by omega⟩⟩
            exact ⟨⟨⟨q1, by omega⟩, q2⟩⟩
        · refine vc_ok hΓ mixed 1000 _ [] _ (by kernel_rfl) rfl ?_
          conv => whnf
          refine ⟨q, [], ?_⟩
          conv => whnf
          repeat' (refine And.intro ?_ ?_ <;> conv => whnf)
          all_goals try first | exact ⟨rfl⟩ | exact ⟨⟨rfl, rfl⟩⟩ | exact ⟨⟨rfl, rfl, rfl⟩⟩ | exact ⟨fun _ _ => rfl⟩ | exact ⟨fun _ _ => trivial⟩ | exact ⟨fun k _ => isU8_bf _ k⟩ | exact ⟨by omega⟩ | exact ⟨⟨by omega, by omega⟩⟩ | exact ⟨⟨by omega, by omega, by omega⟩⟩
          exact ⟨⟨⟨q1, by omega⟩, q2⟩⟩
      · refine ⟨r.drop 9, [], ?_⟩
        conv => whnf
        repeat' (refine And.intro ?_ ?_ <;> conv => whnf)
        · exact ⟨⟨rfl, rfl⟩⟩
        · exact ⟨by first | (simp [List.length_drop]; done) | (simp [List.length_drop]; omega)⟩
        · exact ⟨fun k _ => ((bf_drop _ _ _).trans (congrArg (bf r) (by first | rfl | (simp only [show Int.toNat 8 = 8 from rfl, show Int.toNat 16 = 16 from rfl]; omega)))).symm⟩
        refine ⟨⟨⟨?_, by simp only [List.length_drop]; omega⟩, by simp only [List.length_drop]; omega⟩⟩
        exact h9
    · rename_i g1 g2
      have h9 : utf8 (r.drop 9) = utf8 l := by rw [← h1]; exact utf8_more (small8 g1) (by omega)
      refine ⟨r.drop 9, [], ?_⟩
      conv => whnf
      repeat' (refine And.intro ?_ ?_ <;> conv => whnf)
      · exact ⟨⟨rfl, rfl⟩⟩
      · exact ⟨by first | (simp [List.length_drop]; done) | (simp [List.length_drop]; omega)⟩
      · exact ⟨fun k _ => ((bf_drop _ _ _).trans (congrArg (bf r) (by first | rfl | (simp only [show Int.toNat 8 = 8 from rfl, show Int.toNat 16 = 16 from rfl]; omega)))).symm⟩
      refine ⟨⟨⟨?_, by simp only [List.length_drop]; omega⟩, by simp only [List.length_drop]; omega⟩⟩
      exact h9
    · refine ⟨r.drop 1, [], ?_⟩
      conv => whnf
      repeat' (refine And.intro ?_ ?_ <;> conv => whnf)
      · exact ⟨⟨rfl, rfl⟩⟩
      · exact ⟨by first | (simp [List.length_drop]; done) | (simp [List.length_drop]; omega)⟩
      · exact ⟨fun k _ => ((bf_drop _ _ _).trans (congrArg (bf r) (by first | rfl | (simp only [show Int.toNat 8 = 8 from rfl, show Int.toNat 16 = 16 from rfl]; omega)))).symm⟩
      refine ⟨⟨⟨?_, by simp only [List.length_drop]; omega⟩, by simp only [List.length_drop]; omega⟩⟩
      exact h1
  · refine ⟨r.drop 1, [], ?_⟩
    conv => whnf
    repeat' (refine And.intro ?_ ?_ <;> conv => whnf)
    · exact ⟨⟨rfl, rfl⟩⟩
    · exact ⟨by simp only [List.length_drop]⟩
    · exact ⟨fun k _ => (bf_drop _ _ _).symm⟩
    refine ⟨⟨⟨?_, by simp only [List.length_drop]; omega⟩, by simp only [List.length_drop]; omega⟩⟩
    rw [← i1, hst (by omega), if_pos (by omega)]
  · refine ⟨r.drop 2, [], ?_⟩
    conv => whnf
    repeat' (refine And.intro ?_ ?_ <;> conv => whnf)
    · exact ⟨⟨rfl, rfl⟩⟩
    · exact ⟨by simp only [List.length_drop]⟩
    · exact ⟨fun k _ => (bf_drop _ _ _).symm⟩
    refine ⟨⟨⟨?_, by simp only [List.length_drop]; omega⟩, by simp only [List.length_drop]; omega⟩⟩
    rw [← i1, hst (by omega)]
    repeat' (first | rw [if_pos (by omega)] | rw [if_neg (by omega)])
    refine ((congrArg (· && utf8 _) ?_).trans (Bool.true_and _)).symm
    simp only [inR, Bool.and_eq_true, decide_eq_true_eq]
    omega
  · refine ⟨r.drop 3, [], ?_⟩
    conv => whnf
    repeat' (refine And.intro ?_ ?_ <;> conv => whnf)
    · exact ⟨⟨rfl, rfl⟩⟩
    · exact ⟨by simp only [List.length_drop]⟩
    · exact ⟨fun k _ => (bf_drop _ _ _).symm⟩
    refine ⟨⟨⟨?_, by simp only [List.length_drop]; omega⟩, by simp only [List.length_drop]; omega⟩⟩
    rw [← i1, hst (by omega)]
    repeat' (first | rw [if_pos (by omega)] | rw [if_neg (by omega)])
    refine ((congrArg (· && utf8 _) ?_).trans (Bool.true_and _)).symm
    simp only [inR, Bool.and_eq_true, decide_eq_true_eq, show (0x80 : UInt8).toNat = 128 from rfl, show (0xBF : UInt8).toNat = 191 from rfl]
    omega
  · refine ⟨r.drop 4, [], ?_⟩
    conv => whnf
    repeat' (refine And.intro ?_ ?_ <;> conv => whnf)
    · exact ⟨⟨rfl, rfl⟩⟩
    · exact ⟨by simp only [List.length_drop]⟩
    · exact ⟨fun k _ => (bf_drop _ _ _).symm⟩
    refine ⟨⟨⟨?_, by simp only [List.length_drop]; omega⟩, by simp only [List.length_drop]; omega⟩⟩
    rw [← i1, hst (by omega)]
    repeat' (first | rw [if_pos (by omega)] | rw [if_neg (by omega)])
    refine ((congrArg (· && utf8 _) ?_).trans (Bool.true_and _)).symm
    simp only [inR, Bool.and_eq_true, decide_eq_true_eq, show (0x80 : UInt8).toNat = 128 from rfl, show (0xBF : UInt8).toNat = 191 from rfl]
    omega
  · refine vc_ok hΓ mixed 1000 _ [] _ (by kernel_rfl) rfl ?_
    conv => whnf
    have : r = [] := List.length_eq_zero_iff.1 (by omega)
    rw [← i1, this]
    exact Ld.refl _
def F139 : FSpec := mkF (fun (a : By) => [a.v]) okB (fun a => .bool (utf8 a.l))
theorem f139_ok : FOk Tryz.prog G 150 F139 := mkF_ok fun a ha Φ h => by
  refine CP.by1 ha.1 ?_
  have hΓ := ctxG_ok Tryz.f150.ntmps [(198, F153)] [] [] (.cons (f153_ok) .nil) .nil
  refine CP_of_OK hΓ Tryz.func150 (c := bodyOf Tryz.f150) rfl (by decide) rfl rfl (by simp) (vc_ok hΓ mixed 1000 _ [] _ (by kernel_rfl) rfl ?_)
  conv => whnf
  repeat' (first | (refine And.intro (fun _ => ?_) (fun _ => ?_) <;> conv => whnf) | (refine And.intro ?_ ?_ <;> conv => whnf))
  refine ⟨.of _ _, ⟨AE.refl _, trivial⟩, ⟨trivial, ha.2⟩, ?_⟩
  intro r hr
  conv => whnf
  repeat' (first | (refine And.intro (fun _ => ?_) (fun _ => ?_) <;> conv => whnf) | (refine And.intro ?_ ?_ <;> conv => whnf))
  rw [hr]
  exact h
end Go.Proofs.YtaihjcpfjgpmoaaGreatDoor
