/- Part of the claim ModelPuts: Z1, Z2, Z3, Z4, Z5, Z6, Z7, Z8, Z9, Z10, Z11, Z12, Z13, Z14, Z15, Z27. -/
import Derived.Test.YtaihjcpfjgpmoaaGreatDoorProg
import Derived.Laws.BitsAllLaws
import Derived.Test.YtaihjcpfjgpmoaaGreatDoorDB
import Derived.Test.YtaihjcpfjgpmoaaGreatDoorDC
set_option linter.unusedVariables false
set_option linter.unusedSimpArgs false
set_option maxRecDepth 100000
namespace Go.Proofs.YtaihjcpfjgpmoaaGreatDoor
open Go Go.DD
def tb:List (Option TI):=
 [none,
  some ⟨.fn,1,8, .nilf⟩,
  some ⟨.int .i64,1,8, .int .i64 0⟩,
  some ⟨.int .i64,1,8, .int .i64 0⟩,
  some ⟨.bool,1,1, .ff⟩,
  some ⟨.int .u8,1,1, .int .u8 0⟩,
  some ⟨.int .u8,1,1, .int .u8 0⟩,
  some ⟨.st [(0,2),(1,3),(2,4),(3,6)],4,24, .st (.cons (.int .i64 0) (.cons (.int .i64 0) (.cons (.ff) (.cons (.int .u8 0) (.nil)))))⟩,
  some ⟨.st [(0,2),(1,3),(2,4),(3,6)],4,24, .st (.cons (.int .i64 0) (.cons (.int .i64 0) (.cons (.ff) (.cons (.int .u8 0) (.nil)))))⟩,
  some ⟨.str,1,16, .str []⟩,
  some ⟨.str,1,16, .str []⟩,
  some ⟨.str,1,16, .str []⟩,
  some ⟨.int .u64,1,8, .int .u64 0⟩,
  some ⟨.st [(0,9),(1,12)],2,24, .st (.cons (.str []) (.cons (.int .u64 0) (.nil)))⟩,
  some ⟨.st [(0,9),(1,12)],2,24, .st (.cons (.str []) (.cons (.int .u64 0) (.nil)))⟩,
  some ⟨.ptr 290,1,8, .nilp⟩,
  some ⟨.ptr 293,1,8, .nilp⟩,
  some ⟨.ptr 302,1,8, .nilp⟩,
  some ⟨.st [(0,17)],1,8, .st (.cons (.nilp) (.nil))⟩,
  some ⟨.st [(0,17)],1,8, .st (.cons (.nilp) (.nil))⟩,
  some ⟨.iface,1,16, .nili⟩,
  some ⟨.int .i32,1,4, .int .i32 0⟩,
  some ⟨.fn,1,8, .nilf⟩,
  some ⟨.fn,1,8, .nilf⟩,
  some ⟨.fn,1,8, .nilf⟩,
  some ⟨.arr 32 5,32,32, .row 1 32 fun _=> .int .u8 0⟩,
  some ⟨.slice 42,1,24, .emp⟩,
  some ⟨.slice 5,1,24, .emp⟩,
  some ⟨.st [(0,3),(1,9),(2,27)],3,48, .st (.cons (.int .i64 0) (.cons (.str []) (.cons (.emp) (.nil))))⟩,
  some ⟨.st [(0,3),(1,9),(2,27)],3,48, .st (.cons (.int .i64 0) (.cons (.str []) (.cons (.emp) (.nil))))⟩,
  some ⟨.fn,1,8, .nilf⟩,
  some ⟨.int .i64,1,8, .int .i64 0⟩,
  none,
  some ⟨.fn,1,8, .nilf⟩,
  some ⟨.fn,1,8, .nilf⟩,
  some ⟨.slice 38,1,24, .emp⟩,
  some ⟨.arr 64 5,64,64, .row 1 64 fun _=> .int .u8 0⟩,
  some ⟨.st [(0,25),(32,3),(33,25),(65,3),(66,29),(69,36)],133,192, .st (.cons (.row 1 32 fun _=> .int .u8 0) (.cons (.int .i64 0) (.cons (.row 1 32 fun _=> .int .u8 0) (.cons (.int .i64 0) (.cons (.st (.cons (.int .i64 0) (.cons (.str []) (.cons (.emp) (.nil))))) (.cons (.row 1 64 fun _=> .int .u8 0) (.nil)))))))⟩,
  some ⟨.st [(0,25),(32,3),(33,25),(65,3),(66,29),(69,36)],133,192, .st (.cons (.row 1 32 fun _=> .int .u8 0) (.cons (.int .i64 0) (.cons (.row 1 32 fun _=> .int .u8 0) (.cons (.int .i64 0) (.cons (.st (.cons (.int .i64 0) (.cons (.str []) (.cons (.emp) (.nil))))) (.cons (.row 1 64 fun _=> .int .u8 0) (.nil)))))))⟩,
  some ⟨.st [(0,38),(133,38)],266,384, .st (.cons (.st (.cons (.row 1 32 fun _=> .int .u8 0) (.cons (.int .i64 0) (.cons (.row 1 32 fun _=> .int .u8 0) (.cons (.int .i64 0) (.cons (.st (.cons (.int .i64 0) (.cons (.str []) (.cons (.emp) (.nil))))) (.cons (.row 1 64 fun _=> .int .u8 0) (.nil)))))))) (.cons (.st (.cons (.row 1 32 fun _=> .int .u8 0) (.cons (.int .i64 0) (.cons (.row 1 32 fun _=> .int .u8 0) (.cons (.int .i64 0) (.cons (.st (.cons (.int .i64 0) (.cons (.str []) (.cons (.emp) (.nil))))) (.cons (.row 1 64 fun _=> .int .u8 0) (.nil)))))))) (.nil)))⟩,
  some ⟨.st [(0,38),(133,38)],266,384, .st (.cons (.st (.cons (.row 1 32 fun _=> .int .u8 0) (.cons (.int .i64 0) (.cons (.row 1 32 fun _=> .int .u8 0) (.cons (.int .i64 0) (.cons (.st (.cons (.int .i64 0) (.cons (.str []) (.cons (.emp) (.nil))))) (.cons (.row 1 64 fun _=> .int .u8 0) (.nil)))))))) (.cons (.st (.cons (.row 1 32 fun _=> .int .u8 0) (.cons (.int .i64 0) (.cons (.row 1 32 fun _=> .int .u8 0) (.cons (.int .i64 0) (.cons (.st (.cons (.int .i64 0) (.cons (.str []) (.cons (.emp) (.nil))))) (.cons (.row 1 64 fun _=> .int .u8 0) (.nil)))))))) (.nil)))⟩,
  some ⟨.st [(0,25),(32,35),(33,4),(34,40)],300,448, .st (.cons (.row 1 32 fun _=> .int .u8 0) (.cons (.emp) (.cons (.ff) (.cons (.st (.cons (.st (.cons (.row 1 32 fun _=> .int .u8 0) (.cons (.int .i64 0) (.cons (.row 1 32 fun _=> .int .u8 0) (.cons (.int .i64 0) (.cons (.st (.cons (.int .i64 0) (.cons (.str []) (.cons (.emp) (.nil))))) (.cons (.row 1 64 fun _=> .int .u8 0) (.nil)))))))) (.cons (.st (.cons (.row 1 32 fun _=> .int .u8 0) (.cons (.int .i64 0) (.cons (.row 1 32 fun _=> .int .u8 0) (.cons (.int .i64 0) (.cons (.st (.cons (.int .i64 0) (.cons (.str []) (.cons (.emp) (.nil))))) (.cons (.row 1 64 fun _=> .int .u8 0) (.nil)))))))) (.nil)))) (.nil)))))⟩,
  some ⟨.st [(0,25),(32,35),(33,4),(34,40)],300,448, .st (.cons (.row 1 32 fun _=> .int .u8 0) (.cons (.emp) (.cons (.ff) (.cons (.st (.cons (.st (.cons (.row 1 32 fun _=> .int .u8 0) (.cons (.int .i64 0) (.cons (.row 1 32 fun _=> .int .u8 0) (.cons (.int .i64 0) (.cons (.st (.cons (.int .i64 0) (.cons (.str []) (.cons (.emp) (.nil))))) (.cons (.row 1 64 fun _=> .int .u8 0) (.nil)))))))) (.cons (.st (.cons (.row 1 32 fun _=> .int .u8 0) (.cons (.int .i64 0) (.cons (.row 1 32 fun _=> .int .u8 0) (.cons (.int .i64 0) (.cons (.st (.cons (.int .i64 0) (.cons (.str []) (.cons (.emp) (.nil))))) (.cons (.row 1 64 fun _=> .int .u8 0) (.nil)))))))) (.nil)))) (.nil)))))⟩,
  some ⟨.fn,1,8, .nilf⟩,
  some ⟨.slice 25,1,24, .emp⟩,
  some ⟨.slice 29,1,24, .emp⟩,
  some ⟨.fn,1,8, .nilf⟩,
  some ⟨.fn,1,8, .nilf⟩,
  some ⟨.fn,1,8, .nilf⟩,
  some ⟨.slice 80,1,24, .emp⟩,
  some ⟨.fn,1,8, .nilf⟩,
  some ⟨.fn,1,8, .nilf⟩,
  none,
  some ⟨.fn,1,8, .nilf⟩,
  some ⟨.fn,1,8, .nilf⟩,
  some ⟨.fn,1,8, .nilf⟩,
  some ⟨.fn,1,8, .nilf⟩,
  some ⟨.fn,1,8, .nilf⟩,
  some ⟨.int .u64,1,8, .int .u64 0⟩,
  none,
  some ⟨.fn,1,8, .nilf⟩,
  some ⟨.fn,1,8, .nilf⟩,
  some ⟨.fn,1,8, .nilf⟩,
  none,
  some ⟨.fn,1,8, .nilf⟩,
  some ⟨.fn,1,8, .nilf⟩,
  some ⟨.fn,1,8, .nilf⟩,
  none,
  some ⟨.fn,1,8, .nilf⟩,
  none,
  some ⟨.fn,1,8, .nilf⟩,
  some ⟨.fn,1,8, .nilf⟩,
  some ⟨.fn,1,8, .nilf⟩,
  some ⟨.fn,1,8, .nilf⟩,
  some ⟨.fn,1,8, .nilf⟩,
  some ⟨.fn,1,8, .nilf⟩,
  some ⟨.fn,1,8, .nilf⟩,
  some ⟨.fn,1,8, .nilf⟩,
  some ⟨.fn,1,8, .nilf⟩,
  some ⟨.st [(0,9),(1,27),(2,3),(3,25),(35,25),(67,4)],68,120, .st (.cons (.str []) (.cons (.emp) (.cons (.int .i64 0) (.cons (.row 1 32 fun _=> .int .u8 0) (.cons (.row 1 32 fun _=> .int .u8 0) (.cons (.ff) (.nil)))))))⟩,
  some ⟨.st [(0,9),(1,27),(2,3),(3,25),(35,25),(67,4)],68,120, .st (.cons (.str []) (.cons (.emp) (.cons (.int .i64 0) (.cons (.row 1 32 fun _=> .int .u8 0) (.cons (.row 1 32 fun _=> .int .u8 0) (.cons (.ff) (.nil)))))))⟩,
  some ⟨.fn,1,8, .nilf⟩,
  none,
  some ⟨.fn,1,8, .nilf⟩,
  some ⟨.fn,1,8, .nilf⟩,
  some ⟨.fn,1,8, .nilf⟩,
  some ⟨.fn,1,8, .nilf⟩,
  some ⟨.fn,1,8, .nilf⟩,
  some ⟨.fn,1,8, .nilf⟩,
  some ⟨.fn,1,8, .nilf⟩,
  some ⟨.fn,1,8, .nilf⟩,
  some ⟨.fn,1,8, .nilf⟩,
  some ⟨.fn,1,8, .nilf⟩,
  some ⟨.fn,1,8, .nilf⟩,
  some ⟨.fn,1,8, .nilf⟩,
  some ⟨.int .u64,1,8, .int .u64 0⟩,
  some ⟨.fn,1,8, .nilf⟩,
  some ⟨.fn,1,8, .nilf⟩,
  some ⟨.fn,1,8, .nilf⟩,
  some ⟨.fn,1,8, .nilf⟩,
  some ⟨.fn,1,8, .nilf⟩,
  some ⟨.fn,1,8, .nilf⟩,
  some ⟨.fn,1,8, .nilf⟩,
  some ⟨.fn,1,8, .nilf⟩,
  some ⟨.fn,1,8, .nilf⟩,
  some ⟨.fn,1,8, .nilf⟩,
  some ⟨.fn,1,8, .nilf⟩,
  some ⟨.fn,1,8, .nilf⟩,
  none,
  some ⟨.fn,1,8, .nilf⟩,
  some ⟨.fn,1,8, .nilf⟩,
  some ⟨.fn,1,8, .nilf⟩,
  some ⟨.fn,1,8, .nilf⟩,
  some ⟨.fn,1,8, .nilf⟩,
  none,
  some ⟨.fn,1,8, .nilf⟩,
  some ⟨.int .u32,1,4, .int .u32 0⟩,
  some ⟨.arr 64 116,64,256, .row 1 64 fun _=> .int .u32 0⟩,
  some ⟨.fn,1,8, .nilf⟩,
  some ⟨.arr 8 116,8,32, .row 1 8 fun _=> .int .u32 0⟩,
  some ⟨.fn,1,8, .nilf⟩,
  some ⟨.fn,1,8, .nilf⟩,
  some ⟨.slice 27,1,24, .emp⟩,
  some ⟨.fn,1,8, .nilf⟩,
  some ⟨.fn,1,8, .nilf⟩,
  some ⟨.fn,1,8, .nilf⟩,
  some ⟨.fn,1,8, .nilf⟩,
  some ⟨.fn,1,8, .nilf⟩,
  some ⟨.fn,1,8, .nilf⟩,
  some ⟨.fn,1,8, .nilf⟩,
  some ⟨.fn,1,8, .nilf⟩,
  some ⟨.fn,1,8, .nilf⟩,
  some ⟨.fn,1,8, .nilf⟩,
  some ⟨.fn,1,8, .nilf⟩,
  some ⟨.fn,1,8, .nilf⟩,
  some ⟨.fn,1,8, .nilf⟩,
  some ⟨.fn,1,8, .nilf⟩,
  none,
  some ⟨.fn,1,8, .nilf⟩,
  none,
  some ⟨.fn,1,8, .nilf⟩,
  some ⟨.fn,1,8, .nilf⟩,
  some ⟨.fn,1,8, .nilf⟩,
  some ⟨.fn,1,8, .nilf⟩,
  some ⟨.fn,1,8, .nilf⟩,
  some ⟨.fn,1,8, .nilf⟩,
  some ⟨.arr 4 58,4,32, .row 1 4 fun _=> .int .u64 0⟩,
  some ⟨.arr 4 58,4,32, .row 1 4 fun _=> .int .u64 0⟩,
  some ⟨.fn,1,8, .nilf⟩,
  some ⟨.fn,1,8, .nilf⟩,
  some ⟨.st [(0,147),(4,147),(8,147),(12,147)],16,128, .st (.cons (.row 1 4 fun _=> .int .u64 0) (.cons (.row 1 4 fun _=> .int .u64 0) (.cons (.row 1 4 fun _=> .int .u64 0) (.cons (.row 1 4 fun _=> .int .u64 0) (.nil)))))⟩,
  some ⟨.st [(0,147),(4,147),(8,147),(12,147)],16,128, .st (.cons (.row 1 4 fun _=> .int .u64 0) (.cons (.row 1 4 fun _=> .int .u64 0) (.cons (.row 1 4 fun _=> .int .u64 0) (.cons (.row 1 4 fun _=> .int .u64 0) (.nil)))))⟩,
  some ⟨.fn,1,8, .nilf⟩,
  some ⟨.fn,1,8, .nilf⟩,
  none,
  some ⟨.fn,1,8, .nilf⟩,
  some ⟨.slice 3,1,24, .emp⟩,
  some ⟨.fn,1,8, .nilf⟩,
  some ⟨.fn,1,8, .nilf⟩,
  some ⟨.fn,1,8, .nilf⟩,
  some ⟨.fn,1,8, .nilf⟩,
  some ⟨.fn,1,8, .nilf⟩,
  some ⟨.fn,1,8, .nilf⟩,
  some ⟨.fn,1,8, .nilf⟩,
  some ⟨.fn,1,8, .nilf⟩,
  some ⟨.slice 167,1,24, .emp⟩,
  some ⟨.st [(0,3),(1,3),(2,27)],3,40, .st (.cons (.int .i64 0) (.cons (.int .i64 0) (.cons (.emp) (.nil))))⟩,
  some ⟨.st [(0,3),(1,3),(2,27)],3,40, .st (.cons (.int .i64 0) (.cons (.int .i64 0) (.cons (.emp) (.nil))))⟩,
  some ⟨.fn,1,8, .nilf⟩,
  some ⟨.fn,1,8, .nilf⟩,
  none,
  some ⟨.fn,1,8, .nilf⟩,
  some ⟨.fn,1,8, .nilf⟩,
  some ⟨.fn,1,8, .nilf⟩,
  some ⟨.arr 5 58,5,40, .row 1 5 fun _=> .int .u64 0⟩,
  some ⟨.arr 5 58,5,40, .row 1 5 fun _=> .int .u64 0⟩,
  some ⟨.st [(0,175),(5,175),(10,175),(15,175)],20,160, .st (.cons (.row 1 5 fun _=> .int .u64 0) (.cons (.row 1 5 fun _=> .int .u64 0) (.cons (.row 1 5 fun _=> .int .u64 0) (.cons (.row 1 5 fun _=> .int .u64 0) (.nil)))))⟩,
  some ⟨.st [(0,175),(5,175),(10,175),(15,175)],20,160, .st (.cons (.row 1 5 fun _=> .int .u64 0) (.cons (.row 1 5 fun _=> .int .u64 0) (.cons (.row 1 5 fun _=> .int .u64 0) (.cons (.row 1 5 fun _=> .int .u64 0) (.nil)))))⟩,
  some ⟨.fn,1,8, .nilf⟩,
  some ⟨.fn,1,8, .nilf⟩,
  some ⟨.fn,1,8, .nilf⟩,
  some ⟨.ptr 223,1,8, .nilp⟩,
  some ⟨.fn,1,8, .nilf⟩,
  some ⟨.fn,1,8, .nilf⟩,
  some ⟨.fn,1,8, .nilf⟩,
  some ⟨.fn,1,8, .nilf⟩,
  some ⟨.arr 80 58,80,640, .row 1 80 fun _=> .int .u64 0⟩,
  some ⟨.fn,1,8, .nilf⟩,
  some ⟨.arr 8 58,8,64, .row 1 8 fun _=> .int .u64 0⟩,
  some ⟨.fn,1,8, .nilf⟩,
  some ⟨.fn,1,8, .nilf⟩,
  some ⟨.fn,1,8, .nilf⟩,
  some ⟨.fn,1,8, .nilf⟩,
  some ⟨.fn,1,8, .nilf⟩,
  none,
  some ⟨.fn,1,8, .nilf⟩,
  some ⟨.fn,1,8, .nilf⟩,
  some ⟨.fn,1,8, .nilf⟩,
  some ⟨.fn,1,8, .nilf⟩,
  some ⟨.fn,1,8, .nilf⟩,
  some ⟨.fn,1,8, .nilf⟩,
  some ⟨.fn,1,8, .nilf⟩,
  some ⟨.int .i64,1,8, .int .i64 0⟩,
  none,
  some ⟨.fn,1,8, .nilf⟩,
  some ⟨.fn,1,8, .nilf⟩,
  some ⟨.fn,1,8, .nilf⟩,
  some ⟨.fn,1,8, .nilf⟩,
  some ⟨.fn,1,8, .nilf⟩,
  some ⟨.fn,1,8, .nilf⟩,
  some ⟨.st [(0,3),(1,27),(2,4)],3,40, .st (.cons (.int .i64 0) (.cons (.emp) (.cons (.ff) (.nil))))⟩,
  some ⟨.st [(0,3),(1,27),(2,4)],3,40, .st (.cons (.int .i64 0) (.cons (.emp) (.cons (.ff) (.nil))))⟩,
  some ⟨.fn,1,8, .nilf⟩,
  some ⟨.fn,1,8, .nilf⟩,
  some ⟨.fn,1,8, .nilf⟩,
  some ⟨.fn,1,8, .nilf⟩,
  some ⟨.fn,1,8, .nilf⟩,
  none,
  some ⟨.fn,1,8, .nilf⟩,
  some ⟨.fn,1,8, .nilf⟩,
  some ⟨.arr 8 116,8,32, .row 1 8 fun _=> .int .u32 0⟩,
  some ⟨.fn,1,8, .nilf⟩,
  some ⟨.st [(0,220),(8,27),(9,3)],10,64, .st (.cons (.row 1 8 fun _=> .int .u32 0) (.cons (.emp) (.cons (.int .i64 0) (.nil))))⟩,
  some ⟨.st [(0,220),(8,27),(9,3)],10,64, .st (.cons (.row 1 8 fun _=> .int .u32 0) (.cons (.emp) (.cons (.int .i64 0) (.nil))))⟩,
  some ⟨.fn,1,8, .nilf⟩,
  some ⟨.fn,1,8, .nilf⟩,
  none,
  some ⟨.fn,1,8, .nilf⟩,
  some ⟨.fn,1,8, .nilf⟩,
  some ⟨.fn,1,8, .nilf⟩,
  none,
  some ⟨.fn,1,8, .nilf⟩,
  some ⟨.fn,1,8, .nilf⟩,
  some ⟨.fn,1,8, .nilf⟩,
  some ⟨.ptr 236,1,8, .nilp⟩,
  some ⟨.st [(0,165),(1,3),(2,27),(3,4)],4,64, .st (.cons (.emp) (.cons (.int .i64 0) (.cons (.emp) (.cons (.ff) (.nil)))))⟩,
  some ⟨.st [(0,165),(1,3),(2,27),(3,4)],4,64, .st (.cons (.emp) (.cons (.int .i64 0) (.cons (.emp) (.cons (.ff) (.nil)))))⟩,
  some ⟨.fn,1,8, .nilf⟩,
  some ⟨.fn,1,8, .nilf⟩,
  some ⟨.arr 4 58,4,32, .row 1 4 fun _=> .int .u64 0⟩,
  some ⟨.fn,1,8, .nilf⟩,
  some ⟨.fn,1,8, .nilf⟩,
  some ⟨.fn,1,8, .nilf⟩,
  some ⟨.fn,1,8, .nilf⟩,
  some ⟨.fn,1,8, .nilf⟩,
  some ⟨.int .u64,1,8, .int .u64 0⟩,
  some ⟨.fn,1,8, .nilf⟩,
  some ⟨.fn,1,8, .nilf⟩,
  some ⟨.fn,1,8, .nilf⟩,
  some ⟨.ptr 3,1,8, .nilp⟩,
  some ⟨.fn,1,8, .nilf⟩,
  some ⟨.fn,1,8, .nilf⟩,
  some ⟨.fn,1,8, .nilf⟩,
  some ⟨.slice 58,1,24, .emp⟩,
  some ⟨.fn,1,8, .nilf⟩,
  some ⟨.fn,1,8, .nilf⟩,
  some ⟨.fn,1,8, .nilf⟩,
  some ⟨.fn,1,8, .nilf⟩,
  none,
  some ⟨.fn,1,8, .nilf⟩,
  some ⟨.fn,1,8, .nilf⟩,
  some ⟨.fn,1,8, .nilf⟩,
  some ⟨.fn,1,8, .nilf⟩,
  some ⟨.fn,1,8, .nilf⟩,
  some ⟨.slice 116,1,24, .emp⟩,
  some ⟨.fn,1,8, .nilf⟩,
  some ⟨.fn,1,8, .nilf⟩,
  some ⟨.fn,1,8, .nilf⟩,
  some ⟨.arr 256 5,256,256, .row 1 256 fun _=> .int .u8 0⟩,
  some ⟨.st [(0,5),(1,5)],2,2, .st (.cons (.int .u8 0) (.cons (.int .u8 0) (.nil)))⟩,
  some ⟨.st [(0,5),(1,5)],2,2, .st (.cons (.int .u8 0) (.cons (.int .u8 0) (.nil)))⟩,
  some ⟨.arr 16 270,32,32, .row 2 16 fun _=> .st (.cons (.int .u8 0) (.cons (.int .u8 0) (.nil)))⟩,
  some ⟨.fn,1,8, .nilf⟩,
  some ⟨.fn,1,8, .nilf⟩,
  some ⟨.fn,1,8, .nilf⟩,
  some ⟨.fn,1,8, .nilf⟩,
  some ⟨.fn,1,8, .nilf⟩,
  some ⟨.ptr 245,1,8, .nilp⟩,
  none,
  some ⟨.fn,1,8, .nilf⟩,
  some ⟨.fn,1,8, .nilf⟩,
  some ⟨.fn,1,8, .nilf⟩,
  some ⟨.fn,1,8, .nilf⟩,
  some ⟨.arr 9 58,9,72, .row 1 9 fun _=> .int .u64 0⟩,
  some ⟨.fn,1,8, .nilf⟩,
  some ⟨.fn,1,8, .nilf⟩,
  some ⟨.fn,1,8, .nilf⟩,
  some ⟨.fn,1,8, .nilf⟩,
  some ⟨.fn,1,8, .nilf⟩,
  some ⟨.st [(0,17),(1,17),(2,17),(3,9)],4,40, .st (.cons (.nilp) (.cons (.nilp) (.cons (.nilp) (.cons (.str []) (.nil)))))⟩,
  some ⟨.st [(0,17),(1,17),(2,17),(3,9)],4,40, .st (.cons (.nilp) (.cons (.nilp) (.cons (.nilp) (.cons (.str []) (.nil)))))⟩,
  some ⟨.arr 0 16,0,0, .row 1 0 fun _=> .nilp⟩,
  some ⟨.st [(0,291)],0,0, .st (.cons (.row 1 0 fun _=> .nilp) (.nil))⟩,
  some ⟨.st [(0,291)],0,0, .st (.cons (.row 1 0 fun _=> .nilp) (.nil))⟩,
  some ⟨.fn,1,8, .nilf⟩,
  some ⟨.int .u8,1,1, .int .u8 0⟩,
  some ⟨.int .u8,1,1, .int .u8 0⟩,
  some ⟨.fn,1,8, .nilf⟩,
  some ⟨.ptr 5,1,8, .nilp⟩,
  some ⟨.int .i32,1,4, .int .i32 0⟩,
  some ⟨.int .i32,1,4, .int .i32 0⟩,
  some ⟨.st [(0,12),(1,12),(2,116),(3,295),(4,5),(5,5),(6,296),(7,297),(8,298),(9,299),(10,300)],11,48, .st (.cons (.int .u64 0) (.cons (.int .u64 0) (.cons (.int .u32 0) (.cons (.int .u8 0) (.cons (.int .u8 0) (.cons (.int .u8 0) (.cons (.int .u8 0) (.cons (.nilf) (.cons (.nilp) (.cons (.int .i32 0) (.cons (.int .i32 0) (.nil))))))))))))⟩,
  some ⟨.st [(0,12),(1,12),(2,116),(3,295),(4,5),(5,5),(6,296),(7,297),(8,298),(9,299),(10,300)],11,48, .st (.cons (.int .u64 0) (.cons (.int .u64 0) (.cons (.int .u32 0) (.cons (.int .u8 0) (.cons (.int .u8 0) (.cons (.int .u8 0) (.cons (.int .u8 0) (.cons (.nilf) (.cons (.nilp) (.cons (.int .i32 0) (.cons (.int .i32 0) (.nil))))))))))))⟩]
theorem K6:Bu Tryz.prog tb:=by unfold Bu;kernel_rfl
theorem Uw:Tryz.prog.follows .mixedOrders=true:=by kernel_rfl
def Ka(n:Nat)(fs:List (Nat×A7))(fh:List (Nat×Ai)):Fu:=⟨tb,fs.map fun p=>(p.1,jQ p.2),fh,[],n,0,[],false⟩
theorem Ad(n:Nat)(fs:List (Nat×A7))(fh:List (Nat×Ai))(h:∀p∈fs,FOk Tryz.prog [] p.1 p.2)(h':∀p∈fh,Af Tryz.prog [] p.1 p.2):Aj Tryz.prog (Ka n fs fh) where
 tb:=K6
 fs:=fun p hp=>by
  obtain⟨q,hq,rfl⟩:=List.mem_map.1 hp;exact(h q hq).spec
 fh:=h'
def Bd(f:Func):Code:=match f.body with|some c=>c|none=> .skip
theorem vo{Γ:Fu}{Q:Exit→St→Prop}{c:Code}{σ:St}(hΓ:Aj Tryz.prog Γ)(h:vc Tryz.prog Γ Q 1000 c [] σ)(hc:nE Γ c=true:=by kernel_rfl):OK Tryz.prog Γ c (Fw Tryz.prog Γ Q []) σ:=K9 hΓ Uw 1000 _ [] _ hc rfl h
theorem vj{Γ:Fu}{hh:Ae}{Q:Exit→St→Prop}{c:Code}{σ:St}(hΓ:Aj Tryz.prog Γ)(h:vc Tryz.prog (Γ.inner hh) Q 1000 c [] σ)(hc:nE (Γ.inner hh) c=true:=by kernel_rfl):OK Tryz.prog (Γ.inner hh) c (Fw Tryz.prog (Γ.inner hh) Q []) σ:=K9 (Aj.inner hΓ _) Uw 1000 _ [] _ hc rfl h
set_option maxRecDepth 100000 in
theorem Aw{Γ:Fu}{f:Nat}{fn:Func}{az:List V}{Φ:V→Prop}(hΓ:Aj Tryz.prog Γ)(hf:Tryz.prog.funcs[f]?=some fn)(h:vc Tryz.prog Γ (AMz Γ fn.results.toList Φ) 1000 (Bd fn) [] (Un az))(hb:fn.body=some (Bd fn):=by exact rfl)(hname:(fn.name== "runtime.NumGoroutine")=false:=by decide)(hn:Γ.n=fn.ntmps:=by exact rfl)(hn0:Γ.n0=0:=by exact rfl)(hle:az.length≤fn.ntmps:=by simp)(hc:nE Γ (Bd fn)=true:=by kernel_rfl):CP Tryz.prog Γ.gl f az Φ:=xN hΓ hf hb hname hn hn0 hle (vo (Q:=AMz Γ fn.results.toList Φ) (σ:=Un az) hΓ h hc)
theorem Q6(np:Nat){Γ:Fu}{f:Nat}{fn:Func}(hΓ:Aj Tryz.prog Γ)(hf:Tryz.prog.funcs[f]?=some fn)(hb:fn.body=some (Bd fn):=by exact rfl)(hname:(fn.name== "runtime.NumGoroutine")=false:=by decide)(hn:Γ.n=fn.ntmps:=by exact rfl)(hle:np≤fn.ntmps:=by decide):Af Tryz.prog Γ.gl f (fun az h κ=>az.length=np∧B4 Tryz.prog Γ (Bd fn) fn.results.toList az h κ):=Tm hΓ hf hb hname hn hle
theorem A3{x:Int}(h0:-9223372036854775808≤x)(h1:x≤9223372036854775807):IntKind.i64.wrap x=x:=by
 rw[IntKind.wrap_i64];omega
structure Bw where
 author:List UInt8
 seq:Int
 prev:List UInt8
 stamp:Int
 kind:Int
 key:List UInt8
 val:List UInt8
 sig:List UInt8
def aB(e:Bw):V:= .st (.cons (.int .i64 e.kind) (.cons (.str e.key) (.cons (Bl false e.val) .nil)))
def Ak(e:Bw):V:= .st (.cons (arrV 32 e.author) (.cons (.int .i64 e.seq) (.cons (arrV 32 e.prev) (.cons (.int .i64 e.stamp) (.cons (aB e) (.cons (arrV 64 e.sig) .nil))))))
structure Pf where
 a:Bw
 b:Bw
def aC(p:Pf):V:= .st (.cons (Ak p.a) (.cons (Ak p.b) .nil))
structure Fd where
 author:List UInt8
 n:Nat
 es:Nat→Bw
 shut:Bool
 pf:Pf
def Fl(f:Fd):V:= .st (.cons (arrV 32 f.author) (.cons (.imm false 133 f.n fun k=>Ak (f.es k)) (.cons (.bool f.shut) (.cons (aC f.pf) .nil))))
theorem Mk(e:Bw):Br (Ak e):=by simp[Ak,aB,Bl,arrV,Br,Is,bf]
def C8(b:Bool)(n:Nat)(l:Nat→Fd):V:= .imm b 300 n fun k=>Fl (l k)
theorem AC9{v:V}(h:Y9 v):own v:=by
 cases v<;>simp only[Y9]at h
 simp only[own]
theorem Bg(l:List UInt8)(k:Nat):own (bf l k):=AC9 (Dz l k)
theorem Ee(e:Bw):own (Ak e):=by
 simp only[Ak,arrV,aB,Bl,own,Jz];exact⟨fun k _=>Bg _ k,trivial,fun k _=>Bg _ k,trivial,⟨trivial,trivial,fun k _=>Bg _ k,trivial⟩,fun k _=>Bg _ k,trivial⟩
theorem G8(e:Bw):Mm (Ak e):=by
 simp only[Ak,arrV,aB,Bl,Mm,mC];exact⟨fun k _=>trivial,trivial,fun k _=>trivial,trivial,⟨trivial,trivial,trivial,trivial⟩,fun k _=>trivial,trivial⟩
structure xO where
 b:Bool
 n:Nat
 es:Nat→Bw
def Kn(b:Bool)(n:Nat)(es:Nat→Bw):V:= .imm b 133 n fun k=>Ak (es k)
def cN(e:Bw):Prop:=e.val.length≤1000000
def okP(p:Pf):Prop:=cN p.a∧cN p.b
def U0(f:Fd):Prop:=f.n≤10000∧(∀k,k<f.n→cN (f.es k))∧okP f.pf
theorem Dq(f:Fd):Mm (Fl f):=by
 simp only[Fl,aC,arrV,Mm,mC];exact⟨fun k _=>trivial,trivial,trivial,⟨G8 _,G8 _,trivial⟩,trivial⟩
theorem Cl(f:Fd):own (Fl f):=by
 simp only[Fl,aC,arrV,own,Jz];exact⟨fun k _=>Bg _ k,fun k _=>Ee _,trivial,⟨Ee _,Ee _,trivial⟩,trivial⟩
structure qP where
 b:Bool
 n:Nat
 l:Nat→Fd
def u32(x:UInt32):V:= .int .u32 (x.toNat:Nat)
theorem Qx(x:UInt32):IntKind.u32.wrap (x.toNat:Nat)=(x.toNat:Nat):=by
 have:=x.toNat_lt
 rw[IntKind.wrap_u32];omega
theorem Ly(x y:UInt32):IntKind.u32.wrap ((x.toNat:Nat)+(y.toNat:Nat))=((x+y).toNat:Nat):=by
 rw[IntKind.wrap_u32,UInt32.toNat_add];omega
theorem qM(x:UInt32):BitVec.ofInt 32 (x.toNat:Nat)=x.toBitVec:=by
 apply BitVec.eq_of_toNat_eq
 rw[BitVec.toNat_ofInt]
 have:=x.toNat_lt
 simp only[UInt32.toNat_toBitVec];omega
theorem P2(x y:UInt32):Ag .xor .u32 (x.toNat:Nat) (y.toNat:Nat)=((x^^^y).toNat:Nat):=by
 simp only[Ag,IntKind.bits,qM];exact Qx (x^^^y)
theorem mZ(x y:UInt32):Ag .and .u32 (x.toNat:Nat) (y.toNat:Nat)=((x&&&y).toNat:Nat):=by
 simp only[Ag,IntKind.bits,qM];exact Qx (x&&&y)
theorem ADe(x y:UInt32):Ag .or .u32 (x.toNat:Nat) (y.toNat:Nat)=((x|||y).toNat:Nat):=by
 simp only[Ag,IntKind.bits,qM];exact Qx (x|||y)
theorem ADd(x:UInt32):Ag .xor .u32 4294967295 (x.toNat:Nat)=((~~~x).toNat:Nat):=by
 have h:(4294967295:Int)=(((-1:UInt32).toNat:Nat):Int):=by decide
 rw[h,P2];rfl
theorem Q8(x:UInt32)(n:Nat)(h:n<32):Bt .u32 (x.toNat:Nat) n=((x>>>(UInt32.ofNat n)).toNat:Nat):=by
 simp only[Bt,IntKind.bits,Int.toNat_natCast,Nat.min_eq_left (Nat.le_of_lt h)];have h1:(UInt32.ofNat n).toNat%32=n:=by rw[UInt32.toNat_ofNat'];omega
 rw[UInt32.toNat_shiftRight,h1,Nat.shiftRight_eq_div_pow,Int.fdiv_eq_ediv_of_nonneg _ (by exact Int.le_of_lt (Int.pow_pos (by decide)))];simp
theorem Zw(x:UInt32):Ch .u32 (x.toNat:Nat) 8=((x<<<8).toNat:Nat):=by
 simp only[Ch,IntKind.bits];rw[IntKind.wrap_u32,UInt32.toNat_shiftLeft,Nat.shiftLeft_eq];have h1:(8:UInt32).toNat%32=8:=rfl;rw[h1];simp
def Yy(x k:Int):Int:=Ag BinOp.or IntKind.u32 (Ch IntKind.u32 x (Ag BinOp.and IntKind.u64 (IntKind.u64.wrap k) 31)) (Bt IntKind.u32 x (IntKind.u64.wrap (32 - Ag BinOp.and IntKind.u64 (IntKind.u64.wrap k) 31)))
def Gf(x:UInt32)(k:Int):UInt32:=UInt32.ofNat (Yy (x.toNat:Nat) k).toNat
theorem hU(x:UInt32)(k:Int):Yy (x.toNat:Nat) k=((Gf x k).toNat:Nat):=by
 have h:0≤Yy (x.toNat:Nat) k∧Yy (x.toNat:Nat) k<4294967296:=by
  simp only[Yy,Ag];rw[IntKind.wrap_u32];omega
 simp only[Gf,UInt32.toNat_ofNat'];omega
theorem AQ6(k:Int):0≤Ag BinOp.and IntKind.u64 k 31:=by
 simp only[Ag];rw[IntKind.wrap_u64];omega
def AKy:A7:=Iq (fun(a:UInt32×Int)=>[u32 a.1, .int .i64 a.2]) (fun _=>True) (fun a=>u32 (Gf a.1 a.2))
theorem Mc:FOk Tryz.prog [] 118 AKy:=Bj fun a _ Φ h=>by
 have hΓ:=Ad Tryz.f118.ntmps _ _ (FL.all .nil) (HL.all .nil);refine Aw hΓ Tryz.func118 ?_;conv=>whnf
 repeat' ((first|apply Ap<;>intro _|apply An)<;>conv=>whnf)
 ·exact⟨AQ6 _⟩
 ·refine⟨?_⟩;rw[IntKind.wrap_u64];omega
 ·refine cast (congrArg Φ ?_) h;simp only[u32];rw[←hU];rfl
def Fe(l:List UInt8):UInt32:=l.foldl (fun x c=>x<<<8|||UInt32.ofNat c.toNat) 0
def pR(a:By):Prop:=a.ok∧a.l.length≤1000000
def AL2:A7:=Iq (fun(a:By)=>[a.v]) pR (fun a=>u32 (Fe a.l))
theorem fT:FOk Tryz.prog [] 259 AL2:=Bj fun a ⟨ha,hn⟩ Φ h=>by
 refine CP.by1 ha ?_;generalize a.l=l at h hn;have hΓ:=Ad Tryz.f259.ntmps _ _ (FL.all .nil) (HL.all .nil);refine Aw hΓ Tryz.func259 ?_;conv=>whnf
 refine A4 (ι:=Nat) (fun i=>[(3,u32 (Fe (l.take i))),(6,Bl a.b l),(7, .int .i64 (l.length:Nat)),(8, .int .i64 (i:Nat))]) (fun i=>[]) (fun i=>i≤l.length) (fun i=>l.length - i) 0 [] ?_ (fun i hi=>vo hΓ ?_)
 ·conv=>whnf
  repeat' ((first|apply Ap<;>intro _|apply An)<;>conv=>whnf)
  all_goals try exact⟨Ah⟩
 ·conv=>whnf
  repeat' ((first|apply Ap<;>intro _|apply An)<;>conv=>whnf)
  all_goals(try simp only[decide_eq_true_eq,decide_eq_false_iff_not,Int.toNat_natCast,Bool.not_eq_true,Bool.not_eq_false]at*)
  all_goals try exact⟨Ah⟩
  ·refine⟨i+1,[],?_⟩;conv=>whnf
   repeat' (apply An<;>conv=>whnf)
   all_goals try exact⟨Ah⟩
   ·refine⟨?_⟩;have hi':i<l.length:=by omega
    rw[List.take_succ_eq_append_getElem hi'];simp only[Fe,List.foldl_append,List.foldl_cons,List.foldl_nil];rw[←ADe,←Zw];have hc:=l[i].toNat_lt;have h1:(UInt32.ofNat l[i].toNat).toNat=l[i].toNat:=by rw[UInt32.toNat_ofNat'];omega
    have h2:l.getD i 0=l[i]:=by simp[List.getD_eq_getElem?_getD,hi']
    rw[h1,h2,IntKind.wrap_u32]
    congr 1
    omega
   ·exact⟨by rw[A3 (by omega) (by omega)];rfl⟩
  refine vo hΓ ?_;conv=>whnf
  obtain rfl:i=l.length:=by omega
  rw[List.take_length];exact h
def aO:List UInt32:=[0x428a2f98,0x71374491,0xb5c0fbcf,0xe9b5dba5,0x3956c25b,0x59f111f1,0x923f82a4,0xab1c5ed5,
 0xd807aa98,0x12835b01,0x243185be,0x550c7dc3,0x72be5d74,0x80deb1fe,0x9bdc06a7,0xc19bf174,
 0xe49b69c1,0xefbe4786,0x0fc19dc6,0x240ca1cc,0x2de92c6f,0x4a7484aa,0x5cb0a9dc,0x76f988da,
 0x983e5152,0xa831c66d,0xb00327c8,0xbf597fc7,0xc6e00bf3,0xd5a79147,0x06ca6351,0x14292967,
 0x27b70a85,0x2e1b2138,0x4d2c6dfc,0x53380d13,0x650a7354,0x766a0abb,0x81c2c92e,0x92722c85,
 0xa2bfe8a1,0xa81a664b,0xc24b8b70,0xc76c51a3,0xd192e819,0xd6990624,0xf40e3585,0x106aa070,
 0x19a4c116,0x1e376c08,0x2748774c,0x34b0bcb5,0x391c0cb3,0x4ed8aa4a,0x5b9cca4f,0x682e6ff3,
 0x748f82ee,0x78a5636f,0x84c87814,0x8cc70208,0x90befffa,0xa4506ceb,0xbef9a3f7,0xc67178f2]
def Jt:List UInt32:=[0x6a09e667,0xbb67ae85,0x3c6ef372,0xa54ff53a,0x510e527f,0x9b05688c,0x1f83d9ab,0x5be0cd19]
def wV(w:Nat→UInt32):Nat→V:=fun k=>u32 (w k)
def gw(l:List UInt32):Nat→UInt32:=fun k=>l.getD k 0
def AKz:A7:=Iq (fun(a:Unit)=>[]) (fun _=>True) (fun a=> .imm false 1 64 (wV (gw aO)))
theorem lt8{p:Nat→Prop}(h0:p 0)(h1:p 1)(h2:p 2)(h3:p 3)(h4:p 4)(h5:p 5)(h6:p 6)(h7:p 7):∀k,k<8→p k:=fun k hk=>by
 match k,hk with
 |0,_=>exact h0
 |1,_=>exact h1
 |2,_=>exact h2
 |3,_=>exact h3
 |4,_=>exact h4
 |5,_=>exact h5
 |6,_=>exact h6
 |7,_=>exact h7
theorem A0{p:Nat→Prop}{n:Nat}(h0:p n)(h:∀k,k<n→p k):∀k,k<n+1→p k:=fun k hk=>by
 rcases Nat.lt_or_ge k n with hk'|hk'
 ·exact h k hk'
 ·obtain rfl:k=n:=by omega
  exact h0
theorem A9{p:Nat→Prop}:∀k,k<0→p k:=fun k hk=>absurd hk (by omega)
theorem fO:FOk Tryz.prog [] 243 AKz:=Fz fun a _=>by
 have hΓ:=Ad Tryz.f243.ntmps _ _ (FL.all .nil) (HL.all .nil);refine Aw hΓ Tryz.func243 ?_;conv=>whnf
 repeat' ((first|apply Ap<;>intro _|apply An)<;>conv=>whnf)
 ·exact⟨by omega⟩
 ·refine⟨?_⟩;repeat(refine A0 trivial ?_)
  exact A9
 ·refine Ld.imm ?_;repeat(refine A0 rfl ?_)
  exact A9
def F85:A7:=Iq (fun(a:Unit)=>[]) (fun _=>True) (fun a=> .row 1 8 (wV (gw Jt)))
theorem AMu:FOk Tryz.prog [] 196 F85:=Fz fun a _=>by
 have hΓ:=Ad Tryz.f196.ntmps _ _ (FL.all .nil) (HL.all .nil);refine Aw hΓ Tryz.func196 ?_;conv=>whnf
 repeat' ((first|apply Ap<;>intro _|apply An)<;>conv=>whnf)
 ·refine⟨?_⟩;repeat(refine A0 trivial ?_)
  exact A9
 ·refine Ld.row ?_;repeat(refine A0 rfl ?_)
  exact A9
def sg0(x:UInt32):UInt32:=Gf x (-7)^^^Gf x (-18)^^^x>>>3
def sg1(y:UInt32):UInt32:=Gf y (-17)^^^Gf y (-19)^^^y>>>10
def lP(w:Nat→UInt32)(i:Nat):UInt32:=w (i - 16)+sg0 (w (i - 15))+w (i - 7)+sg1 (w (i - 2))
def sp(p:List UInt8):Nat→Nat→UInt32
 |0=>fun _=>0
 |i+1=>fun k=>if k=i then(if i<16 then Fe ((p.drop (4*i)).take 4)else lP (sp p i) i)else sp p i k
theorem ADf(x:UInt32):Bt .u32 (x.toNat:Nat) 3=((x>>>3).toNat:Nat):=Q8 x 3 (by decide)
theorem uP(x:UInt32):Bt .u32 (x.toNat:Nat) 10=((x>>>10).toNat:Nat):=Q8 x 10 (by decide)
def AL0:A7:=Iq (fun(a:By)=>[a.v]) (fun a=>a.ok∧a.l.length=64) (fun a=> .row 1 64 (wV (sp a.l 64)))
theorem fQ:FOk Tryz.prog [] 244 AL0:=Bj fun a ⟨ha,hn⟩ Φ h=>by
 refine CP.by1 ha ?_;generalize a.l=l at h hn;have hΓ:=Ad Tryz.f244.ntmps _ _ (FL.all (.cons Mc (.cons fT .nil))) (HL.all .nil);refine Aw hΓ Tryz.func244 ?_;conv=>whnf
 refine A4 (ι:=Nat) (fun i=>[(0,Bl a.b l),(2, .ref 0 []),(3, .ref 1 []),(9, .int .i64 (i:Nat))]) (fun i=>[some (.row 1 64 (wV (sp l 0))),some (.row 1 64 (wV (sp l i)))]) (fun i=>i≤64) (fun i=>64 - i) 0 [some 0,some 1] ?_ (fun i hi=>vo hΓ ?_)
 ·conv=>whnf
  repeat' ((first|apply Ap<;>intro _|apply An)<;>conv=>whnf)
  all_goals try first|exact⟨Ah⟩|exact⟨fun k _=>Aa _ trivial⟩
 ·conv=>whnf
  repeat' ((first|apply Ap<;>intro _|apply An)<;>conv=>whnf)
  all_goals(try simp only[decide_eq_true_eq,decide_eq_false_iff_not,Int.toNat_natCast,Bool.not_eq_true,Bool.not_eq_false]at*)
  all_goals try exact⟨Ah⟩
  ·exact⟨⟨by rw[IntKind.wrap_i64];omega,by rw[IntKind.wrap_i64,IntKind.wrap_i64];omega,by rw[IntKind.wrap_i64,IntKind.wrap_i64];omega⟩⟩
  ·have e1:(IntKind.i64.wrap (4*(i:Int))).toNat=4*i:=by rw[IntKind.wrap_i64];omega
   have e2:(IntKind.i64.wrap (IntKind.i64.wrap (4*(i:Int))+4)).toNat - (IntKind.i64.wrap (4*(i:Int))).toNat=4:=by rw[IntKind.wrap_i64,IntKind.wrap_i64];omega
   refine⟨.imm _ _ _,rfl,⟨fun k hk=>Dz _ _,?_⟩,?_⟩
   ·simp only[By.l,Eb];omega
   conv=>whnf
   repeat' ((first|apply Ap<;>intro _|apply An)<;>conv=>whnf)
   all_goals try exact⟨Ah⟩
   ·refine⟨i+1,[some 0,some 1],?_⟩;conv=>whnf
    repeat' (apply An<;>conv=>whnf)
    all_goals try first|exact⟨Ah⟩|exact⟨fun k _=>Aa _ trivial⟩
    ·exact⟨by rw[A3 (by omega) (by omega)];rfl⟩
    ·refine⟨fun k hk=>A5 ?_ trivial⟩
     by_cases hki:k=i
     ·refine(if_pos hki).trans ?_
      show V.int .u32 _=_
      simp only[wV,u32,sp,if_pos hki,By.l];rw[if_pos (by omega),e2,e1,Em _ _ _ (by omega)]
     ·refine(if_neg hki).trans ?_;simp only[wV,sp,if_neg hki]
  ·exact⟨⟨by rw[IntKind.wrap_i64];omega,by rw[IntKind.wrap_i64];omega⟩⟩
  ·exact⟨by rw[IntKind.wrap_i64];omega⟩
  ·exact⟨⟨by rw[IntKind.wrap_i64];omega,by rw[IntKind.wrap_i64];omega⟩⟩
  ·exact⟨by rw[IntKind.wrap_i64];omega⟩
  ·refine⟨(_,_),rfl,⟨trivial⟩,?_⟩;conv=>whnf
   refine⟨(_,_),rfl,⟨trivial⟩,?_⟩;conv=>whnf
   refine And.intro (show Ob (_≤_)from⟨by decide⟩) ?_;conv=>whnf
   refine⟨(_,_),rfl,⟨trivial⟩,?_⟩;conv=>whnf
   refine⟨(_,_),rfl,⟨trivial⟩,?_⟩;conv=>whnf
   repeat' ((first|apply Ap<;>intro _|apply An)<;>conv=>whnf)
   all_goals try exact⟨Ah⟩
   ·exact⟨⟨by rw[IntKind.wrap_i64];omega,by rw[IntKind.wrap_i64];omega⟩⟩
   ·exact⟨by rw[IntKind.wrap_i64];omega⟩
   ·exact⟨⟨by rw[IntKind.wrap_i64];omega,by rw[IntKind.wrap_i64];omega⟩⟩
   ·exact⟨by rw[IntKind.wrap_i64];omega⟩
   refine⟨i+1,[some 0,some 1],?_⟩;conv=>whnf
   repeat' (apply An<;>conv=>whnf)
   all_goals try first|exact⟨Ah⟩|exact⟨fun k _=>Aa _ trivial⟩
   ·exact⟨by rw[A3 (by omega) (by omega)];rfl⟩
   ·refine⟨fun k hk=>A5 ?_ trivial⟩
    by_cases hki:k=i
    ·refine(if_pos hki).trans ?_
     show V.int .u32 _=_
     have e2:(IntKind.i64.wrap ((i:Int) - 2)).toNat=i - 2:=by rw[IntKind.wrap_i64];omega
     have e7:(IntKind.i64.wrap ((i:Int) - 7)).toNat=i - 7:=by rw[IntKind.wrap_i64];omega
     have e15:(IntKind.i64.wrap ((i:Int) - 15)).toNat=i - 15:=by rw[IntKind.wrap_i64];omega
     have e16:(IntKind.i64.wrap ((i:Int) - 16)).toNat=i - 16:=by rw[IntKind.wrap_i64];omega
     simp only[e2,e7,e15,e16,P2,ADf,uP,Ly,wV,u32,sp,if_pos hki];rw[if_neg (by omega)];rfl
    ·refine(if_neg hki).trans ?_;simp only[wV,sp,if_neg hki]
  refine vo hΓ ?_;conv=>whnf
  repeat' (apply An<;>conv=>whnf)
  ·exact⟨fun k _=>trivial⟩
  obtain rfl:i=64:=by omega
  exact h
theorem Zv(x:UInt32):Ag .xor .u32 (if IntKind.u32.signed=true then -1 else IntKind.u32.max) (x.toNat:Nat)=((~~~x).toNat:Nat):=ADd x
def AC1(v:Nat→UInt32)(k w:UInt32):UInt32:=
 v 7+(Gf (v 4) (-6)^^^Gf (v 4) (-11)^^^Gf (v 4) (-25))+((v 4&&&v 5)^^^(~~~(v 4)&&&v 6))+k+w
def AOs(v:Nat→UInt32):UInt32:=
 (Gf (v 0) (-2)^^^Gf (v 0) (-13)^^^Gf (v 0) (-22))+((v 0&&&v 1)^^^(v 0&&&v 2)^^^(v 1&&&v 2))
def ACx(v:Nat→UInt32)(k w:UInt32):Nat→UInt32
 |0=>AC1 v k w+AOs v
 |1=>v 0
 |2=>v 1
 |3=>v 2
 |4=>v 3+AC1 v k w
 |5=>v 4
 |6=>v 5
 |_=>v 6
def wS(w h:Nat→UInt32):Nat→Nat→UInt32
 |0=>h
 |i+1=>ACx (wS w h i) (gw aO i) (w i)
def Ho(h:Nat→UInt32)(p:List UInt8):Nat→UInt32:=fun k=>h k+wS (sp p 64) h 64 k
def F87:A7:=Iq (fun(a:(Nat→UInt32)×By)=>[.row 1 8 (wV a.1),a.2.v]) (fun a=>a.2.ok∧a.2.l.length=64) (fun a=> .row 1 8 (wV (Ho a.1 a.2.l)))
theorem fW:FOk Tryz.prog [] 197 F87:=Fz fun a ⟨ha,hn⟩=>by
 refine CP.by2 ha ?_;generalize a.2.l=l at hn;obtain⟨h,a⟩:=a;have hΓ:=Ad Tryz.f197.ntmps _ _ (FL.all (.cons fO (.cons fQ (.cons Mc .nil)))) (HL.all .nil);refine Aw hΓ Tryz.func197 ?_;conv=>whnf
 repeat' ((first|apply Ap<;>intro _|apply An)<;>conv=>whnf)
 all_goals try exact⟨Ah⟩
 refine⟨(),rfl,⟨trivial⟩,?_⟩;conv=>whnf
 refine⟨.of _ _,rfl,⟨trivial,hn⟩,?_⟩;conv=>whnf
 refine A4 (ι:=Nat) (fun i=>[(2, .ref 0 []),(4, .ref 1 []),(5, .ref 2 []),(6, .imm false 1 64 (wV (gw aO))),(19, .row 1 64 (wV (sp l 64))),(20, .int .i64 (i:Nat))]) (fun i=>[some (.row 1 8 (wV h)),some (.row 1 8 fun _=>u32 0),some (.row 1 8 (wV (wS (sp l 64) h i)))]) (fun i=>i≤64) (fun i=>64 - i) 0 [some 0,some 1,some 2] ?_ (fun i hi=>vo hΓ ?_)
 ·conv=>whnf
  repeat' ((first|apply Ap<;>intro _|apply An)<;>conv=>whnf)
  all_goals try first|exact⟨Ah⟩|exact⟨fun k _=>Aa _ trivial⟩
 ·conv=>whnf
  repeat' ((first|apply Ap<;>intro _|apply An)<;>conv=>whnf)
  all_goals(try simp only[decide_eq_true_eq,decide_eq_false_iff_not,Int.toNat_natCast,Bool.not_eq_true,Bool.not_eq_false]at*)
  all_goals try exact⟨Ah⟩
  ·refine⟨(_,_),rfl,⟨trivial⟩,?_⟩;conv=>whnf
   refine⟨(_,_),rfl,⟨trivial⟩,?_⟩;conv=>whnf
   refine⟨(_,_),rfl,⟨trivial⟩,?_⟩;conv=>whnf
   repeat' ((first|apply Ap<;>intro _|apply An)<;>conv=>whnf)
   all_goals try exact⟨Ah⟩
   refine⟨(_,_),rfl,⟨trivial⟩,?_⟩;conv=>whnf
   refine⟨(_,_),rfl,⟨trivial⟩,?_⟩;conv=>whnf
   refine⟨(_,_),rfl,⟨trivial⟩,?_⟩;conv=>whnf
   repeat' ((first|apply Ap<;>intro _|apply An)<;>conv=>whnf)
   all_goals try exact⟨Ah⟩
   refine⟨i+1,[some 0,some 1,some 2],?_⟩;conv=>whnf
   repeat' (apply An<;>conv=>whnf)
   all_goals try exact⟨Ah⟩
   all_goals try exact⟨fun k _=>Aa _ trivial⟩
   ·exact⟨by rw[A3 (by omega) (by omega)];rfl⟩
   ·refine⟨lt8 ?_ ?_ ?_ ?_ ?_ ?_ ?_ ?_⟩;all_goals refine A5 ?_ trivial
    all_goals show V.int .u32 _=V.int .u32 _
    all_goals(try simp only[P2,mZ,Zv,Ly])
    all_goals exact rfl
  refine vo hΓ ?_;conv=>whnf
  refine A4 (ι:=Nat) (fun j=>[(2, .ref 0 []),(4, .ref 1 []),(5, .ref 2 []),(102, .int .i64 (j:Nat))]) (fun j=>[some (.row 1 8 (wV fun k=>if k<j then Ho h l k else h k)),some (.row 1 8 fun _=>u32 0),some (.row 1 8 (wV (wS (sp l 64) h 64)))]) (fun j=>j≤8) (fun j=>8 - j) 0 [some 0,some 1,some 2] ?_ (fun i hi=>vo hΓ ?_)
  ·conv=>whnf
   repeat' ((first|apply Ap<;>intro _|apply An)<;>conv=>whnf)
   all_goals try exact⟨Ah⟩
   ·obtain rfl:i=64:=by omega
    exact⟨fun k _=>Aa _ trivial⟩
  ·rename_i hi0;clear hi hi0;conv=>whnf
   repeat' ((first|apply Ap<;>intro _|apply An)<;>conv=>whnf)
   all_goals(try simp only[decide_eq_true_eq,decide_eq_false_iff_not,Int.toNat_natCast,Bool.not_eq_true,Bool.not_eq_false]at*)
   all_goals try exact⟨Ah⟩
   ·refine⟨i+1,[some 0,some 1,some 2],?_⟩;conv=>whnf
    repeat' (apply An<;>conv=>whnf)
    all_goals try exact⟨Ah⟩
    all_goals try exact⟨fun k _=>Aa _ trivial⟩
    ·exact⟨by rw[A3 (by omega) (by omega)];rfl⟩
    ·refine⟨fun k hk=>A5 ?_ trivial⟩
     by_cases hki:k=i
     ·refine(if_pos hki).trans ?_
      show V.int .u32 _=_
      simp only[Ly,if_neg (Nat.lt_irrefl i),wV,if_pos (show k<i+1 by omega)];subst hki;rfl
     ·refine(if_neg hki).trans ?_;simp only[wV]
      by_cases h2:k<i
      ·rw[if_pos h2,if_pos (by omega)]
      ·rw[if_neg h2,if_neg (by omega)]
   refine vo hΓ ?_;conv=>whnf
   repeat' (apply An<;>conv=>whnf)
   ·exact⟨fun k _=>trivial⟩
   refine Ld.row fun k hk=>?_;simp only[wV];rw[if_pos (by omega)]
def F88:A7:=Iq (fun(a:By)=>[a.v]) pR (fun a=>Bl false a.l)
theorem oU:FOk Tryz.prog [] 46 F88:=Fz fun a ⟨ha,hn⟩=>by
 refine CP.by1 ha ?_;generalize a.l=l at hn;have hΓ:=Ad Tryz.f46.ntmps _ _ (FL.all .nil) (HL.all .nil);refine Aw hΓ Tryz.func46 ?_;conv=>whnf
 intro b hb;conv=>whnf
 apply Ap<;>intro h1<;>conv=>whnf
 ·have hl:l=[]:=List.length_eq_zero_iff.1 (hb h1);subst hl;exact Ld.emp
 ·refine Or.inl ?_;conv=>whnf
  repeat' ((first|apply Ap<;>intro _|apply An)<;>conv=>whnf)
  all_goals try first|exact⟨Ah⟩|exact⟨⟨by simp only[];omega,by omega⟩⟩
  ·refine cast (congrArg (fun n=>Ld (V.imm false 1 n _) _) (Nat.zero_add l.length).symm) ?_;refine Ld.imm fun k hk=>?_;exact(if_neg (Nat.not_lt_zero _)).trans (by rw[Nat.zero_add];rfl)
def M5(ls:Nat→List UInt8):Nat→List UInt8|0=>[]|n+1=>M5 ls n++ls n
theorem rE:Aj Tryz.prog (Ka Tryz.f147.ntmps [] []):=Ad Tryz.f147.ntmps [] [] (FL.all .nil) (HL.all .nil)
def AV7:Ai:=fun xs h κ=>xs.length=2∧B4 Tryz.prog (Ka Tryz.f147.ntmps [] []) (Bd Tryz.f147) Tryz.f147.results.toList xs h κ
theorem AIv:Af Tryz.prog [] 147 AV7:=Q6 2 rE Tryz.func147
def Ey(ls:Nat→List UInt8):Nat→Nat|0=>0|n+1=>Ey ls n+(ls n).length
theorem Jc(l m:List UInt8)(k:Nat):bf (l++m) k=if l.length≤k∧k<l.length+m.length then bf m (k - l.length)else bf l k:=by
 simp only[bf,List.getD_eq_getElem?_getD]
 split
 ·rw[List.getElem?_append_right (by omega)]
 ·by_cases h:k<l.length
  ·rw[List.getElem?_append_left h]
  ·rw[List.getElem?_append_right (by omega),List.getElem?_eq_none (show m.length≤k - l.length by omega),List.getElem?_eq_none (show l.length≤k by omega)]
theorem T6(ls:Nat→List UInt8):∀i n,i≤n→Ey ls i≤Ey ls n
 |i,0,h=>by(obtain rfl:i=0:=by omega);exact Nat.le_refl _
 |i,n+1,h=>by
  rcases Nat.lt_or_ge n i with h1|h1
  ·obtain rfl:i=n+1:=by omega
   exact Nat.le_refl _
  ·have:=T6 ls i n h1
   simp only[Ey];omega
theorem bA{E:Env}{c:Nat→Option Value}{o:Nat}{b:Bool}{f:Nat→V}(h:R E .emp c o):R E (.imm b 1 0 f) c o:=by
 simp only[R]at h⊢;obtain⟨a,h⟩:=h;exact⟨a,0,h,Nat.le_refl _,by simp⟩
theorem jB{E:Env}{l:Bool}{n:Nat}{f:Nat→V}{bs:Nat→Bool}{ls:Nat→List UInt8}{x:Value}(h:∀k,k<n→f k=Bl (bs k) (ls k)∨(f k= .emp∧ls k=[]))(hT:T E (.imm l 1 n f) x):T E (.imm l 1 n fun k=>Bl (bs k) (ls k)) x:=by
 obtain⟨a,cp,h1,h2,h3⟩:=Ej.1 hT;refine Ej.2 ⟨a,cp,h1,h2,h3.imp id fun⟨b,off,h4,h5,h6⟩=>⟨b,off,h4,h5,fun k hk=>?_⟩⟩
 rcases h k hk with e|⟨e,e2⟩
 ·rw[←e];exact h6 k hk
 ·have:=h6 k hk
  rw[e]at this;simp only[Bl,e2,List.length_nil];exact⟨rfl,bA this.2⟩
structure Bys where
 b:Bool
 n:Nat
 f:Nat→V
 bs:Nat→Bool
 ls:Nat→List UInt8
def F86:A7:=Iq (fun(a:Bys)=>[.imm a.b 1 a.n a.f]) (fun a=>a.n≤1000∧(∀k,k<a.n→(a.ls k).length≤1000000)∧∀k,k<a.n→a.f k=Bl (a.bs k) (a.ls k)∨(a.f k= .emp∧a.ls k=[])) (fun a=>Bl false (M5 a.ls a.n))
theorem R7{ls:Nat→List UInt8}{n:Nat}(h:∀k,k<n→(ls k).length≤1000000):∀i,i≤n→Ey ls i≤1000000*i
 |0,_=>by simp[Ey]
 |i+1,hi=>by have:=R7 h i (by omega);have:=h i (by omega);simp only[Ey];omega
theorem Fa{ls:Nat→List UInt8}:∀i,(M5 ls i).length=Ey ls i
 |0=>rfl
 |i+1=>by simp[M5,Ey,Fa i]
theorem oT:FOk Tryz.prog [] 101 F86:=Fz fun a ⟨hn,hl,hf⟩=>by
 refine CP.le (ys:=[.imm a.b 1 a.n fun k=>Bl (a.bs k) (a.ls k)]) (fun E l hT=>?_) ?_
 ·cases l with
  |nil=>exact hT
  |cons x l=>exact⟨jB hf hT.1,hT.2⟩
 have hb:=R7 hl;have hΓ:=Ad Tryz.f101.ntmps _ _ (FL.all .nil) (HL.all (.cons AIv .nil));refine Aw hΓ Tryz.func101 ?_;conv=>whnf
 refine A4 (ι:=Nat) (fun i=>[(0, .imm a.b 1 a.n fun k=>Bl (a.bs k) (a.ls k)),(3, .int .i64 (Ey a.ls i:Nat)),(9, .imm a.b 1 a.n fun k=>Bl (a.bs k) (a.ls k)),(10, .int .i64 (a.n:Nat)),(11, .int .i64 (i:Nat))]) (fun i=>[]) (fun i=>i≤a.n) (fun i=>a.n - i) 0 [] ?_ (fun i hi=>vo hΓ ?_)
 ·conv=>whnf
  repeat' ((first|apply Ap<;>intro _|apply An)<;>conv=>whnf)
  all_goals try exact⟨Ah⟩
 ·have hbi:=hb i hi;conv=>whnf
  repeat' ((first|apply Ap<;>intro _|apply An)<;>conv=>whnf)
  all_goals(try simp only[decide_eq_true_eq,decide_eq_false_iff_not,Int.toNat_natCast,Bool.not_eq_true,Bool.not_eq_false]at*)
  all_goals try exact⟨Ah⟩
  ·rename_i h1 h2;have h3:=hl i (by omega);rw[A3 (by omega) (by omega)]at h2;omega
  ·have h3:=hl i (by omega);refine⟨i+1,[],?_⟩;conv=>whnf
   repeat' (apply An<;>conv=>whnf)
   all_goals try exact⟨Ah⟩
   ·exact⟨by rw[A3 (by omega) (by omega)];simp only[Ey];omega⟩
   ·exact⟨by rw[A3 (by omega) (by omega)];rfl⟩
  obtain rfl:i=a.n:=by omega
  refine vo hΓ ?_;conv=>whnf
  refine⟨rfl,?_⟩;refine vj rE ?_;conv=>whnf
  apply Ap<;>intro h1<;>conv=>whnf
  ·simp only[decide_eq_true_eq]at h1;omega
  have hN:Ey a.ls a.n≤1000000000:=by omega
  apply Ap<;>intro h2<;>conv=>whnf
  ·have e0:IntKind.i64.wrap ((Ey a.ls a.n:Nat) - IntKind.i64.wrap (0 - 0))=(Ey a.ls a.n:Nat):=by
    rw[show IntKind.i64.wrap (0 - 0)=0 from rfl,A3 (by omega) (by omega)];omega
   conv=>whnf
   repeat' ((first|apply Ap<;>intro _|apply An)<;>conv=>whnf)
   ·exact⟨⟨rfl,rfl,rfl⟩⟩
   ·refine⟨?_⟩;rw[e0];simp only[];omega
   ·refine⟨?_⟩;rw[e0];omega
   ·refine A4 (ι:=Nat) (fun i=>[(6, .sl 0 [] 1 0 (Ey a.ls i) (Ey a.ls a.n)),(25, .imm a.b 1 a.n fun k=>Bl (a.bs k) (a.ls k)),(26, .int .i64 (a.n:Nat)),(27, .int .i64 (i:Nat))]) (fun i=>[some (.row 1 (Ey a.ls a.n) (bf (M5 a.ls i)))]) (fun i=>i≤a.n) (fun i=>a.n - i) 0 [some 0] ?_ (fun i hi=>vo hΓ ?_)
    ·conv=>whnf
     repeat' ((first|apply Ap<;>intro _|apply An)<;>conv=>whnf)
     all_goals try exact⟨Ah⟩
     all_goals first
      |exact⟨⟨by rfl,by rfl,by rw[e0];omega⟩⟩
      |exact⟨by rw[e0];omega⟩
      |exact⟨⟨by rfl,by simp only[Ey]at*;omega⟩⟩
      |exact⟨⟨rfl,hz⟩⟩
      |exact⟨hz⟩
      |exact⟨by omega⟩
      |exact⟨fun k _=>A5 (show _=bf [] k from rfl) trivial⟩
    ·have hm:=T6 a.ls (i+1) a.n;conv=>whnf
     repeat' ((first|apply Ap<;>intro _|apply An)<;>conv=>whnf)
     all_goals(try simp only[decide_eq_true_eq,decide_eq_false_iff_not,Int.toNat_natCast,Bool.not_eq_true,Bool.not_eq_false]at*)
     all_goals try exact⟨Ah⟩
     ·refine Or.inr ?_;conv=>whnf
      repeat' ((first|apply Ap<;>intro _|apply An)<;>conv=>whnf)
      ·refine⟨⟨?_,?_⟩⟩
       ·have:=hm (by omega);simp only[Ey]at this;omega
       ·have:=hm (by omega);simp only[Ey]at this;omega
      refine⟨i+1,[some 0],?_⟩;conv=>whnf
      repeat' (apply An<;>conv=>whnf)
      all_goals try exact⟨Ah⟩
      ·exact⟨by rw[A3 (by omega) (by omega)];rfl⟩
      all_goals
       refine⟨fun k hk=>A5 ?_ trivial⟩;simp only[M5];rw[Jc,Fa]
       first|done|simp only[Nat.zero_add]
     refine vo hΓ ?_;conv=>whnf
     obtain rfl:i=a.n:=by omega
     conv=>whnf
     repeat' (apply An<;>conv=>whnf)
     ·exact⟨by omega⟩
     ·exact⟨fun k _=>Bg _ _⟩
     ·rw[Bl,Fa];exact Ld.imm fun k hk=>by rw[Nat.zero_add]
  ·have e0:IntKind.i64.wrap ((Ey a.ls a.n:Nat) - IntKind.i64.wrap (0 - 0))=(Ey a.ls a.n:Nat):=by
    rw[show IntKind.i64.wrap (0 - 0)=0 from rfl,A3 (by omega) (by omega)];omega
   have hz:Ey a.ls a.n=0:=by
    simp only[decide_eq_false_iff_not]at h2;rw[e0]at h2;omega
   conv=>whnf
   repeat' ((first|apply Ap<;>intro _|apply An)<;>conv=>whnf)
   refine A4 (ι:=Nat) (fun i=>[(6, .sl 0 [] 1 0 (Ey a.ls i) (Ey a.ls a.n)),(25, .imm a.b 1 a.n fun k=>Bl (a.bs k) (a.ls k)),(26, .int .i64 (a.n:Nat)),(27, .int .i64 (i:Nat))]) (fun i=>[some (.row 1 (Ey a.ls a.n) (bf (M5 a.ls i)))]) (fun i=>i≤a.n) (fun i=>a.n - i) 0 [none] ?_ (fun i hi=>vo hΓ ?_)
   ·conv=>whnf
    repeat' ((first|apply Ap<;>intro _|apply An)<;>conv=>whnf)
    all_goals try exact⟨Ah⟩
    all_goals first
     |exact⟨⟨by rfl,by rfl,by rw[e0];omega⟩⟩
     |exact⟨by rw[e0];omega⟩
     |exact⟨⟨by rfl,by simp only[Ey]at*;omega⟩⟩
     |exact⟨⟨rfl,hz⟩⟩
     |exact⟨hz⟩
     |exact⟨by omega⟩
     |exact⟨fun k _=>A5 (show _=bf [] k from rfl) trivial⟩
   ·have hm:=T6 a.ls (i+1) a.n;conv=>whnf
    repeat' ((first|apply Ap<;>intro _|apply An)<;>conv=>whnf)
    all_goals(try simp only[decide_eq_true_eq,decide_eq_false_iff_not,Int.toNat_natCast,Bool.not_eq_true,Bool.not_eq_false]at*)
    all_goals try exact⟨Ah⟩
    ·refine Or.inr ?_;conv=>whnf
     repeat' ((first|apply Ap<;>intro _|apply An)<;>conv=>whnf)
     ·refine⟨⟨?_,?_⟩⟩
      ·have:=hm (by omega);simp only[Ey]at this;omega
      ·have:=hm (by omega);simp only[Ey]at this;omega
     refine⟨i+1,[some 0],?_⟩;conv=>whnf
     repeat' (apply An<;>conv=>whnf)
     all_goals try exact⟨Ah⟩
     ·exact⟨by rw[A3 (by omega) (by omega)];rfl⟩
     all_goals
      refine⟨fun k hk=>A5 ?_ trivial⟩;simp only[M5];rw[Jc,Fa]
      first|done|simp only[Nat.zero_add]
    refine vo hΓ ?_;conv=>whnf
    obtain rfl:i=a.n:=by omega
    conv=>whnf
    repeat' (apply An<;>conv=>whnf)
    ·exact⟨by omega⟩
    ·exact⟨fun k _=>Bg _ _⟩
    ·rw[Bl,Fa];exact Ld.imm fun k hk=>by rw[Nat.zero_add]
def Bq(h:Nat→UInt32)(l:List UInt8):(Nat→UInt32)×List UInt8:=
 if 64≤l.length then Bq (Ho h (l.take 64)) (l.drop 64)else(h,l)
termination_by l.length
decreasing_by simp;omega
def Ac(n:Nat):Nat:=(119 - n%64)%64
def Vc(n k:Nat):UInt8:=UInt8.ofNat (n*8/2^(8*k))
def G7(n:Nat):Nat→List UInt8|0=>[]|k+1=>G7 n k++[Vc n (7 - k)]
def Cg(rest:List UInt8)(n:Nat):List UInt8:=rest++[128]++List.replicate (Ac rest.length) 0++G7 n 8
def Vd(h:Nat→UInt32)(k:Nat):UInt8:=UInt8.ofNat (h (k/4)>>>UInt32.ofNat (24 - 8*(k%4))).toNat
def Og(h:Nat→UInt32):List UInt8:=(List.range 32).map (Vd h)
def oZ(h:Nat→UInt32)(rest:List UInt8)(n:Nat):List UInt8:=Og (Bq h (Cg rest n)).1
def qB(h:Nat→UInt32)(rest:List UInt8)(n:Nat):V:= .st (.cons (.row 1 8 (wV h)) (.cons (Bl false rest) (.cons (.int .i64 (n:Nat)) .nil)))
structure Sh where
 h:Nat→UInt32
 rest:List UInt8
 n:Nat
theorem eW:Aj Tryz.prog (Ka Tryz.f46.ntmps [] []):=Ad Tryz.f46.ntmps [] [] (FL.all .nil) (HL.all .nil)
def S88:Ai:=fun xs h κ=>xs.length=1∧B4 Tryz.prog (Ka Tryz.f46.ntmps [] []) (Bd Tryz.f46) Tryz.f46.results.toList xs h κ
theorem qA:Af Tryz.prog [] 46 S88:=Q6 1 eW Tryz.func46
def F53:A7:=Iq (fun(a:Sh)=>[.pim true (qB a.h a.rest a.n)]) (fun a=>a.rest.length<64∧a.n≤1000000) (fun a=>arrV 32 (oZ a.h a.rest a.n))
theorem Q5(l m:List UInt8){k:Nat}(h:k<l.length):bf (l++m) k=bf l k:=by
 rw[Jc,if_neg (by omega)]
theorem jJ(l:List UInt8)(c:UInt8)(m:List UInt8):bf (l++c::m) l.length= .int .u8 (c.toNat:Nat):=by
 simp[bf,List.getD_eq_getElem?_getD]
theorem T4(l:List UInt8)(c:UInt8)(m:List UInt8){n:Nat}(h:n=l.length):bf (l++c::m) n= .int .u8 (c.toNat:Nat):=h▸jJ l c m
theorem Fj(i:Nat):List.replicate (i+1) (0:UInt8)=List.replicate i 0++[0]:=List.replicate_succ'
theorem Co(n:Nat):∀k,(G7 n k).length=k
 |0=>rfl
 |k+1=>by simp[G7,Co n k]
theorem lJ{n i:Nat}(hn:n≤1000000)(hi:i≤7):IntKind.u8.wrap (Bt .u64 (Ch .u64 (IntKind.u64.wrap (n:Nat)) 3) (IntKind.i64.wrap (8*(7 - (i:Int)))))=((Vc n (7 - i)).toNat:Nat):=by
 have h1:IntKind.u64.wrap (n:Nat)=(n:Nat):=by rw[IntKind.wrap_u64];omega
 have h2:Ch .u64 (n:Nat) 3=((n*8:Nat):Int):=by
  simp only[Ch,IntKind.bits];rw[IntKind.wrap_u64]
  have:min (Int.toNat 3) 64=3:=by decide
  rw[this];omega
 have h3:(IntKind.i64.wrap (8*(7 - (i:Int)))).toNat=8*(7 - i):=by rw[IntKind.wrap_i64];omega
 rw[h1,h2];simp only[Bt,h3,IntKind.bits];rw[Nat.min_eq_left (by omega),Int.fdiv_eq_ediv_of_nonneg _ (by exact Int.le_of_lt (Int.pow_pos (by decide))),IntKind.wrap_u8,Vc,UInt8.toNat_ofNat']
 have:(((n*8:Nat):Int)/2^(8*(7 - i)))=((n*8/2^(8*(7 - i)):Nat):Int):=by simp
 rw[this];omega
def Hy(h:Nat→UInt32)(l:List UInt8):Nat→Nat→UInt32|0=>h|j+1=>Ho (Hy h l j) ((l.drop (64*j)).take 64)
theorem bC(h:Nat→UInt32)(l:List UInt8):∀j,64*j≤l.length→Bq h l=Bq (Hy h l j) (l.drop (64*j))
 |0,_=>rfl
 |j+1,hj=>by
  rw[bC h l j (by omega),Bq,if_pos (by simp;omega),List.drop_drop];rfl
theorem Qc(h:Nat→UInt32)(l:List UInt8)(q:Nat)(hq:l.length=64*q):(Bq h l).1=Hy h l q:=by
 rw[bC h l q (by omega),List.drop_eq_nil_of_le (by omega),Bq];rfl
theorem Ck(rest:List UInt8)(n:Nat):(Cg rest n).length=rest.length+1+Ac rest.length+8:=by
 simp[Cg,Co];omega
theorem Ps(h:Nat→UInt32){k:Nat}(hk:k<32):bf (Og h) k= .int .u8 ((Vd h k).toNat:Nat):=by
 simp[bf,Og,List.getD_eq_getElem?_getD,hk]
def ob(h:Nat→UInt32)(j k:Nat):UInt8:=if k<j then Vd h k else 0
theorem AMj:FOk Tryz.prog [] 146 F53:=Fz fun⟨h,rest,n⟩ ⟨hr,hn⟩=>by
 show CP _ _ _ [.pim true (qB h rest n)] fun v=>Ld v (arrV 32 (oZ h rest n))
 replace hr:rest.length<64:=hr;replace hn:n≤1000000:=hn;have hΓ:=Ad Tryz.f146.ntmps _ _ (FL.all (.cons fW .nil)) (HL.all (.cons qA .nil));refine Aw hΓ Tryz.func146 ?_;conv=>whnf
 refine⟨rfl,?_⟩;refine vj eW ?_;conv=>whnf
 intro b hb;conv=>whnf
 apply Ap<;>intro h1<;>conv=>whnf
 ·have hl:rest.length=0:=hb h1;conv=>whnf
  repeat' ((first|apply Ap<;>intro _|apply An)<;>conv=>whnf)
  all_goals try exact⟨Ah⟩
  refine Or.inl ?_;conv=>whnf
  repeat' ((first|apply Ap<;>intro _|apply An)<;>conv=>whnf)
  all_goals try first|exact⟨Ah⟩|exact⟨⟨by simp only[];omega,by omega⟩⟩
  have hzl:Ac rest.length<64:=Nat.mod_lt _ (by decide);refine A4 (ι:=Nat) (fun i=>[(0, .pim true (qB h rest n)),(2, .ref 0 []),(3, .sl 1 [] 1 0 (rest.length+1+i) (rest.length+1+i))]) (fun i=>[some (.row 1 32 (bf [])),some (.row 1 (rest.length+1+i) (bf (rest++[128]++List.replicate i 0)))]) (fun i=>i≤Ac rest.length) (fun i=>Ac rest.length - i) 0 [some 0,some 2] ?_ (fun i hi=>vo hΓ ?_)
  ·conv=>whnf
   repeat' ((first|apply Ap<;>intro _|apply An)<;>conv=>whnf)
   all_goals try exact⟨Ah⟩
   ·refine⟨?_⟩;refine Db (i:=rest.length) ?_ ?_ fun k _=>trivial
    ·intro k hk;simp only[List.replicate_zero,List.append_nil];rw[Q5 _ _ hk];exact absurd hk (by omega)
    ·simp only[List.replicate_zero,List.append_nil];rw[jJ];rw[hl];rfl
  ·conv=>whnf
   repeat' ((first|apply Ap<;>intro _|apply An)<;>conv=>whnf)
   all_goals try exact⟨Ah⟩
   ·refine Or.inl ?_;conv=>whnf
    repeat' ((first|apply Ap<;>intro _|apply An)<;>conv=>whnf)
    all_goals try first|exact⟨Ah⟩|exact⟨⟨by simp only[];omega,by omega⟩⟩
    rename_i hne;simp only[Ac]at hi hzl
    have hi2:i<Ac rest.length:=by
     rcases Nat.lt_or_ge i (Ac rest.length)with h1|h1
     ·exact h1
     ·exfalso;simp only[Ac]at h1;simp only[bne_iff_ne,ne_eq]at hne
      apply hne
      rw[Int.tmod_eq_emod_of_nonneg (by omega)];omega
    refine⟨i+1,[some 0,some 3],?_⟩;conv=>whnf
    repeat' (apply An<;>conv=>whnf)
    all_goals try exact⟨Ah⟩
    ·refine⟨?_⟩;refine Db (i:=rest.length+1+i) ?_ ?_ fun k _=>trivial
     ·intro k hk;refine(if_pos hk).trans ?_;rw[Fj,←List.append_assoc];exact(Q5 _ _ (by simp;omega)).symm
     ·rw[Fj,←List.append_assoc,T4 _ _ _ (by simp;omega)];exact(if_neg (Nat.lt_irrefl _)).trans (by rw[Nat.sub_self];rfl)
   refine vo hΓ ?_;conv=>whnf
   obtain rfl:i=Ac rest.length:=by
    rename_i hne
    rcases Nat.lt_or_ge i (Ac rest.length)with h1|h1
    ·exfalso;simp only[Ac]at h1;simp only[bne_eq_false_iff_eq]at hne;rw[Int.tmod_eq_emod_of_nonneg (by omega)]at hne;omega
    ·omega
   refine A4 (ι:=Nat) (fun i=>[(0, .pim true (qB h rest n)),(2, .ref 0 []),(3, .sl 1 [] 1 0 (rest.length+1+Ac rest.length+i) (rest.length+1+Ac rest.length+i)),(4, .int .i64 (7 - (i:Nat)))]) (fun i=>[some (.row 1 32 (bf [])),some (.row 1 (rest.length+1+Ac rest.length+i) (bf (rest++[128]++List.replicate (Ac rest.length) 0++G7 n i)))]) (fun i=>i≤8) (fun i=>8 - i) 0 [some 0,some 1] ?_ (fun i hi=>vo hΓ ?_)
   ·conv=>whnf
    repeat' ((first|apply Ap<;>intro _|apply An)<;>conv=>whnf)
    all_goals try first|exact⟨Ah⟩|exact⟨fun k _=>A5 (by simp only[G7,List.append_nil]) trivial⟩
   ·conv=>whnf
    repeat' ((first|apply Ap<;>intro _|apply An)<;>conv=>whnf)
    all_goals(try simp only[decide_eq_true_eq,decide_eq_false_iff_not,Int.toNat_natCast,Bool.not_eq_true,Bool.not_eq_false]at*)
    all_goals try exact⟨Ah⟩
    ·exact⟨by rw[A3 (by omega) (by omega)];omega⟩
    ·refine Or.inl ?_;conv=>whnf
     repeat' ((first|apply Ap<;>intro _|apply An)<;>conv=>whnf)
     all_goals try first|exact⟨Ah⟩|exact⟨⟨by simp only[];omega,by omega⟩⟩
     refine⟨i+1,[some 0,some 3],?_⟩;conv=>whnf
     repeat' (apply An<;>conv=>whnf)
     all_goals try exact⟨Ah⟩
     ·exact⟨by rw[A3 (by omega) (by omega)];omega⟩
     ·refine⟨?_⟩;refine Db (i:=rest.length+1+Ac rest.length+i) ?_ ?_ fun k _=>trivial
      ·intro k hk;refine(if_pos hk).trans ?_;simp only[G7];rw[←List.append_assoc];exact(Q5 _ _ (by simp[Co];omega)).symm
      ·simp only[G7];rw[←List.append_assoc,T4 _ _ _ (by simp[Co];omega),←lJ hn (by omega)];exact(if_neg (Nat.lt_irrefl _)).trans (by rw[Nat.sub_self];rfl)
    refine vo hΓ ?_;conv=>whnf
    obtain rfl:i=8:=by omega
    refine vo hΓ ?_;conv=>whnf
    have Ar:=Ck rest n;generalize hL:Cg rest n=L at Ar;have hL':rest++[128]++List.replicate (Ac rest.length) 0++G7 n 8=L:=hL;obtain⟨q,hq⟩:∃q,L.length=64*q:=⟨L.length/64,by simp only[Ac]at Ar;omega⟩;have hq2:q≤3:=by simp only[Ac]at Ar;omega
    refine A4 (ι:=Nat) (fun j=>[(2, .ref 0 []),(3, .sl 1 [] 1 (64*j) (64*q - 64*j) (64*q - 64*j)),(5, .ref 2 [])]) (fun j=>[some (.row 1 32 (bf [])),some (.row 1 (64*q) (bf L)),some (.row 1 8 (wV (Hy h L j)))]) (fun j=>j≤q) (fun j=>q - j) 0 [some 0,some 1,some 2] ?_ (fun i hi=>vo hΓ ?_)
    ·conv=>whnf
     repeat' ((first|apply Ap<;>intro _|apply An)<;>conv=>whnf)
     all_goals try exact⟨Ah⟩
     exact⟨fun k _=>A5 (by rw[hL']) trivial⟩
    ·conv=>whnf
     repeat' ((first|apply Ap<;>intro _|apply An)<;>conv=>whnf)
     all_goals(try simp only[decide_eq_true_eq,decide_eq_false_iff_not,Int.toNat_natCast,Bool.not_eq_true,Bool.not_eq_false]at*)
     all_goals try exact⟨Ah⟩
     ·have e0:bytesOf (Int.toNat 64 - Int.toNat 0) (fun k=>bf L (64*i+Int.toNat 0+k))=(L.drop (64*i)).take 64:=Em L (64*i) 64 (by omega);refine⟨(_, .imm _ _ _),rfl,⟨fun k hk=>Dz _ _,?_⟩,?_⟩
      ·simp only[By.l,Eb];rfl
      conv=>whnf
      repeat' ((first|apply Ap<;>intro _|apply An)<;>conv=>whnf)
      all_goals try exact⟨Ah⟩
      refine⟨i+1,[some 0,some 1,some 2],?_⟩;conv=>whnf
      repeat' (apply An<;>conv=>whnf)
      all_goals try exact⟨Bc⟩
      ·exact⟨fun k _=>Aa _ trivial⟩
      ·exact⟨fun k _=>Aa _ trivial⟩
      ·refine⟨fun k hk=>A5 ?_ trivial⟩;simp only[By.l,Hy];rw[e0]
     obtain rfl:q=i:=by omega
     refine vo hΓ ?_;conv=>whnf
     refine A4 (ι:=Nat) (fun j=>[(2, .ref 0 []),(5, .ref 1 []),(6, .ref 2 []),(52, .int .i64 (j:Nat))]) (fun j=>[some (.row 1 32 (bf [])),some (.row 1 8 (wV (Hy h L q))),some (.row 1 32 (fun k=> .int .u8 ((ob (Hy h L q) j k).toNat:Nat)))]) (fun j=>j≤32) (fun j=>32 - j) 0 [some 0,some 2,some 3] ?_ (fun i hi=>vo hΓ ?_)
     ·conv=>whnf
      repeat' ((first|apply Ap<;>intro _|apply An)<;>conv=>whnf)
      all_goals try first|exact⟨Bc⟩|exact⟨fun k _=>Aa _ trivial⟩
     ·have t1:IntKind.i64.wrap ((i:Int).tdiv 4)=((i/4:Nat):Int):=by rw[Int.tdiv_eq_ediv_of_nonneg (by omega),A3 (by omega) (by omega)];omega
      have t2:IntKind.i64.wrap (24 - IntKind.i64.wrap (8*(i:Int).tmod 4))=((24 - 8*(i%4):Nat):Int):=by
       rw[Int.tmod_eq_emod_of_nonneg (by omega),A3 (x:=8*_) (by omega) (by omega),A3 (by omega) (by omega)];omega
      conv=>whnf
      repeat' ((first|apply Ap<;>intro _|apply An)<;>conv=>whnf)
      all_goals(try simp only[decide_eq_true_eq,decide_eq_false_iff_not,Int.toNat_natCast,Bool.not_eq_true,Bool.not_eq_false]at*)
      ·exact⟨by decide⟩
      ·exact⟨by rw[t1];omega⟩
      ·exact⟨by rw[t1];omega⟩
      ·exact⟨by decide⟩
      ·exact⟨by rw[t2];omega⟩
      ·exact⟨by omega⟩
      ·exact⟨by omega⟩
      ·refine⟨i+1,[some 0,some 1,some 2],?_⟩;conv=>whnf
       repeat' (apply An<;>conv=>whnf)
       all_goals try first|exact⟨Bc⟩|exact⟨fun k _=>Aa _ trivial⟩
       ·exact⟨by rw[A3 (by omega) (by omega)];rfl⟩
       refine⟨fun k hk=>A5 ?_ trivial⟩
       by_cases hki:k=i
       ·refine(if_pos hki).trans ?_
        show V.int .u8 _=V.int .u8 ((ob (Hy h L q) (i+1) k).toNat:Nat)
        rw[t1,t2,Int.toNat_natCast,Q8 _ _ (by omega),hki,ob,if_pos (by omega),Vd,UInt8.toNat_ofNat',IntKind.wrap_u8]
        congr 1
       ·refine(if_neg hki).trans ?_;simp only[ob]
        by_cases hk2:k<i
        ·rw[if_pos hk2,if_pos (by omega)]
        ·rw[if_neg hk2,if_neg (by omega)]
      refine vo hΓ ?_;conv=>whnf
      repeat' (apply An<;>conv=>whnf)
      ·exact⟨fun k _=>trivial⟩
      refine Ld.row fun k hk=>?_;rw[oZ,hL,Ps _ hk,Qc _ _ _ hq,ob,if_pos (by omega)]
 ·refine Or.inl ?_;conv=>whnf
  repeat' ((first|apply Ap<;>intro _|apply An)<;>conv=>whnf)
  all_goals try first|exact⟨Ah⟩|exact⟨⟨by simp only[];omega,by omega⟩⟩
  refine Or.inl ?_;conv=>whnf
  repeat' ((first|apply Ap<;>intro _|apply An)<;>conv=>whnf)
  all_goals try first|exact⟨Ah⟩|exact⟨⟨by simp only[];omega,by omega⟩⟩
  have hzl:Ac rest.length<64:=Nat.mod_lt _ (by decide);refine A4 (ι:=Nat) (fun i=>[(0, .pim true (qB h rest n)),(2, .ref 0 []),(3, .sl 1 [] 1 0 (rest.length+1+i) (rest.length+1+i))]) (fun i=>[some (.row 1 32 (bf [])),some (.row 1 (rest.length+1+i) (bf (rest++[128]++List.replicate i 0)))]) (fun i=>i≤Ac rest.length) (fun i=>Ac rest.length - i) 0 [some 0,some 4] ?_ (fun i hi=>vo hΓ ?_)
  ·conv=>whnf
   repeat' ((first|apply Ap<;>intro _|apply An)<;>conv=>whnf)
   all_goals try exact⟨Ah⟩
   ·refine⟨?_⟩;refine Db (i:=rest.length) ?_ ?_ fun k _=>trivial
    ·intro k hk;simp only[List.replicate_zero,List.append_nil];rw[Q5 _ _ hk];exact(if_pos (by omega)).trans (if_neg (Nat.not_lt_zero _))
    ·simp only[List.replicate_zero,List.append_nil];rw[jJ];exact(if_neg (by omega)).trans (by rw[show rest.length - (0+rest.length)=0 by omega];rfl)
  ·conv=>whnf
   repeat' ((first|apply Ap<;>intro _|apply An)<;>conv=>whnf)
   all_goals try exact⟨Ah⟩
   ·refine Or.inl ?_;conv=>whnf
    repeat' ((first|apply Ap<;>intro _|apply An)<;>conv=>whnf)
    all_goals try first|exact⟨Ah⟩|exact⟨⟨by simp only[];omega,by omega⟩⟩
    rename_i hne;simp only[Ac]at hi hzl
    have hi2:i<Ac rest.length:=by
     rcases Nat.lt_or_ge i (Ac rest.length)with h1|h1
     ·exact h1
     ·exfalso;simp only[Ac]at h1;simp only[bne_iff_ne,ne_eq]at hne
      apply hne
      rw[Int.tmod_eq_emod_of_nonneg (by omega)];omega
    refine⟨i+1,[some 0,some 3],?_⟩;conv=>whnf
    repeat' (apply An<;>conv=>whnf)
    all_goals try exact⟨Ah⟩
    ·refine⟨?_⟩;refine Db (i:=rest.length+1+i) ?_ ?_ fun k _=>trivial
     ·intro k hk;refine(if_pos hk).trans ?_;rw[Fj,←List.append_assoc];exact(Q5 _ _ (by simp;omega)).symm
     ·rw[Fj,←List.append_assoc,T4 _ _ _ (by simp;omega)];exact(if_neg (Nat.lt_irrefl _)).trans (by rw[Nat.sub_self];rfl)
   refine vo hΓ ?_;conv=>whnf
   obtain rfl:i=Ac rest.length:=by
    rename_i hne
    rcases Nat.lt_or_ge i (Ac rest.length)with h1|h1
    ·exfalso;simp only[Ac]at h1;simp only[bne_eq_false_iff_eq]at hne;rw[Int.tmod_eq_emod_of_nonneg (by omega)]at hne;omega
    ·omega
   refine A4 (ι:=Nat) (fun i=>[(0, .pim true (qB h rest n)),(2, .ref 0 []),(3, .sl 1 [] 1 0 (rest.length+1+Ac rest.length+i) (rest.length+1+Ac rest.length+i)),(4, .int .i64 (7 - (i:Nat)))]) (fun i=>[some (.row 1 32 (bf [])),some (.row 1 (rest.length+1+Ac rest.length+i) (bf (rest++[128]++List.replicate (Ac rest.length) 0++G7 n i)))]) (fun i=>i≤8) (fun i=>8 - i) 0 [some 0,some 1] ?_ (fun i hi=>vo hΓ ?_)
   ·conv=>whnf
    repeat' ((first|apply Ap<;>intro _|apply An)<;>conv=>whnf)
    all_goals try first|exact⟨Ah⟩|exact⟨fun k _=>A5 (by simp only[G7,List.append_nil]) trivial⟩
   ·conv=>whnf
    repeat' ((first|apply Ap<;>intro _|apply An)<;>conv=>whnf)
    all_goals(try simp only[decide_eq_true_eq,decide_eq_false_iff_not,Int.toNat_natCast,Bool.not_eq_true,Bool.not_eq_false]at*)
    all_goals try exact⟨Ah⟩
    ·exact⟨by rw[A3 (by omega) (by omega)];omega⟩
    ·refine Or.inl ?_;conv=>whnf
     repeat' ((first|apply Ap<;>intro _|apply An)<;>conv=>whnf)
     all_goals try first|exact⟨Ah⟩|exact⟨⟨by simp only[];omega,by omega⟩⟩
     refine⟨i+1,[some 0,some 3],?_⟩;conv=>whnf
     repeat' (apply An<;>conv=>whnf)
     all_goals try exact⟨Ah⟩
     ·exact⟨by rw[A3 (by omega) (by omega)];omega⟩
     ·refine⟨?_⟩;refine Db (i:=rest.length+1+Ac rest.length+i) ?_ ?_ fun k _=>trivial
      ·intro k hk;refine(if_pos hk).trans ?_;simp only[G7];rw[←List.append_assoc];exact(Q5 _ _ (by simp[Co];omega)).symm
      ·simp only[G7];rw[←List.append_assoc,T4 _ _ _ (by simp[Co];omega),←lJ hn (by omega)];exact(if_neg (Nat.lt_irrefl _)).trans (by rw[Nat.sub_self];rfl)
    refine vo hΓ ?_;conv=>whnf
    obtain rfl:i=8:=by omega
    refine vo hΓ ?_;conv=>whnf
    have Ar:=Ck rest n;generalize hL:Cg rest n=L at Ar;have hL':rest++[128]++List.replicate (Ac rest.length) 0++G7 n 8=L:=hL;obtain⟨q,hq⟩:∃q,L.length=64*q:=⟨L.length/64,by simp only[Ac]at Ar;omega⟩;have hq2:q≤3:=by simp only[Ac]at Ar;omega
    refine A4 (ι:=Nat) (fun j=>[(2, .ref 0 []),(3, .sl 1 [] 1 (64*j) (64*q - 64*j) (64*q - 64*j)),(5, .ref 2 [])]) (fun j=>[some (.row 1 32 (bf [])),some (.row 1 (64*q) (bf L)),some (.row 1 8 (wV (Hy h L j)))]) (fun j=>j≤q) (fun j=>q - j) 0 [some 0,some 1,some 2] ?_ (fun i hi=>vo hΓ ?_)
    ·conv=>whnf
     repeat' ((first|apply Ap<;>intro _|apply An)<;>conv=>whnf)
     all_goals try exact⟨Ah⟩
     exact⟨fun k _=>A5 (by rw[hL']) trivial⟩
    ·conv=>whnf
     repeat' ((first|apply Ap<;>intro _|apply An)<;>conv=>whnf)
     all_goals(try simp only[decide_eq_true_eq,decide_eq_false_iff_not,Int.toNat_natCast,Bool.not_eq_true,Bool.not_eq_false]at*)
     all_goals try exact⟨Ah⟩
     ·have e0:bytesOf (Int.toNat 64 - Int.toNat 0) (fun k=>bf L (64*i+Int.toNat 0+k))=(L.drop (64*i)).take 64:=Em L (64*i) 64 (by omega);refine⟨(_, .imm _ _ _),rfl,⟨fun k hk=>Dz _ _,?_⟩,?_⟩
      ·simp only[By.l,Eb];rfl
      conv=>whnf
      repeat' ((first|apply Ap<;>intro _|apply An)<;>conv=>whnf)
      all_goals try exact⟨Ah⟩
      refine⟨i+1,[some 0,some 1,some 2],?_⟩;conv=>whnf
      repeat' (apply An<;>conv=>whnf)
      all_goals try exact⟨Bc⟩
      ·exact⟨fun k _=>Aa _ trivial⟩
      ·exact⟨fun k _=>Aa _ trivial⟩
      ·refine⟨fun k hk=>A5 ?_ trivial⟩;simp only[By.l,Hy];rw[e0]
     obtain rfl:q=i:=by omega
     refine vo hΓ ?_;conv=>whnf
     refine A4 (ι:=Nat) (fun j=>[(2, .ref 0 []),(5, .ref 1 []),(6, .ref 2 []),(52, .int .i64 (j:Nat))]) (fun j=>[some (.row 1 32 (bf [])),some (.row 1 8 (wV (Hy h L q))),some (.row 1 32 (fun k=> .int .u8 ((ob (Hy h L q) j k).toNat:Nat)))]) (fun j=>j≤32) (fun j=>32 - j) 0 [some 0,some 2,some 3] ?_ (fun i hi=>vo hΓ ?_)
     ·conv=>whnf
      repeat' ((first|apply Ap<;>intro _|apply An)<;>conv=>whnf)
      all_goals try first|exact⟨Bc⟩|exact⟨fun k _=>Aa _ trivial⟩
     ·have t1:IntKind.i64.wrap ((i:Int).tdiv 4)=((i/4:Nat):Int):=by rw[Int.tdiv_eq_ediv_of_nonneg (by omega),A3 (by omega) (by omega)];omega
      have t2:IntKind.i64.wrap (24 - IntKind.i64.wrap (8*(i:Int).tmod 4))=((24 - 8*(i%4):Nat):Int):=by
       rw[Int.tmod_eq_emod_of_nonneg (by omega),A3 (x:=8*_) (by omega) (by omega),A3 (by omega) (by omega)];omega
      conv=>whnf
      repeat' ((first|apply Ap<;>intro _|apply An)<;>conv=>whnf)
      all_goals(try simp only[decide_eq_true_eq,decide_eq_false_iff_not,Int.toNat_natCast,Bool.not_eq_true,Bool.not_eq_false]at*)
      ·exact⟨by decide⟩
      ·exact⟨by rw[t1];omega⟩
      ·exact⟨by rw[t1];omega⟩
      ·exact⟨by decide⟩
      ·exact⟨by rw[t2];omega⟩
      ·exact⟨by omega⟩
      ·exact⟨by omega⟩
      ·refine⟨i+1,[some 0,some 1,some 2],?_⟩;conv=>whnf
       repeat' (apply An<;>conv=>whnf)
       all_goals try first|exact⟨Bc⟩|exact⟨fun k _=>Aa _ trivial⟩
       ·exact⟨by rw[A3 (by omega) (by omega)];rfl⟩
       refine⟨fun k hk=>A5 ?_ trivial⟩
       by_cases hki:k=i
       ·refine(if_pos hki).trans ?_
        show V.int .u8 _=V.int .u8 ((ob (Hy h L q) (i+1) k).toNat:Nat)
        rw[t1,t2,Int.toNat_natCast,Q8 _ _ (by omega),hki,ob,if_pos (by omega),Vd,UInt8.toNat_ofNat',IntKind.wrap_u8]
        congr 1
       ·refine(if_neg hki).trans ?_;simp only[ob]
        by_cases hk2:k<i
        ·rw[if_pos hk2,if_pos (by omega)]
        ·rw[if_neg hk2,if_neg (by omega)]
      refine vo hΓ ?_;conv=>whnf
      repeat' (apply An<;>conv=>whnf)
      ·exact⟨fun k _=>trivial⟩
      refine Ld.row fun k hk=>?_;rw[oZ,hL,Ps _ hk,Qc _ _ _ hq,ob,if_pos (by omega)]
def sha(l:List UInt8):List UInt8:=oZ (Bq (gw Jt) l).1 (Bq (gw Jt) l).2 l.length
theorem yU:Aj Tryz.prog (Ka Tryz.f144.ntmps [(196,F85)] []):=Ad Tryz.f144.ntmps [(196,F85)] [] (FL.all (.cons AMu .nil)) (HL.all .nil)
def S51:Ai:=fun xs h κ=>xs.length=0∧B4 Tryz.prog (Ka Tryz.f144.ntmps [(196,F85)] []) (Bd Tryz.f144) Tryz.f144.results.toList xs h κ
theorem AO8:Af Tryz.prog [] 144 S51:=Q6 0 yU Tryz.func144
theorem eS:Aj Tryz.prog (Ka Tryz.f145.ntmps [(101,F86),(197,F87),(46,F88)] []):=Ad Tryz.f145.ntmps [(101,F86),(197,F87),(46,F88)] [] (FL.all (.cons oT (.cons fW (.cons oU .nil)))) (HL.all .nil)
def S52:Ai:=fun xs h κ=>xs.length=2∧B4 Tryz.prog (Ka Tryz.f145.ntmps [(101,F86),(197,F87),(46,F88)] []) (Bd Tryz.f145) Tryz.f145.results.toList xs h κ
theorem AO9:Af Tryz.prog [] 145 S52:=Q6 2 eS Tryz.func145
theorem Ci(l:List UInt8)(n k:Nat):bf (l.drop n) k=bf l (n+k):=by
 simp[bf,List.getD_eq_getElem?_getD]
def F21:A7:=Iq (fun(a:By)=>[a.v]) pR (fun a=>arrV 32 (sha a.l))
theorem AA0:FOk Tryz.prog [] 100 F21:=Fz fun a ⟨ha,hn⟩=>by
 refine CP.by1 ha ?_;generalize a.l=l at hn;have hΓ:=Ad Tryz.f100.ntmps _ _ (FL.all (.cons AMj .nil)) (HL.all (.cons AO8 (.cons AO9 .nil)));refine Aw hΓ Tryz.func100 ?_;conv=>whnf
 refine⟨rfl,?_⟩;refine vj yU ?_;conv=>whnf
 refine⟨(),rfl,⟨trivial⟩,?_⟩;conv=>whnf
 refine⟨rfl,?_⟩;refine vj eS ?_;conv=>whnf
 repeat' ((first|apply Ap<;>intro _|apply An)<;>conv=>whnf)
 all_goals try exact⟨Ah⟩
 ·refine⟨A0 ?_ (A0 ?_ A9)⟩<;>exact trivial
 refine⟨⟨true,2,_,fun k=>a.b,fun k=>if k=0 then[]else l⟩,rfl,⟨by show 2≤1000;omega,?_,?_⟩,?_⟩
 ·refine A0 ?_ (A0 ?_ A9)
  ·simpa using hn
  ·simp
 ·refine A0 ?_ (A0 ?_ A9)
  ·exact .inl rfl
  ·exact .inr ⟨rfl,rfl⟩
 have hcat:M5 (fun k=>if k=0 then[]else l) 2=l:=by simp[M5]
 conv=>whnf
 repeat' ((first|apply Ap<;>intro _|apply An)<;>conv=>whnf)
 refine A4 (ι:=(Nat→UInt32)×List UInt8) (fun x=>[(0, .ref 1 []),(4,Bl false x.2)]) (fun x=>[some (.row 1 32 (bf [])),some (qB x.1 [] l.length)]) (fun x=>x.2.length≤1000000∧Bq x.1 x.2=Bq (gw Jt) l) (fun x=>x.2.length) (gw Jt,l) [some 0,some 1] ?_ (fun i hi=>vj eS ?_)
 ·conv=>whnf
  repeat' ((first|apply Ap<;>intro _|apply An)<;>conv=>whnf)
  all_goals try first|exact⟨Ah⟩|exact⟨fun k _=>Aa _ trivial⟩
  all_goals try exact⟨⟨hn,rfl⟩⟩
  exact⟨by rw[A3 (by omega) (by omega)];omega⟩
 ·obtain⟨h,r⟩:=i;obtain⟨hr,he⟩:r.length≤1000000∧Bq h r=Bq (gw Jt) l:=hi;conv=>whnf
  repeat' ((first|apply Ap<;>intro _|apply An)<;>conv=>whnf)
  all_goals(try simp only[decide_eq_true_eq,decide_eq_false_iff_not,Int.toNat_natCast,Bool.not_eq_true,Bool.not_eq_false]at*)
  all_goals try exact⟨Bc⟩
  ·exact⟨fun _ _=>trivial⟩
  ·have e0:bytesOf (Int.toNat 64 - Int.toNat 0) (fun k=>bf r (Int.toNat 0+k))=r.take 64:=Em r 0 64 (by omega);refine⟨(_, .imm _ _ _),rfl,⟨fun k hk=>Dz _ _,?_⟩,?_⟩
   ·simp only[By.l,Eb];rfl
   conv=>whnf
   repeat' ((first|apply Ap<;>intro _|apply An)<;>conv=>whnf)
   all_goals try exact⟨Bc⟩
   refine⟨(Ho h (r.take 64),r.drop 64),[some 0,some 1],?_⟩;conv=>whnf
   repeat' ((first|apply Ap<;>intro _|apply An)<;>conv=>whnf)
   all_goals try exact⟨Bc⟩
   ·exact⟨by simp⟩
   ·exact⟨fun k _=>(Ci r 64 k).symm⟩
   ·exact⟨fun k _=>Aa _ trivial⟩
   ·refine⟨fun k hk=>A5 ?_ trivial⟩;simp only[By.l];rw[e0]
   ·exact⟨fun _ _=>rfl⟩
   ·refine⟨⟨⟨by simp;omega,?_⟩,by simp;omega⟩⟩;rw[←he,Bq.eq_1 h r,if_pos (by omega)]
  refine vj eS ?_;conv=>whnf
  refine⟨.of _ _,rfl,⟨trivial,hr⟩,?_⟩;conv=>whnf
  repeat' ((first|apply Ap<;>intro _|apply An)<;>conv=>whnf)
  all_goals try exact⟨Bc⟩
  ·exact⟨⟨⟨fun _ _=>trivial,trivial,trivial,trivial⟩,fun h=>nomatch h⟩⟩
  refine⟨⟨h,r,l.length⟩,rfl,⟨by show r.length<64;omega,hn⟩,?_⟩;have he2:Bq h r=(h,r):=by rw[Bq,if_neg (by omega)]
  conv=>whnf
  repeat' ((first|apply Ap<;>intro _|apply An)<;>conv=>whnf)
  all_goals try exact⟨Bc⟩
  ·exact⟨fun _ _=>trivial⟩
  refine Ld.of ?_;rw[sha,←he,he2];rfl
def U5(i:Nat)(l:List UInt8):V:= .sl i [] 1 0 l.length l.length
def G1(l:List UInt8):V:= .row 1 l.length (bf l)
theorem Oo(l:List UInt8):Hf (G1 l):=by
 simp only[G1,Hf];exact fun k _=>trivial
def H88:Ai:=L8 (fun(l:List UInt8)=>[U5 0 l]) (fun l=>[some (G1 l)]) (fun l=>l.length≤1000000) (fun l=>U5 1 l) (fun l=>[some (G1 l),some (G1 l)])
theorem AN4:Af Tryz.prog [] 46 H88:=Cq qA (fun l κ hn h=>by
 refine⟨rfl,?_⟩;refine vj eW ?_;conv=>whnf
 intro b hb;conv=>whnf
 apply Ap<;>intro h1<;>conv=>whnf
 ·have hl:l.length=0:=hb h1;refine⟨[some 0,none],U5 1 l,[some (G1 l),some (G1 l)],?_⟩;conv=>whnf
  repeat' (apply An<;>conv=>whnf)
  all_goals try exact⟨Ah⟩
  exact h
 ·refine And.intro (show Ob (_≤_)from⟨by omega⟩) ?_;conv=>whnf
  refine Or.inl ?_;conv=>whnf
  repeat' ((first|apply Ap<;>intro _|apply An)<;>conv=>whnf)
  all_goals try first|exact⟨Ah⟩|exact⟨⟨by simp only[];omega,by omega⟩⟩
  refine⟨[some 0,some 2],U5 1 l,[some (G1 l),some (G1 l)],?_⟩;conv=>whnf
  repeat' (apply An<;>conv=>whnf)
  all_goals try exact⟨Ah⟩
  ·exact⟨fun k _=>A5 ((if_neg (Nat.not_lt_zero _)).trans (by simp)) trivial⟩
  ·exact h) (fun _=>by simp) (fun _=>by simp only[U5,Hf]) (fun l u hu=>by simp at hu;subst hu;exact Oo l)
def Gn(n:Nat):Nat×Nat:=if n<24 then(0,n)else if n<256 then(1,24)else if n<65536 then(2,25)else if n<4294967296 then(4,26)else(8,27)
def ADp:A7:=Iq (fun(n:Nat)=>[.int .i64 (n:Nat)]) (fun _=>True) (fun n=> .tup (.cons (.int .i64 ((Gn n).1:Nat)) (.cons (.int .i64 ((Gn n).2:Nat)) .nil)))
theorem AFc:FOk Tryz.prog [] 264 ADp:=Bj fun n _ Φ h=>by
 have hΓ:=Ad Tryz.f264.ntmps _ _ (FL.all .nil) (HL.all .nil);refine Aw hΓ Tryz.func264 ?_;conv=>whnf
 repeat' ((first|apply Ap<;>intro _|apply An)<;>conv=>whnf)
 all_goals(try simp only[decide_eq_true_eq,decide_eq_false_iff_not,Int.toNat_natCast,Bool.not_eq_true,Bool.not_eq_false]at*)
 all_goals(refine cast (congrArg Φ ?_) h;unfold Gn)
 ·rw[if_pos (by omega)];rfl
 ·rw[if_neg (by omega),if_pos (by omega)];rfl
 ·rw[if_neg (by omega),if_neg (by omega),if_pos (by omega)];rfl
 ·rw[if_neg (by omega),if_neg (by omega),if_neg (by omega),if_pos (by omega)];rfl
 ·rw[if_neg (by omega),if_neg (by omega),if_neg (by omega),if_neg (by omega)];rfl
def aG(n k:Nat):Nat→List UInt8|0=>[]|i+1=>aG n k i++[UInt8.ofNat (n/2^(8*(k - 1 - i)))]
theorem Cs(n k:Nat):∀i,(aG n k i).length=i
 |0=>rfl
 |i+1=>by simp[aG,Cs n k i]
def Aq(major n:Nat):List UInt8:=UInt8.ofNat (major*32+(Gn n).2)::aG n (Gn n).1 (Gn n).1
theorem ABb:∀(m:Fin 8) (s:Fin 28),IntKind.u8.wrap (Ag .or .i64 (Ch .i64 (m.val:Nat) 5) (s.val:Nat))=((UInt8.ofNat (m.val*32+s.val)).toNat:Nat):=by decide
theorem AH7{m s:Nat}(hm:m<8)(hs:s≤27):IntKind.u8.wrap (Ag .or .i64 (Ch .i64 (m:Nat) 5) (s:Nat))=((UInt8.ofNat (m*32+s)).toNat:Nat):=ABb ⟨m,hm⟩ ⟨s,by omega⟩
theorem qX{n B i:Nat}(hi:i<B)(hB:B≤8):IntKind.u8.wrap (Bt .i64 (n:Nat) (IntKind.i64.wrap (8*((B:Int) - 1 - (i:Nat)))))=((UInt8.ofNat (n/2^(8*(B - 1 - i)))).toNat:Nat):=by
 have h3:(IntKind.i64.wrap (8*((B:Int) - 1 - (i:Nat)))).toNat=8*(B - 1 - i):=by rw[IntKind.wrap_i64];omega
 simp only[Bt,h3,IntKind.bits];rw[Nat.min_eq_left (by omega),Int.fdiv_eq_ediv_of_nonneg _ (by exact Int.le_of_lt (Int.pow_pos (by decide))),IntKind.wrap_u8,UInt8.toNat_ofNat']
 have:((n:Int)/2^(8*(B - 1 - i)))=((n/2^(8*(B - 1 - i)):Nat):Int):=by simp
 rw[this];omega
structure Put where
 b:List UInt8
 major:Nat
 n:Int
def gY(a:Put):List UInt8:=if a.n<0 then[]else a.b++Aq a.major a.n.toNat
def wP(a:Put):Int:=if a.n<0 then 1 else 0
theorem mN(n:Nat):(Gn n).1≤8∧(Gn n).2≤27:=by
 unfold Gn;repeat' split
 all_goals simp
 omega
def AE1:Ai:=L8 (fun(a:Put)=>[U5 0 a.b, .int .i64 (a.major:Nat), .int .i64 a.n]) (fun a=>[some (G1 a.b)]) (fun a=>a.b.length≤900000∧a.major<8∧a.n≤9223372036854775807)
 (fun a=> .tup (.cons (U5 1 (gY a)) (.cons (.int .i64 (wP a)) .nil))) (fun a=>[some (G1 a.b),some (G1 (gY a))])
theorem Vn:Aj Tryz.prog (Ka Tryz.f263.ntmps [(264,ADp)] [(46,H88)]):=Ad Tryz.f263.ntmps [(264,ADp)] [(46,H88)] (FL.all (.cons AFc .nil)) (HL.all (.cons AN4 .nil))
def AVh:Ai:=fun xs h κ=>xs.length=3∧B4 Tryz.prog (Ka Tryz.f263.ntmps [(264,ADp)] [(46,H88)]) (Bd Tryz.f263) Tryz.f263.results.toList xs h κ
theorem AJ3:Af Tryz.prog [] 263 AVh:=Q6 3 Vn Tryz.func263
theorem AH4:Af Tryz.prog [] 263 AE1:=Cq AJ3 (fun⟨b,major,n⟩ κ ⟨hb,hm,hn⟩ h=>by
 simp only[]at hb hm hn;refine⟨rfl,?_⟩;refine vj Vn ?_;conv=>whnf
 repeat' ((first|apply Ap<;>intro _|apply An)<;>conv=>whnf)
 all_goals(try simp only[decide_eq_true_eq,decide_eq_false_iff_not,Int.toNat_natCast,Bool.not_eq_true,Bool.not_eq_false]at*)
 ·omega
 ·omega
 ·refine⟨[some 0,none], .tup (.cons (U5 1 (gY ⟨b,major,n⟩)) (.cons (.int .i64 (wP ⟨b,major,n⟩)) .nil)),[some (G1 b),some (G1 (gY ⟨b,major,n⟩))],?_⟩;have e1:gY ⟨b,major,n⟩=[]:=if_pos ‹_›;have e2:wP ⟨b,major,n⟩=1:=if_pos ‹_›;rw[e1,e2]at h⊢;conv=>whnf
  repeat' (apply An<;>conv=>whnf)
  all_goals try exact⟨Ah⟩
  exact h
 obtain⟨n,rfl⟩:∃q:Nat,n=q:=⟨n.toNat,by omega⟩;have e1:gY ⟨b,major,n⟩=b++Aq major n:=if_neg (show¬((n:Nat):Int)<0 by omega);have e2:wP ⟨b,major,n⟩=0:=if_neg (show¬((n:Nat):Int)<0 by omega);rw[e1,e2]at h;have hsz:=mN n;refine⟨n,rfl,⟨trivial⟩,?_⟩;conv=>whnf
 refine⟨b,[some 0],?_⟩;conv=>whnf
 repeat' ((first|apply Ap<;>intro _|apply An)<;>conv=>whnf)
 all_goals try exact⟨Ah⟩
 refine Or.inl ?_;conv=>whnf
 repeat' ((first|apply Ap<;>intro _|apply An)<;>conv=>whnf)
 all_goals try first|exact⟨Ah⟩|exact⟨⟨by simp only[];omega,by omega⟩⟩
 generalize hB:Gn n=B at hsz e1 h⊢;obtain⟨B,says⟩:=B;simp only[]at hsz;have hhd:Aq major n=UInt8.ofNat (major*32+says)::aG n B B:=by rw[Aq,hB]
 rw[hhd]at h;refine A4 (ι:=Nat) (fun i=>[(2, .int .i64 (n:Nat)),(10, .sl 1 [] 1 0 (b.length+1+i) (b.length+1+i)),(11, .int .i64 ((B:Int) - 1 - (i:Nat)))]) (fun i=>[some (G1 b),some (.row 1 (b.length+1+i) (bf (b++UInt8.ofNat (major*32+says)::aG n B i)))]) (fun i=>i≤B) (fun i=>B - i) 0 [some 0,some 4] ?_ (fun i hi=>vj Vn ?_)
 ·conv=>whnf
  repeat' ((first|apply Ap<;>intro _|apply An)<;>conv=>whnf)
  all_goals try exact⟨Bc⟩
  ·exact⟨by rw[A3 (by simp only[];omega) (by simp only[];omega)];simp⟩
  ·exact⟨fun k _=>Aa _ trivial⟩
  ·refine⟨?_⟩;refine Db (i:=b.length) ?_ ?_ fun k _=>trivial
   ·intro k hk;refine(if_pos hk).trans ?_;exact(Q5 _ _ hk).symm
   ·rw[jJ,←AH7 hm hsz.2];exact(if_neg (Nat.lt_irrefl _)).trans (by rw[Nat.sub_self];rfl)
 ·conv=>whnf
  repeat' ((first|apply Ap<;>intro _|apply An)<;>conv=>whnf)
  all_goals(try simp only[decide_eq_true_eq,decide_eq_false_iff_not,Int.toNat_natCast,Bool.not_eq_true,Bool.not_eq_false]at*)
  all_goals try exact⟨Bc⟩
  ·exact⟨by rw[A3 (by omega) (by omega)];omega⟩
  ·refine Or.inl ?_;conv=>whnf
   repeat' ((first|apply Ap<;>intro _|apply An)<;>conv=>whnf)
   all_goals try first|exact⟨Ah⟩|exact⟨⟨by simp only[];omega,by omega⟩⟩
   refine⟨i+1,[some 0,some 3],?_⟩;conv=>whnf
   repeat' (apply An<;>conv=>whnf)
   all_goals try exact⟨Ah⟩
   ·exact⟨by rw[A3 (by omega) (by omega)];omega⟩
   ·refine⟨?_⟩;refine Db (i:=b.length+1+i) ?_ ?_ fun k _=>trivial
    ·intro k hk;refine(if_pos hk).trans ?_;simp only[aG];rw[←List.cons_append,←List.append_assoc];exact(Q5 _ _ (by simp[Cs];omega)).symm
    ·have key:bf (b++UInt8.ofNat (major*32+says)::aG n B (i+1)) (b.length+1+i)= .int .u8 ((UInt8.ofNat (n/2^(8*(B - 1 - i)))).toNat:Nat):=by
      simp only[aG];rw[←List.cons_append,←List.append_assoc];exact T4 _ _ _ (by simp[Cs];omega)
     refine Eq.trans ?_ key.symm;rw[←qX (by omega) (by omega)];exact(if_neg (Nat.lt_irrefl _)).trans (by rw[Nat.sub_self];rfl)
  obtain rfl:B=i:=by omega
  refine vj Vn ?_;conv=>whnf
  refine⟨[some 0,some 1], .tup (.cons (U5 1 (b++UInt8.ofNat (major*32+says)::aG n B B)) (.cons (.int .i64 0) .nil)),[some (G1 b),some (G1 (b++UInt8.ofNat (major*32+says)::aG n B B))],?_⟩;have hl:(b++UInt8.ofNat (major*32+says)::aG n B B).length=b.length+1+B:=by simp[Cs];omega
  conv=>whnf
  repeat' (apply An<;>conv=>whnf)
  all_goals try exact⟨Bc⟩
  ·exact⟨fun k _=>Aa _ trivial⟩
  ·exact⟨fun k _=>Aa _ trivial⟩
  ·exact h) (fun _=>by simp) (fun _=>by simp[U5,Hf,Ie]) (fun l u hu=>by simp at hu;rcases hu with rfl|rfl<;>exact Oo _)
structure Tk where
 kind:Int
 n:Int
 lent:Bool
 l:List UInt8
def Sk(t:Tk):V:= .st (.cons (.int .i64 t.kind) (.cons (.int .i64 t.n) (.cons (Bl t.lent t.l) .nil)))
structure Gt where
 lt:Bool
 n:Nat
 ts:Nat→Tk
def Zk(a:Gt):V:= .imm a.lt 3 a.n fun k=>Sk (a.ts k)
structure WS where
 at':Nat
 out:List UInt8
 bad:Bool
def wsV(a:Gt)(s:WS)(i:Nat):V:= .st (.cons (Zk a) (.cons (.int .i64 (s.at':Nat)) (.cons (U5 i s.out) (.cons (.bool s.bad) .nil))))
def wsH(a:Gt)(s:WS):Ae:=[some (wsV a s 1),some (G1 s.out)]
def Dg(a:Gt)(s:WS):Ae:=[some (wsV a s 2),none,some (G1 s.out)]
theorem Lz(a:Gt)(s:WS)(u:V)(h:some u∈Dg a s):Hf u:=by
 simp[Dg]at h
 rcases h with rfl|rfl
 ·simp[wsV,Hf,Ie,Zk,U5]
 ·exact Oo _
def C4(s:WS)(major:Nat)(n:Int):WS:=⟨s.at',gY ⟨s.out,major,n⟩,s.bad|| !(wP ⟨s.out,major,n⟩==0)⟩
structure HdA where
 a:Gt
 s:WS
 major:Nat
 n:Int
def dV:Ai:=L8 (fun(x:HdA)=>[.ref 0 [], .int .i64 (x.major:Nat), .int .i64 x.n]) (fun x=>wsH x.a x.s) (fun x=>x.s.out.length≤900000∧x.major<8∧x.n≤9223372036854775807)
 (fun x=> .tup .nil) (fun x=>Dg x.a (C4 x.s x.major x.n))
theorem rI:Aj Tryz.prog (Ka Tryz.f262.ntmps [] [(263,AE1)]):=Ad Tryz.f262.ntmps [] [(263,AE1)] (FL.all .nil) (HL.all (.cons AH4 .nil))
def AVf:Ai:=fun xs h κ=>xs.length=3∧B4 Tryz.prog (Ka Tryz.f262.ntmps [] [(263,AE1)]) (Bd Tryz.f262) Tryz.f262.results.toList xs h κ
theorem AJ1:Af Tryz.prog [] 262 AVf:=Q6 3 rI Tryz.func262
theorem gD:Af Tryz.prog [] 262 dV:=Cq AJ1 (fun⟨a,s,major,n⟩ κ ⟨hb,hm,hn⟩ h=>by
 refine⟨rfl,?_⟩;refine vj rI ?_;conv=>whnf
 refine⟨⟨s.out,major,n⟩,[some 1],?_⟩;conv=>whnf
 repeat' ((first|apply Ap<;>intro _|apply An)<;>conv=>whnf)
 all_goals try exact⟨Bc⟩
 ·exact⟨fun k _=>Aa _ trivial⟩
 ·rename_i hbad;refine⟨[some 0,some 1,some 3], .tup .nil,Dg a (C4 s major n),?_⟩;conv=>whnf
  repeat' (apply An<;>conv=>whnf)
  all_goals try exact⟨Ba⟩
  ·exact⟨by simp_all[C4]⟩
  ·exact h
 ·rename_i hbad;refine⟨[some 0,some 1,some 3], .tup .nil,Dg a (C4 s major n),?_⟩;conv=>whnf
  repeat' (apply An<;>conv=>whnf)
  all_goals try exact⟨Ba⟩
  ·refine⟨?_⟩;have hb2:s.bad=false:=hbad;simp only[C4,hb2,Bool.false_or];rfl
  ·exact h) (fun _=>by simp[wsH,Dg]) (fun _=>by simp[Hf,Ie]) (fun x u hu=>Lz _ _ u hu)
def Hg(s:WS)(major:Nat)(t:Tk):WS:=C4 ⟨s.at',s.out,s.bad||decide (0<(t.l.length:Int))⟩ major t.n
structure AV0 where
 a:Gt
 s:WS
 major:Nat
 t:Tk
def ALb:Ai:=L8 (fun(x:AV0)=>[.ref 0 [], .int .i64 (x.major:Nat),Sk x.t]) (fun x=>wsH x.a x.s) (fun x=>x.s.out.length≤900000∧x.major<8∧x.t.n≤9223372036854775807)
 (fun x=> .tup .nil) (fun x=>Dg x.a (Hg x.s x.major x.t))
theorem rG:Aj Tryz.prog (Ka Tryz.f253.ntmps [] [(262,dV)]):=Ad Tryz.f253.ntmps [] [(262,dV)] (FL.all .nil) (HL.all (.cons gD .nil))
def AV9:Ai:=fun xs h κ=>xs.length=3∧B4 Tryz.prog (Ka Tryz.f253.ntmps [] [(262,dV)]) (Bd Tryz.f253) Tryz.f253.results.toList xs h κ
theorem AIx:Af Tryz.prog [] 253 AV9:=Q6 3 rG Tryz.func253
theorem AGz:Af Tryz.prog [] 253 ALb:=Cq AIx (fun⟨a,s,major,t⟩ κ ⟨hb,hm,hn⟩ h=>by
 refine⟨rfl,?_⟩;refine vj rG ?_;conv=>whnf
 repeat' ((first|apply Ap<;>intro _|apply An)<;>conv=>whnf)
 ·rename_i hbad;have hb2:s.bad=true:=hbad;have e:Hg s major t=C4 ⟨s.at',s.out,true⟩ major t.n:=by simp[Hg,hb2]
  rw[e]at h;refine⟨⟨a,⟨s.at',s.out,true⟩,major,t.n⟩,[some 0,some 1],?_⟩;conv=>whnf
  repeat' ((first|apply Ap<;>intro _|apply An)<;>conv=>whnf)
  all_goals try first|exact⟨Ba⟩|exact⟨⟨hb,hm,hn⟩⟩
  refine⟨[some 0,some 1,some 5], .tup .nil,Dg a (C4 ⟨s.at',s.out,true⟩ major t.n),?_⟩;conv=>whnf
  repeat' (apply An<;>conv=>whnf)
  all_goals try exact⟨Ba⟩
  exact h
 ·rename_i hbad;have hb2:s.bad=false:=hbad;have e:Hg s major t=C4 ⟨s.at',s.out,decide (0<(t.l.length:Int))⟩ major t.n:=by simp[Hg,hb2]
  rw[e]at h;refine⟨⟨a,⟨s.at',s.out,(decide (0<(t.l.length:Int)))⟩,major,t.n⟩,[some 0,some 1],?_⟩;conv=>whnf
  repeat' ((first|apply Ap<;>intro _|apply An)<;>conv=>whnf)
  all_goals try first|exact⟨Ba⟩|exact⟨⟨hb,hm,hn⟩⟩
  refine⟨[some 0,some 1,some 5], .tup .nil,Dg a (C4 ⟨s.at',s.out,(decide (0<(t.l.length:Int)))⟩ major t.n),?_⟩;conv=>whnf
  repeat' (apply An<;>conv=>whnf)
  all_goals try exact⟨Ba⟩
  exact h
 ) (fun _=>by simp[wsH,Dg]) (fun _=>by simp[Hf,Ie]) (fun x u hu=>Lz _ _ u hu)
def Bx(c:Nat):UInt8:=
 if c<0x80 then 0xF0 else if c<0xC2 then 0xF1 else if c<0xE0 then 0x02 else if c=0xE0 then 0x13 else if c<0xED then 0x03 else if c=0xED then 0x23
 else if c<0xF0 then 0x03 else if c=0xF0 then 0x34 else if c<0xF4 then 0x04 else if c=0xF4 then 0x44 else 0xF1
def Lg(k:Nat):UInt8×UInt8:=
 if k=0 then(0x80,0xBF)else if k=1 then(0xA0,0xBF)else if k=2 then(0x80,0x9F)else if k=3 then(0x90,0xBF)else if k=4 then(0x80,0x8F)else(0,0)
def AAs:V:= .row 1 256 fun k=> .int .u8 ((Bx k).toNat:Nat)
def AQ5:V:= .row 2 16 fun k=> .st (.cons (.int .u8 ((Lg k).1.toNat:Nat)) (.cons (.int .u8 ((Lg k).2.toNat:Nat)) .nil))
def G:List (Nat×V):=[(1,AAs),(2,AQ5)]
def L5(n:Nat)(fs:List (Nat×A7))(fh:List (Nat×Ai))(ex:List (Nat×Q1)):Fu:=⟨tb,fs.map fun p=>(p.1,jQ p.2),fh,G,n,0,ex,false⟩
theorem Ab(n:Nat)(fs:List (Nat×A7))(fh:List (Nat×Ai))(ex:List (Nat×Q1))(h:FL Tryz.prog G fs)(h':HL Tryz.prog G fh):Aj Tryz.prog (L5 n fs fh ex) where
 tb:=K6
 fs:=fun p hp=>by
  obtain⟨q,hq,rfl⟩:=List.mem_map.1 hp;exact(h.all q hq).spec
 fh:=h'.all
theorem _root_.Go.DD.FOk.g{n:Nat}{F:A7}(h:FOk Tryz.prog [] n F):FOk Tryz.prog G n F:=
 ⟨h.sng,fun xs Φ hx E args hw hN hK _ hT=>h.ok xs Φ hx E args hw hN hK (fun p hp=>by cases hp) hT⟩
theorem hg{n:Nat}{S:Ai}(h:Af Tryz.prog [] n S):Af Tryz.prog G n S:=
 ⟨h.1,fun E hh xs args κ hw hs _ ht hd=>h.2 E hh xs args κ hw hs (fun p hp=>by cases hp) ht hd⟩
def Ut(a:UInt8×UInt8)(c:UInt8):Bool:=decide (a.1.toNat≤c.toNat)&&decide (c.toNat≤a.2.toNat)
def Bv:List UInt8→Bool
 |[]=>true
 |c::r=>
  if c.toNat<128 then Bv r
  else if(Bx c.toNat).toNat%8=2 then
   match r with|d::r=>Ut (Lg ((Bx c.toNat).toNat/16)) d&&Bv r|_=>false
  else if(Bx c.toNat).toNat%8=3 then
   match r with|d::e::r=>Ut (Lg ((Bx c.toNat).toNat/16)) d&&Ut (0x80,0xBF) e&&Bv r|_=>false
  else if(Bx c.toNat).toNat%8=4 then
   match r with|d::e::f::r=>Ut (Lg ((Bx c.toNat).toNat/16)) d&&Ut (0x80,0xBF) e&&Ut (0x80,0xBF) f&&Bv r|_=>false
  else false
theorem Zm(x:Nat)(h:x<2^64):(BitVec.ofInt 64 (x:Nat))=BitVec.ofNat 64 x:=by
 apply BitVec.eq_of_toNat_eq
 rw[BitVec.toNat_ofInt,BitVec.toNat_ofNat];omega
theorem Ao(x:Nat)(h:x<2^64):IntKind.u64.wrap (x:Nat)=(x:Nat):=by
 rw[IntKind.wrap_u64];omega
theorem G2(x y:Nat)(hx:x<2^64)(hy:y<2^64):Ag .or .u64 (x:Nat) (y:Nat)=((x|||y:Nat):Int):=by
 simp only[Ag,IntKind.bits,Zm x hx,Zm y hy];have h:x|||y<2^64:=Nat.or_lt_two_pow hx hy
 show IntKind.u64.wrap (((BitVec.ofNat 64 x|||BitVec.ofNat 64 y).toNat:Nat):Int)=_
 rw[BitVec.toNat_or,BitVec.toNat_ofNat,BitVec.toNat_ofNat,Nat.mod_eq_of_lt hx,Nat.mod_eq_of_lt hy,Ao _ h]
theorem Sl(x y:Nat)(hx:x<2^64)(hy:y<2^64):Ag .and .u64 (x:Nat) (y:Nat)=((x&&&y:Nat):Int):=by
 simp only[Ag,IntKind.bits,Zm x hx,Zm y hy];have h:x&&&y<2^64:=Nat.and_lt_two_pow x hy
 show IntKind.u64.wrap (((BitVec.ofNat 64 x&&&BitVec.ofNat 64 y).toNat:Nat):Int)=_
 rw[BitVec.toNat_and,BitVec.toNat_ofNat,BitVec.toNat_ofNat,Nat.mod_eq_of_lt hx,Nat.mod_eq_of_lt hy,Ao _ h]
theorem L3(x n:Nat)(hn:n≤56)(hx:x<256):Ch .u64 (x:Nat) ((n:Nat):Int)=((x<<<n:Nat):Int):=by
 have h:x<<<n<2^64:=by
  rw[Nat.shiftLeft_eq]
  have:2^n≤2^56:=Nat.pow_le_pow_right (by decide) hn
  calc x*2^n≤255*2^56:=Nat.mul_le_mul (by omega) this
   _<2^64:=by decide
 simp only[Ch,IntKind.bits,Int.toNat_natCast,Nat.min_eq_left (show n≤64 by omega)];rw[←Ao _ h,Nat.shiftLeft_eq];simp
def Gr(l:List UInt8):Nat:=
 (l.getD 0 0).toNat|||(l.getD 1 0).toNat<<<8|||(l.getD 2 0).toNat<<<16|||(l.getD 3 0).toNat<<<24|||(l.getD 4 0).toNat<<<32|||(l.getD 5 0).toNat<<<40|||(l.getD 6 0).toNat<<<48|||(l.getD 7 0).toNat<<<56
theorem Gg{x n:Nat}(hn:n≤56)(hx:x<256):x<<<n<2^64:=by
 rw[Nat.shiftLeft_eq]
 have:2^n≤2^56:=Nat.pow_le_pow_right (by decide) hn
 calc x*2^n≤255*2^56:=Nat.mul_le_mul (by omega) this
  _<2^64:=by decide
theorem Bs(l:List UInt8)(k:Nat):(l.getD k 0).toNat<256:=(l.getD k 0).toNat_lt
theorem Eh(l:List UInt8):Gr l<2^64:=by
 have h0:(l.getD 0 0).toNat<2^64:=by have:=Bs l 0;omega
 exact Nat.or_lt_two_pow (Nat.or_lt_two_pow (Nat.or_lt_two_pow (Nat.or_lt_two_pow (Nat.or_lt_two_pow (Nat.or_lt_two_pow (Nat.or_lt_two_pow h0 (Gg (by decide) (Bs l 1))) (Gg (by decide) (Bs l 2))) (Gg (by decide) (Bs l 3))) (Gg (by decide) (Bs l 4))) (Gg (by decide) (Bs l 5))) (Gg (by decide) (Bs l 6))) (Gg (by decide) (Bs l 7))
def hiM:Nat:=0x8080808080808080
theorem AVl{x:Nat}(hx:x<256)(h:x.testBit 7=false):x<128:=by
 rcases Nat.lt_or_ge x 128 with h1|h1
 ·exact h1
 ·exfalso
  have:x/128=1:=by omega
  simp[Nat.testBit,Nat.shiftRight_eq_div_pow,this]at h
theorem Fi{w:Nat}(l:List UInt8)(hw:∀i,(Gr l).testBit i=true→w.testBit i=true)(h:w&&&hiM=0):∀k,k<8→(l.getD k 0).toNat<128:=by
 have key:∀k,k<8→(Gr l).testBit (8*k+7)=false:=fun k hk=>by
  have h1:(w&&&hiM).testBit (8*k+7)=false:=by rw[h];simp
  rw[Nat.testBit_and]at h1
  have h2:hiM.testBit (8*k+7)=true:=by
   match k,hk with
   |0,_|1,_|2,_|3,_|4,_|5,_|6,_|7,_=>decide
  rw[h2,Bool.and_true]at h1
  cases hq:(Gr l).testBit (8*k+7)
  ·rfl
  ·rw[hw _ hq]at h1;cases h1
 intro k hk;refine AVl (Bs l k) ?_;have h3:=key k hk;simp only[Gr,Nat.testBit_or,Bool.or_eq_false_iff,Nat.testBit_shiftLeft]at h3
 match k,hk with
 |0,_=>exact h3.1.1.1.1.1.1.1
 |1,_=>simpa using h3.1.1.1.1.1.1.2
 |2,_=>simpa using h3.1.1.1.1.1.2
 |3,_=>simpa using h3.1.1.1.1.2
 |4,_=>simpa using h3.1.1.1.2
 |5,_=>simpa using h3.1.1.2
 |6,_=>simpa using h3.1.2
 |7,_=>simpa using h3.2
def AU9:A7:=Bf (fun(a:By)=>[a.v]) (fun a=>a.ok∧8≤a.l.length) (fun a=>Gr a.l) (fun r=> .int .u64 (r:Nat))
theorem AFl:FOk Tryz.prog [] 245 AU9:=A8 fun a ⟨ha,hn⟩=>by
 refine CP.by1 ha ?_;generalize a.l=l at hn;have hΓ:=Ad Tryz.f245.ntmps _ _ (FL.all .nil) (HL.all .nil);refine Aw hΓ Tryz.func245 ?_;conv=>whnf
 repeat' ((first|apply Ap<;>intro _|apply An)<;>conv=>whnf)
 all_goals try exact⟨Ah⟩
 refine Ld.of (congrArg (V.int .u64) ?_);have c:∀k,IntKind.u64.wrap (((l.getD k 0).toNat:Nat):Int)=((l.getD k 0).toNat:Nat):=fun k=>Ao _ (by have:=Bs l k;omega)
 have e1:Ch .u64 (((l.getD 1 0).toNat:Nat):Int) 8=(((l.getD 1 0).toNat<<<8:Nat):Int):=L3 _ 8 (by decide) (Bs l 1);have b1:=Gg (x:=(l.getD 1 0).toNat) (n:=8) (by decide) (Bs l 1);have e2:Ch .u64 (((l.getD 2 0).toNat:Nat):Int) 16=(((l.getD 2 0).toNat<<<16:Nat):Int):=L3 _ 16 (by decide) (Bs l 2);have b2:=Gg (x:=(l.getD 2 0).toNat) (n:=16) (by decide) (Bs l 2);have e3:Ch .u64 (((l.getD 3 0).toNat:Nat):Int) 24=(((l.getD 3 0).toNat<<<24:Nat):Int):=L3 _ 24 (by decide) (Bs l 3);have b3:=Gg (x:=(l.getD 3 0).toNat) (n:=24) (by decide) (Bs l 3);have e4:Ch .u64 (((l.getD 4 0).toNat:Nat):Int) 32=(((l.getD 4 0).toNat<<<32:Nat):Int):=L3 _ 32 (by decide) (Bs l 4);have b4:=Gg (x:=(l.getD 4 0).toNat) (n:=32) (by decide) (Bs l 4);have e5:Ch .u64 (((l.getD 5 0).toNat:Nat):Int) 40=(((l.getD 5 0).toNat<<<40:Nat):Int):=L3 _ 40 (by decide) (Bs l 5);have b5:=Gg (x:=(l.getD 5 0).toNat) (n:=40) (by decide) (Bs l 5);have e6:Ch .u64 (((l.getD 6 0).toNat:Nat):Int) 48=(((l.getD 6 0).toNat<<<48:Nat):Int):=L3 _ 48 (by decide) (Bs l 6);have b6:=Gg (x:=(l.getD 6 0).toNat) (n:=48) (by decide) (Bs l 6);have e7:Ch .u64 (((l.getD 7 0).toNat:Nat):Int) 56=(((l.getD 7 0).toNat<<<56:Nat):Int):=L3 _ 56 (by decide) (Bs l 7);have b7:=Gg (x:=(l.getD 7 0).toNat) (n:=56) (by decide) (Bs l 7);have b0:(l.getD 0 0).toNat<2^64:=by have:=Bs l 0;omega
 have o1:=Nat.or_lt_two_pow b0 b1;have o2:=Nat.or_lt_two_pow o1 b2;have o3:=Nat.or_lt_two_pow o2 b3;have o4:=Nat.or_lt_two_pow o3 b4;have o5:=Nat.or_lt_two_pow o4 b5;have o6:=Nat.or_lt_two_pow o5 b6;simp only[show Int.toNat 0=0 from rfl,show Int.toNat 1=1 from rfl,show Int.toNat 2=2 from rfl,show Int.toNat 3=3 from rfl,show Int.toNat 4=4 from rfl,show Int.toNat 5=5 from rfl,show Int.toNat 6=6 from rfl,show Int.toNat 7=7 from rfl,c];rw[e1,e2,e3,e4,e5,e6,e7,G2 _ _ b0 b1,G2 _ _ o1 b2,G2 _ _ o2 b3,G2 _ _ o3 b4,G2 _ _ o4 b5,G2 _ _ o5 b6,G2 _ _ o6 b7];rfl
end Go.Proofs.YtaihjcpfjgpmoaaGreatDoor
