/- The environment of this program: the types that are used, held against the program, by a program of this session. -/
import Derived.Test.YtpcmbchibhcdiaaDoorVx18
import Derived.KernelRfl
import Derived.Test.YtpcmbchibhcdiaaDoorProg
namespace Go.RX.Tryd
open Go Go.Proofs Go.RX
def tl : List (Nat × TK) := [(1, .oth), (2, .int .i64), (3, .int .i64), (4, .bool), (5, .int .u8), (6, .int .u8), (7, .st [2, 3, 4, 6]), (8, .st [2, 3, 4, 6]), (9, .str), (10, .str), (11, .str), (12, .int .u64), (13, .st [9, 12]), (14, .st [9, 12]), (15, .oth), (16, .oth), (17, .oth), (21, .int .i32), (22, .st [3, 3]), (23, .st [3, 3]), (24, .oth), (25, .st [3, 3]), (26, .oth), (27, .oth), (28, .sl 5), (29, .oth), (30, .oth), (31, .oth), (32, .oth), (33, .oth), (34, .sl 9), (35, .oth), (36, .oth), (37, .oth), (38, .oth), (39, .st [28, 3]), (40, .st [28, 3]), (41, .oth), (43, .int .u64), (44, .oth), (45, .oth), (47, .oth), (48, .oth), (50, .int .u32), (52, .oth), (53, .int .u64), (54, .oth), (55, .oth), (58, .oth), (64, .oth), (65, .int .u8), (66, .int .u8), (67, .oth), (68, .oth), (69, .int .i32), (70, .int .i32)]
def ti : TI := fun t => tl.lookup t
theorem ti_ok : TIok Tryd.prog ti := tiOk_of_list (by kernel_rfl)
theorem mixed : Tryd.prog.follows .mixedOrders = true := rfl
def tyTab : List (Nat × Ty) := [(2, .int .i64), (3, .int .i64), (4, .bool), (5, .byte), (6, .byte), (7, .cons (.int .i64) (.cons (.int .i64) (.cons (.bool) (.byte)))), (8, .cons (.int .i64) (.cons (.int .i64) (.cons (.bool) (.byte)))), (9, .str), (10, .str), (11, .str), (12, .int .u64), (13, .cons (.str) (.int .u64)), (14, .cons (.str) (.int .u64)), (21, .int .i32), (22, .cons (.int .i64) (.int .i64)), (23, .cons (.int .i64) (.int .i64)), (25, .cons (.int .i64) (.int .i64)), (28, .sl (.byte)), (34, .sl (.str)), (39, .cons (.sl (.byte)) (.int .i64)), (40, .cons (.sl (.byte)) (.int .i64)), (43, .int .u64), (50, .int .u32), (53, .int .u64), (65, .byte), (66, .byte), (69, .int .i32), (70, .int .i32)]
def othTab : List Nat := [1, 15, 16, 17, 24, 26, 27, 29, 30, 31, 32, 33, 35, 36, 37, 38, 41, 44, 45, 47, 48, 52, 54, 55, 58, 64, 67, 68]
def eqTab : List Nat := []
def frTab : List Nat := [3, 4, 5, 6, 7, 8, 9, 10, 11, 12, 13, 16, 17, 18, 19]
def frF : FuncId → Bool := fun f => memN f frTab
def ven (l : List (Nat × CE)) : VEn := ⟨fun t => lk tyTab t, fun t => memN t othTab, fun t => memN t eqTab, callT l, frF⟩
noncomputable def ren (W0 : World) : En := ⟨Tryd.prog, ti, frF, W0⟩
theorem vok0 (W0 : World) : VOk (ven []) (ren W0) := VOk.base (by kernel_rfl) (by kernel_rfl) (by kernel_rfl) (fun _ => rfl)
end Go.RX.Tryd
