/- The seat's table of types. No condition. -/
import Derived.Test.YtcmdkiejkheahaaWordsC
import Derived.Test.YtcmdkiejkheahaaPart01
import Derived.Test.YtcmdkiejkheahaaProg
set_option linter.unusedVariables false
set_option linter.unusedSimpArgs false
namespace Go.WL.T6
open Go.WL Go.Proofs
def tab : List (Nat × TI) := [
  (2, { k := .int .i64, sh := .lf, bytes := 8, zero := .sc (.int .i64 0) }),
  (3, { k := .int .i64, sh := .lf, bytes := 8, zero := .sc (.int .i64 0) }),
  (4, { k := .bool, sh := .lf, bytes := 1, zero := .sc (.bool false) }),
  (5, { k := .int .u8, sh := .lf, bytes := 1, zero := .sc (.int .u8 0) }),
  (9, { k := .str, sh := .lf, bytes := 16, zero := .sc (.string .empty) }),
  (12, { k := .int .u64, sh := .lf, bytes := 8, zero := .sc (.int .u64 0) }),
  (21, { k := .int .i32, sh := .lf, bytes := 4, zero := .sc (.int .i32 0) }),
  (22, { k := .strct [(3, 0), (3, 1), (3, 2), (3, 3), (3, 4), (9, 5), (9, 6)], sh := .nd [.lf, .lf, .lf, .lf, .lf, .lf, .lf], bytes := 72, zero := .st [.sc (.int .i64 0), .sc (.int .i64 0), .sc (.int .i64 0), .sc (.int .i64 0), .sc (.int .i64 0), .sc (.string .empty), .sc (.string .empty)] }),
  (23, { k := .strct [(3, 0), (3, 1), (3, 2), (3, 3), (3, 4), (9, 5), (9, 6)], sh := .nd [.lf, .lf, .lf, .lf, .lf, .lf, .lf], bytes := 72, zero := .st [.sc (.int .i64 0), .sc (.int .i64 0), .sc (.int .i64 0), .sc (.int .i64 0), .sc (.int .i64 0), .sc (.string .empty), .sc (.string .empty)] }),
  (27, { k := .slice 5, sh := .lf, bytes := 24, zero := .sl (.lf) [] .ex }),
  (28, { k := .ptr 76, sh := .lf, bytes := 8, zero := .sc (.pointer none) }),
  (32, { k := .strct [(27, 0), (3, 1), (4, 2)], sh := .nd [.lf, .lf, .lf], bytes := 40, zero := .st [.sl (.lf) [] .ex, .sc (.int .i64 0), .sc (.bool false)] }),
  (33, { k := .strct [(27, 0), (3, 1), (4, 2)], sh := .nd [.lf, .lf, .lf], bytes := 40, zero := .st [.sl (.lf) [] .ex, .sc (.int .i64 0), .sc (.bool false)] }),
  (40, { k := .slice 51, sh := .lf, bytes := 24, zero := .sl (.nd [.lf, .nd [.lf, .lf, .lf, .lf, .lf, .lf, .lf], .lf]) [] .ex }),
  (41, { k := .slice 89, sh := .lf, bytes := 24, zero := .sl (.nd [.lf, .lf, .lf]) [] .ex }),
  (42, { k := .strct [(41, 0), (3, 1)], sh := .nd [.lf, .lf], bytes := 32, zero := .st [.sl (.nd [.lf, .lf, .lf]) [] .ex, .sc (.int .i64 0)] }),
  (43, { k := .strct [(41, 0), (3, 1)], sh := .nd [.lf, .lf], bytes := 32, zero := .st [.sl (.nd [.lf, .lf, .lf]) [] .ex, .sc (.int .i64 0)] }),
  (45, { k := .ptr 72, sh := .lf, bytes := 8, zero := .sc (.pointer none) }),
  (46, { k := .int .i64, sh := .lf, bytes := 8, zero := .sc (.int .i64 0) }),
  (49, { k := .slice 23, sh := .lf, bytes := 24, zero := .sl (.nd [.lf, .lf, .lf, .lf, .lf, .lf, .lf]) [] .ex }),
  (50, { k := .strct [(3, 0), (23, 1), (41, 8)], sh := .nd [.lf, .nd [.lf, .lf, .lf, .lf, .lf, .lf, .lf], .lf], bytes := 104, zero := .st [.sc (.int .i64 0), .st [.sc (.int .i64 0), .sc (.int .i64 0), .sc (.int .i64 0), .sc (.int .i64 0), .sc (.int .i64 0), .sc (.string .empty), .sc (.string .empty)], .sl (.nd [.lf, .lf, .lf]) [] .ex] }),
  (51, { k := .strct [(3, 0), (23, 1), (41, 8)], sh := .nd [.lf, .nd [.lf, .lf, .lf, .lf, .lf, .lf, .lf], .lf], bytes := 104, zero := .st [.sc (.int .i64 0), .st [.sc (.int .i64 0), .sc (.int .i64 0), .sc (.int .i64 0), .sc (.int .i64 0), .sc (.int .i64 0), .sc (.string .empty), .sc (.string .empty)], .sl (.nd [.lf, .lf, .lf]) [] .ex] }),
  (65, { k := .slice 97, sh := .lf, bytes := 24, zero := .sl (.nd [.lf, .lf]) [] .ex }),
  (66, { k := .strct [(41, 0), (65, 1)], sh := .nd [.lf, .lf], bytes := 48, zero := .st [.sl (.nd [.lf, .lf, .lf]) [] .ex, .sl (.nd [.lf, .lf]) [] .ex] }),
  (67, { k := .strct [(41, 0), (65, 1)], sh := .nd [.lf, .lf], bytes := 48, zero := .st [.sl (.nd [.lf, .lf, .lf]) [] .ex, .sl (.nd [.lf, .lf]) [] .ex] }),
  (71, { k := .strct [(49, 0), (3, 1), (4, 2)], sh := .nd [.lf, .lf, .lf], bytes := 40, zero := .st [.sl (.nd [.lf, .lf, .lf, .lf, .lf, .lf, .lf]) [] .ex, .sc (.int .i64 0), .sc (.bool false)] }),
  (72, { k := .strct [(49, 0), (3, 1), (4, 2)], sh := .nd [.lf, .lf, .lf], bytes := 40, zero := .st [.sl (.nd [.lf, .lf, .lf, .lf, .lf, .lf, .lf]) [] .ex, .sc (.int .i64 0), .sc (.bool false)] }),
  (75, { k := .strct [(27, 0), (4, 1)], sh := .nd [.lf, .lf], bytes := 32, zero := .st [.sl (.lf) [] .ex, .sc (.bool false)] }),
  (76, { k := .strct [(27, 0), (4, 1)], sh := .nd [.lf, .lf], bytes := 32, zero := .st [.sl (.lf) [] .ex, .sc (.bool false)] }),
  (83, { k := .slice 3, sh := .lf, bytes := 24, zero := .sl (.lf) [] .ex }),
  (85, { k := .int .u64, sh := .lf, bytes := 8, zero := .sc (.int .u64 0) }),
  (88, { k := .strct [(3, 0), (3, 1), (3, 2)], sh := .nd [.lf, .lf, .lf], bytes := 24, zero := .st [.sc (.int .i64 0), .sc (.int .i64 0), .sc (.int .i64 0)] }),
  (89, { k := .strct [(3, 0), (3, 1), (3, 2)], sh := .nd [.lf, .lf, .lf], bytes := 24, zero := .st [.sc (.int .i64 0), .sc (.int .i64 0), .sc (.int .i64 0)] }),
  (92, { k := .map 3 3, sh := .lf, bytes := 8, zero := .sc (.map none) }),
  (96, { k := .strct [(9, 0), (9, 1)], sh := .nd [.lf, .lf], bytes := 32, zero := .st [.sc (.string .empty), .sc (.string .empty)] }),
  (97, { k := .strct [(9, 0), (9, 1)], sh := .nd [.lf, .lf], bytes := 32, zero := .st [.sc (.string .empty), .sc (.string .empty)] }),
  (107, { k := .int .u64, sh := .lf, bytes := 8, zero := .sc (.int .u64 0) }),
  (147, { k := .int .u32, sh := .lf, bytes := 4, zero := .sc (.int .u32 0) }),
  (151, { k := .ptr 5, sh := .lf, bytes := 8, zero := .sc (.pointer none) })]
def D : Tabs := ⟨tab, [], []⟩
theorem tabOK : TabOK Try.prog D := tabOK_of (by decide +kernel)
theorem hmix : Try.prog.follows .mixedOrders = true := by decide +kernel
end Go.WL.T6
