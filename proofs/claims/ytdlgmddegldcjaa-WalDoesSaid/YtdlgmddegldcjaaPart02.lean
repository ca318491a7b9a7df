/- The seat's table of types. No condition. -/
import Derived.Test.YtdlgmddegldcjaaWordsD
import Derived.Test.YtdlgmddegldcjaaPart01
import Derived.Test.YtdlgmddegldcjaaProg
set_option linter.unusedVariables false
set_option linter.unusedSimpArgs false
namespace Go.WL.T5
open Go.WL Go.Proofs
def tab : List (Nat × TI) := [
  (2, { k := .int .i64, sh := .lf, bytes := 8, zero := .sc (.int .i64 0) }),
  (3, { k := .int .i64, sh := .lf, bytes := 8, zero := .sc (.int .i64 0) }),
  (4, { k := .bool, sh := .lf, bytes := 1, zero := .sc (.bool false) }),
  (5, { k := .int .u8, sh := .lf, bytes := 1, zero := .sc (.int .u8 0) }),
  (9, { k := .str, sh := .lf, bytes := 16, zero := .sc (.string .empty) }),
  (12, { k := .int .u64, sh := .lf, bytes := 8, zero := .sc (.int .u64 0) }),
  (21, { k := .int .i32, sh := .lf, bytes := 4, zero := .sc (.int .i32 0) }),
  (22, { k := .slice 36, sh := .lf, bytes := 24, zero := .sl (.nd [.lf, .lf, .lf]) [] .ex }),
  (25, { k := .ptr 46, sh := .lf, bytes := 8, zero := .sc (.pointer none) }),
  (26, { k := .int .i64, sh := .lf, bytes := 8, zero := .sc (.int .i64 0) }),
  (29, { k := .slice 5, sh := .lf, bytes := 24, zero := .sl (.lf) [] .ex }),
  (30, { k := .strct [(29, 0), (29, 1), (29, 2), (3, 3), (3, 4), (4, 5)], sh := .nd [.lf, .lf, .lf, .lf, .lf, .lf], bytes := 96, zero := .st [.sl (.lf) [] .ex, .sl (.lf) [] .ex, .sl (.lf) [] .ex, .sc (.int .i64 0), .sc (.int .i64 0), .sc (.bool false)] }),
  (31, { k := .strct [(29, 0), (29, 1), (29, 2), (3, 3), (3, 4), (4, 5)], sh := .nd [.lf, .lf, .lf, .lf, .lf, .lf], bytes := 96, zero := .st [.sl (.lf) [] .ex, .sl (.lf) [] .ex, .sl (.lf) [] .ex, .sc (.int .i64 0), .sc (.int .i64 0), .sc (.bool false)] }),
  (35, { k := .strct [(3, 0), (29, 1), (3, 2)], sh := .nd [.lf, .lf, .lf], bytes := 40, zero := .st [.sc (.int .i64 0), .sl (.lf) [] .ex, .sc (.int .i64 0)] }),
  (36, { k := .strct [(3, 0), (29, 1), (3, 2)], sh := .nd [.lf, .lf, .lf], bytes := 40, zero := .st [.sc (.int .i64 0), .sl (.lf) [] .ex, .sc (.int .i64 0)] }),
  (45, { k := .strct [(29, 0), (3, 1), (3, 2), (4, 3), (3, 4), (4, 5), (29, 6)], sh := .nd [.lf, .lf, .lf, .lf, .lf, .lf, .lf], bytes := 88, zero := .st [.sl (.lf) [] .ex, .sc (.int .i64 0), .sc (.int .i64 0), .sc (.bool false), .sc (.int .i64 0), .sc (.bool false), .sl (.lf) [] .ex] }),
  (46, { k := .strct [(29, 0), (3, 1), (3, 2), (4, 3), (3, 4), (4, 5), (29, 6)], sh := .nd [.lf, .lf, .lf, .lf, .lf, .lf, .lf], bytes := 88, zero := .st [.sl (.lf) [] .ex, .sc (.int .i64 0), .sc (.int .i64 0), .sc (.bool false), .sc (.int .i64 0), .sc (.bool false), .sl (.lf) [] .ex] }),
  (51, { k := .slice 58, sh := .lf, bytes := 24, zero := .sl (.nd [.lf, .lf, .nd [.lf, .lf, .lf], .lf]) [] .ex }),
  (53, { k := .ptr 66, sh := .lf, bytes := 8, zero := .sc (.pointer none) }),
  (54, { k := .slice 29, sh := .lf, bytes := 24, zero := .sl (.lf) [] .ex }),
  (57, { k := .strct [(3, 0), (54, 1), (36, 2), (5, 5)], sh := .nd [.lf, .lf, .nd [.lf, .lf, .lf], .lf], bytes := 80, zero := .st [.sc (.int .i64 0), .sl (.lf) [] .ex, .st [.sc (.int .i64 0), .sl (.lf) [] .ex, .sc (.int .i64 0)], .sc (.int .u8 0)] }),
  (58, { k := .strct [(3, 0), (54, 1), (36, 2), (5, 5)], sh := .nd [.lf, .lf, .nd [.lf, .lf, .lf], .lf], bytes := 80, zero := .st [.sc (.int .i64 0), .sl (.lf) [] .ex, .st [.sc (.int .i64 0), .sl (.lf) [] .ex, .sc (.int .i64 0)], .sc (.int .u8 0)] }),
  (61, { k := .arr 4 5, sh := .ar 4 (.lf), bytes := 4, zero := .ar 4 (.lf) (List.replicate 4 (.sc (.int .u8 0))) }),
  (62, { k := .int .u16, sh := .lf, bytes := 2, zero := .sc (.int .u16 0) }),
  (63, { k := .strct [(5, 0), (61, 1), (62, 5)], sh := .nd [.lf, .ar 4 (.lf), .lf], bytes := 8, zero := .st [.sc (.int .u8 0), .ar 4 (.lf) (List.replicate 4 (.sc (.int .u8 0))), .sc (.int .u16 0)] }),
  (64, { k := .strct [(5, 0), (61, 1), (62, 5)], sh := .nd [.lf, .ar 4 (.lf), .lf], bytes := 8, zero := .st [.sc (.int .u8 0), .ar 4 (.lf) (List.replicate 4 (.sc (.int .u8 0))), .sc (.int .u16 0)] }),
  (65, { k := .strct [(25, 0), (3, 1), (4, 2)], sh := .nd [.lf, .lf, .lf], bytes := 24, zero := .st [.sc (.pointer none), .sc (.int .i64 0), .sc (.bool false)] }),
  (66, { k := .strct [(25, 0), (3, 1), (4, 2)], sh := .nd [.lf, .lf, .lf], bytes := 24, zero := .st [.sc (.pointer none), .sc (.int .i64 0), .sc (.bool false)] }),
  (68, { k := .strct [(31, 0), (3, 6), (4, 7), (4, 8)], sh := .nd [.nd [.lf, .lf, .lf, .lf, .lf, .lf], .lf, .lf, .lf], bytes := 112, zero := .st [.st [.sl (.lf) [] .ex, .sl (.lf) [] .ex, .sl (.lf) [] .ex, .sc (.int .i64 0), .sc (.int .i64 0), .sc (.bool false)], .sc (.int .i64 0), .sc (.bool false), .sc (.bool false)] }),
  (69, { k := .strct [(31, 0), (3, 6), (4, 7), (4, 8)], sh := .nd [.nd [.lf, .lf, .lf, .lf, .lf, .lf], .lf, .lf, .lf], bytes := 112, zero := .st [.st [.sl (.lf) [] .ex, .sl (.lf) [] .ex, .sl (.lf) [] .ex, .sc (.int .i64 0), .sc (.int .i64 0), .sc (.bool false)], .sc (.int .i64 0), .sc (.bool false), .sc (.bool false)] }),
  (76, { k := .slice 78, sh := .lf, bytes := 24, zero := .sl (.nd [.lf, .lf]) [] .ex }),
  (77, { k := .strct [(9, 0), (9, 1)], sh := .nd [.lf, .lf], bytes := 32, zero := .st [.sc (.string .empty), .sc (.string .empty)] }),
  (78, { k := .strct [(9, 0), (9, 1)], sh := .nd [.lf, .lf], bytes := 32, zero := .st [.sc (.string .empty), .sc (.string .empty)] }),
  (79, { k := .arr 2 78, sh := .ar 2 (.nd [.lf, .lf]), bytes := 64, zero := .ar 2 (.nd [.lf, .lf]) (List.replicate 2 (.st [.sc (.string .empty), .sc (.string .empty)])) }),
  (90, { k := .slice 96, sh := .lf, bytes := 24, zero := .sl (.nd [.lf, .lf, .lf]) [] .ex }),
  (91, { k := .slice 100, sh := .lf, bytes := 24, zero := .sl (.nd [.lf, .lf, .lf]) [] .ex }),
  (95, { k := .strct [(3, 0), (3, 1), (3, 2)], sh := .nd [.lf, .lf, .lf], bytes := 24, zero := .st [.sc (.int .i64 0), .sc (.int .i64 0), .sc (.int .i64 0)] }),
  (96, { k := .strct [(3, 0), (3, 1), (3, 2)], sh := .nd [.lf, .lf, .lf], bytes := 24, zero := .st [.sc (.int .i64 0), .sc (.int .i64 0), .sc (.int .i64 0)] }),
  (99, { k := .strct [(3, 0), (3, 1), (3, 2)], sh := .nd [.lf, .lf, .lf], bytes := 24, zero := .st [.sc (.int .i64 0), .sc (.int .i64 0), .sc (.int .i64 0)] }),
  (100, { k := .strct [(3, 0), (3, 1), (3, 2)], sh := .nd [.lf, .lf, .lf], bytes := 24, zero := .st [.sc (.int .i64 0), .sc (.int .i64 0), .sc (.int .i64 0)] }),
  (107, { k := .slice 113, sh := .lf, bytes := 24, zero := .sl (.nd [.lf, .lf, .lf, .lf, .lf, .lf, .lf]) [] .ex }),
  (108, { k := .ptr 145, sh := .lf, bytes := 8, zero := .sc (.pointer none) }),
  (112, { k := .strct [(3, 0), (3, 1), (3, 2), (3, 3), (3, 4), (9, 5), (9, 6)], sh := .nd [.lf, .lf, .lf, .lf, .lf, .lf, .lf], bytes := 72, zero := .st [.sc (.int .i64 0), .sc (.int .i64 0), .sc (.int .i64 0), .sc (.int .i64 0), .sc (.int .i64 0), .sc (.string .empty), .sc (.string .empty)] }),
  (113, { k := .strct [(3, 0), (3, 1), (3, 2), (3, 3), (3, 4), (9, 5), (9, 6)], sh := .nd [.lf, .lf, .lf, .lf, .lf, .lf, .lf], bytes := 72, zero := .st [.sc (.int .i64 0), .sc (.int .i64 0), .sc (.int .i64 0), .sc (.int .i64 0), .sc (.int .i64 0), .sc (.string .empty), .sc (.string .empty)] }),
  (144, { k := .strct [(107, 0), (3, 1), (4, 2)], sh := .nd [.lf, .lf, .lf], bytes := 40, zero := .st [.sl (.nd [.lf, .lf, .lf, .lf, .lf, .lf, .lf]) [] .ex, .sc (.int .i64 0), .sc (.bool false)] }),
  (145, { k := .strct [(107, 0), (3, 1), (4, 2)], sh := .nd [.lf, .lf, .lf], bytes := 40, zero := .st [.sl (.nd [.lf, .lf, .lf, .lf, .lf, .lf, .lf]) [] .ex, .sc (.int .i64 0), .sc (.bool false)] }),
  (153, { k := .int .u32, sh := .lf, bytes := 4, zero := .sc (.int .u32 0) }),
  (165, { k := .map 3 3, sh := .lf, bytes := 8, zero := .sc (.map none) }),
  (169, { k := .int .u64, sh := .lf, bytes := 8, zero := .sc (.int .u64 0) }),
  (170, { k := .int .u64, sh := .lf, bytes := 8, zero := .sc (.int .u64 0) }),
  (187, { k := .ptr 5, sh := .lf, bytes := 8, zero := .sc (.pointer none) })]
def D : Tabs := ⟨tab, [], []⟩
theorem tabOK : TabOK Try.prog D := tabOK_of (by decide +kernel)
theorem hmix : Try.prog.follows .mixedOrders = true := by decide +kernel
end Go.WL.T5
