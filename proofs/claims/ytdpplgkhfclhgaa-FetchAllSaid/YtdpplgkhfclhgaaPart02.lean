/- The seat's table of types. No condition. -/
import Derived.Test.YtdpplgkhfclhgaaWordsD
import Derived.Test.YtdpplgkhfclhgaaPart01
import Derived.Test.YtdpplgkhfclhgaaProg
set_option linter.unusedVariables false
set_option linter.unusedSimpArgs false
namespace Go.WL.T8
open Go.WL Go.Proofs
def tab : List (Nat × TI) := [
  (2, { k := .int .i64, sh := .lf, bytes := 8, zero := .sc (.int .i64 0) }),
  (3, { k := .int .i64, sh := .lf, bytes := 8, zero := .sc (.int .i64 0) }),
  (4, { k := .bool, sh := .lf, bytes := 1, zero := .sc (.bool false) }),
  (5, { k := .int .u8, sh := .lf, bytes := 1, zero := .sc (.int .u8 0) }),
  (9, { k := .str, sh := .lf, bytes := 16, zero := .sc (.string .empty) }),
  (12, { k := .int .u64, sh := .lf, bytes := 8, zero := .sc (.int .u64 0) }),
  (21, { k := .int .i32, sh := .lf, bytes := 4, zero := .sc (.int .i32 0) }),
  (22, { k := .slice 5, sh := .lf, bytes := 24, zero := .sl (.lf) [] .ex }),
  (23, { k := .int .u16, sh := .lf, bytes := 2, zero := .sc (.int .u16 0) }),
  (24, { k := .int .u32, sh := .lf, bytes := 4, zero := .sc (.int .u32 0) }),
  (26, { k := .int .i64, sh := .lf, bytes := 8, zero := .sc (.int .i64 0) }),
  (29, { k := .int .u64, sh := .lf, bytes := 8, zero := .sc (.int .u64 0) }),
  (33, { k := .slice 40, sh := .lf, bytes := 24, zero := .sl (.nd [.lf, .lf, .lf]) [] .ex }),
  (34, { k := .ptr 75, sh := .lf, bytes := 8, zero := .sc (.pointer none) }),
  (38, { k := .slice 45, sh := .lf, bytes := 24, zero := .sl (.nd [.ar 32 (.lf), .lf, .lf, .lf]) [] .ex }),
  (39, { k := .strct [(3, 0), (5, 1), (3, 2)], sh := .nd [.lf, .lf, .lf], bytes := 24, zero := .st [.sc (.int .i64 0), .sc (.int .u8 0), .sc (.int .i64 0)] }),
  (40, { k := .strct [(3, 0), (5, 1), (3, 2)], sh := .nd [.lf, .lf, .lf], bytes := 24, zero := .st [.sc (.int .i64 0), .sc (.int .u8 0), .sc (.int .i64 0)] }),
  (41, { k := .arr 32 5, sh := .ar 32 (.lf), bytes := 32, zero := .ar 32 (.lf) (List.replicate 32 (.sc (.int .u8 0))) }),
  (42, { k := .arr 32 5, sh := .ar 32 (.lf), bytes := 32, zero := .ar 32 (.lf) (List.replicate 32 (.sc (.int .u8 0))) }),
  (44, { k := .strct [(42, 0), (3, 32), (3, 33), (3, 34)], sh := .nd [.ar 32 (.lf), .lf, .lf, .lf], bytes := 56, zero := .st [.ar 32 (.lf) (List.replicate 32 (.sc (.int .u8 0))), .sc (.int .i64 0), .sc (.int .i64 0), .sc (.int .i64 0)] }),
  (45, { k := .strct [(42, 0), (3, 32), (3, 33), (3, 34)], sh := .nd [.ar 32 (.lf), .lf, .lf, .lf], bytes := 56, zero := .st [.ar 32 (.lf) (List.replicate 32 (.sc (.int .u8 0))), .sc (.int .i64 0), .sc (.int .i64 0), .sc (.int .i64 0)] }),
  (48, { k := .slice 67, sh := .lf, bytes := 24, zero := .sl (.nd [.lf, .lf, .lf, .nd [.lf, .lf, .lf, .lf, .ar 32 (.lf), .lf, .ar 32 (.lf), .ar 32 (.lf)], .nd [.nd [.lf, .lf, .lf, .lf, .ar 32 (.lf), .lf, .ar 32 (.lf), .ar 32 (.lf)], .lf], .nd [.lf, .lf, .lf, .ar 32 (.lf), .lf, .ar 32 (.lf)], .nd [.ar 32 (.lf), .lf, .lf, .lf, .lf], .ar 32 (.lf), .nd [.lf, .lf, .lf, .lf, .lf, .lf, .lf]]) [] .ex }),
  (53, { k := .strct [(3, 0), (3, 1), (3, 2), (3, 3), (42, 4), (3, 36), (42, 37), (42, 69)], sh := .nd [.lf, .lf, .lf, .lf, .ar 32 (.lf), .lf, .ar 32 (.lf), .ar 32 (.lf)], bytes := 136, zero := .st [.sc (.int .i64 0), .sc (.int .i64 0), .sc (.int .i64 0), .sc (.int .i64 0), .ar 32 (.lf) (List.replicate 32 (.sc (.int .u8 0))), .sc (.int .i64 0), .ar 32 (.lf) (List.replicate 32 (.sc (.int .u8 0))), .ar 32 (.lf) (List.replicate 32 (.sc (.int .u8 0)))] }),
  (54, { k := .strct [(3, 0), (3, 1), (3, 2), (3, 3), (42, 4), (3, 36), (42, 37), (42, 69)], sh := .nd [.lf, .lf, .lf, .lf, .ar 32 (.lf), .lf, .ar 32 (.lf), .ar 32 (.lf)], bytes := 136, zero := .st [.sc (.int .i64 0), .sc (.int .i64 0), .sc (.int .i64 0), .sc (.int .i64 0), .ar 32 (.lf) (List.replicate 32 (.sc (.int .u8 0))), .sc (.int .i64 0), .ar 32 (.lf) (List.replicate 32 (.sc (.int .u8 0))), .ar 32 (.lf) (List.replicate 32 (.sc (.int .u8 0)))] }),
  (55, { k := .slice 102, sh := .lf, bytes := 24, zero := .sl (.nd [.lf, .ar 32 (.lf)]) [] .ex }),
  (56, { k := .strct [(54, 0), (55, 101)], sh := .nd [.nd [.lf, .lf, .lf, .lf, .ar 32 (.lf), .lf, .ar 32 (.lf), .ar 32 (.lf)], .lf], bytes := 160, zero := .st [.st [.sc (.int .i64 0), .sc (.int .i64 0), .sc (.int .i64 0), .sc (.int .i64 0), .ar 32 (.lf) (List.replicate 32 (.sc (.int .u8 0))), .sc (.int .i64 0), .ar 32 (.lf) (List.replicate 32 (.sc (.int .u8 0))), .ar 32 (.lf) (List.replicate 32 (.sc (.int .u8 0)))], .sl (.nd [.lf, .ar 32 (.lf)]) [] .ex] }),
  (57, { k := .strct [(54, 0), (55, 101)], sh := .nd [.nd [.lf, .lf, .lf, .lf, .ar 32 (.lf), .lf, .ar 32 (.lf), .ar 32 (.lf)], .lf], bytes := 160, zero := .st [.st [.sc (.int .i64 0), .sc (.int .i64 0), .sc (.int .i64 0), .sc (.int .i64 0), .ar 32 (.lf) (List.replicate 32 (.sc (.int .u8 0))), .sc (.int .i64 0), .ar 32 (.lf) (List.replicate 32 (.sc (.int .u8 0))), .ar 32 (.lf) (List.replicate 32 (.sc (.int .u8 0)))], .sl (.nd [.lf, .ar 32 (.lf)]) [] .ex] }),
  (58, { k := .slice 3, sh := .lf, bytes := 24, zero := .sl (.lf) [] .ex }),
  (59, { k := .strct [(3, 0), (3, 1), (3, 2), (42, 3), (58, 35), (42, 36)], sh := .nd [.lf, .lf, .lf, .ar 32 (.lf), .lf, .ar 32 (.lf)], bytes := 112, zero := .st [.sc (.int .i64 0), .sc (.int .i64 0), .sc (.int .i64 0), .ar 32 (.lf) (List.replicate 32 (.sc (.int .u8 0))), .sl (.lf) [] .ex, .ar 32 (.lf) (List.replicate 32 (.sc (.int .u8 0)))] }),
  (60, { k := .strct [(3, 0), (3, 1), (3, 2), (42, 3), (58, 35), (42, 36)], sh := .nd [.lf, .lf, .lf, .ar 32 (.lf), .lf, .ar 32 (.lf)], bytes := 112, zero := .st [.sc (.int .i64 0), .sc (.int .i64 0), .sc (.int .i64 0), .ar 32 (.lf) (List.replicate 32 (.sc (.int .u8 0))), .sl (.lf) [] .ex, .ar 32 (.lf) (List.replicate 32 (.sc (.int .u8 0)))] }),
  (61, { k := .slice 65, sh := .lf, bytes := 24, zero := .sl (.nd [.lf, .lf, .lf, .lf, .lf, .lf, .lf]) [] .ex }),
  (62, { k := .strct [(42, 0), (3, 32), (3, 33), (3, 34), (61, 35)], sh := .nd [.ar 32 (.lf), .lf, .lf, .lf, .lf], bytes := 80, zero := .st [.ar 32 (.lf) (List.replicate 32 (.sc (.int .u8 0))), .sc (.int .i64 0), .sc (.int .i64 0), .sc (.int .i64 0), .sl (.nd [.lf, .lf, .lf, .lf, .lf, .lf, .lf]) [] .ex] }),
  (63, { k := .strct [(42, 0), (3, 32), (3, 33), (3, 34), (61, 35)], sh := .nd [.ar 32 (.lf), .lf, .lf, .lf, .lf], bytes := 80, zero := .st [.ar 32 (.lf) (List.replicate 32 (.sc (.int .u8 0))), .sc (.int .i64 0), .sc (.int .i64 0), .sc (.int .i64 0), .sl (.nd [.lf, .lf, .lf, .lf, .lf, .lf, .lf]) [] .ex] }),
  (64, { k := .strct [(3, 0), (3, 1), (3, 2), (3, 3), (3, 4), (9, 5), (9, 6)], sh := .nd [.lf, .lf, .lf, .lf, .lf, .lf, .lf], bytes := 72, zero := .st [.sc (.int .i64 0), .sc (.int .i64 0), .sc (.int .i64 0), .sc (.int .i64 0), .sc (.int .i64 0), .sc (.string .empty), .sc (.string .empty)] }),
  (65, { k := .strct [(3, 0), (3, 1), (3, 2), (3, 3), (3, 4), (9, 5), (9, 6)], sh := .nd [.lf, .lf, .lf, .lf, .lf, .lf, .lf], bytes := 72, zero := .st [.sc (.int .i64 0), .sc (.int .i64 0), .sc (.int .i64 0), .sc (.int .i64 0), .sc (.int .i64 0), .sc (.string .empty), .sc (.string .empty)] }),
  (66, { k := .strct [(3, 0), (3, 1), (3, 2), (54, 3), (57, 104), (60, 206), (63, 274), (42, 310), (65, 342)], sh := .nd [.lf, .lf, .lf, .nd [.lf, .lf, .lf, .lf, .ar 32 (.lf), .lf, .ar 32 (.lf), .ar 32 (.lf)], .nd [.nd [.lf, .lf, .lf, .lf, .ar 32 (.lf), .lf, .ar 32 (.lf), .ar 32 (.lf)], .lf], .nd [.lf, .lf, .lf, .ar 32 (.lf), .lf, .ar 32 (.lf)], .nd [.ar 32 (.lf), .lf, .lf, .lf, .lf], .ar 32 (.lf), .nd [.lf, .lf, .lf, .lf, .lf, .lf, .lf]], bytes := 616, zero := .st [.sc (.int .i64 0), .sc (.int .i64 0), .sc (.int .i64 0), .st [.sc (.int .i64 0), .sc (.int .i64 0), .sc (.int .i64 0), .sc (.int .i64 0), .ar 32 (.lf) (List.replicate 32 (.sc (.int .u8 0))), .sc (.int .i64 0), .ar 32 (.lf) (List.replicate 32 (.sc (.int .u8 0))), .ar 32 (.lf) (List.replicate 32 (.sc (.int .u8 0)))], .st [.st [.sc (.int .i64 0), .sc (.int .i64 0), .sc (.int .i64 0), .sc (.int .i64 0), .ar 32 (.lf) (List.replicate 32 (.sc (.int .u8 0))), .sc (.int .i64 0), .ar 32 (.lf) (List.replicate 32 (.sc (.int .u8 0))), .ar 32 (.lf) (List.replicate 32 (.sc (.int .u8 0)))], .sl (.nd [.lf, .ar 32 (.lf)]) [] .ex], .st [.sc (.int .i64 0), .sc (.int .i64 0), .sc (.int .i64 0), .ar 32 (.lf) (List.replicate 32 (.sc (.int .u8 0))), .sl (.lf) [] .ex, .ar 32 (.lf) (List.replicate 32 (.sc (.int .u8 0)))], .st [.ar 32 (.lf) (List.replicate 32 (.sc (.int .u8 0))), .sc (.int .i64 0), .sc (.int .i64 0), .sc (.int .i64 0), .sl (.nd [.lf, .lf, .lf, .lf, .lf, .lf, .lf]) [] .ex], .ar 32 (.lf) (List.replicate 32 (.sc (.int .u8 0))), .st [.sc (.int .i64 0), .sc (.int .i64 0), .sc (.int .i64 0), .sc (.int .i64 0), .sc (.int .i64 0), .sc (.string .empty), .sc (.string .empty)]] }),
  (67, { k := .strct [(3, 0), (3, 1), (3, 2), (54, 3), (57, 104), (60, 206), (63, 274), (42, 310), (65, 342)], sh := .nd [.lf, .lf, .lf, .nd [.lf, .lf, .lf, .lf, .ar 32 (.lf), .lf, .ar 32 (.lf), .ar 32 (.lf)], .nd [.nd [.lf, .lf, .lf, .lf, .ar 32 (.lf), .lf, .ar 32 (.lf), .ar 32 (.lf)], .lf], .nd [.lf, .lf, .lf, .ar 32 (.lf), .lf, .ar 32 (.lf)], .nd [.ar 32 (.lf), .lf, .lf, .lf, .lf], .ar 32 (.lf), .nd [.lf, .lf, .lf, .lf, .lf, .lf, .lf]], bytes := 616, zero := .st [.sc (.int .i64 0), .sc (.int .i64 0), .sc (.int .i64 0), .st [.sc (.int .i64 0), .sc (.int .i64 0), .sc (.int .i64 0), .sc (.int .i64 0), .ar 32 (.lf) (List.replicate 32 (.sc (.int .u8 0))), .sc (.int .i64 0), .ar 32 (.lf) (List.replicate 32 (.sc (.int .u8 0))), .ar 32 (.lf) (List.replicate 32 (.sc (.int .u8 0)))], .st [.st [.sc (.int .i64 0), .sc (.int .i64 0), .sc (.int .i64 0), .sc (.int .i64 0), .ar 32 (.lf) (List.replicate 32 (.sc (.int .u8 0))), .sc (.int .i64 0), .ar 32 (.lf) (List.replicate 32 (.sc (.int .u8 0))), .ar 32 (.lf) (List.replicate 32 (.sc (.int .u8 0)))], .sl (.nd [.lf, .ar 32 (.lf)]) [] .ex], .st [.sc (.int .i64 0), .sc (.int .i64 0), .sc (.int .i64 0), .ar 32 (.lf) (List.replicate 32 (.sc (.int .u8 0))), .sl (.lf) [] .ex, .ar 32 (.lf) (List.replicate 32 (.sc (.int .u8 0)))], .st [.ar 32 (.lf) (List.replicate 32 (.sc (.int .u8 0))), .sc (.int .i64 0), .sc (.int .i64 0), .sc (.int .i64 0), .sl (.nd [.lf, .lf, .lf, .lf, .lf, .lf, .lf]) [] .ex], .ar 32 (.lf) (List.replicate 32 (.sc (.int .u8 0))), .st [.sc (.int .i64 0), .sc (.int .i64 0), .sc (.int .i64 0), .sc (.int .i64 0), .sc (.int .i64 0), .sc (.string .empty), .sc (.string .empty)]] }),
  (69, { k := .slice 42, sh := .lf, bytes := 24, zero := .sl (.ar 32 (.lf)) [] .ex }),
  (72, { k := .arr 22 4, sh := .ar 22 (.lf), bytes := 22, zero := .ar 22 (.lf) (List.replicate 22 (.sc (.bool false))) }),
  (73, { k := .slice 84, sh := .lf, bytes := 24, zero := .sl (.nd [.ar 32 (.lf), .lf, .lf]) [] .ex }),
  (74, { k := .strct [(3, 0), (3, 1), (73, 2)], sh := .nd [.lf, .lf, .lf], bytes := 40, zero := .st [.sc (.int .i64 0), .sc (.int .i64 0), .sl (.nd [.ar 32 (.lf), .lf, .lf]) [] .ex] }),
  (75, { k := .strct [(3, 0), (3, 1), (73, 2)], sh := .nd [.lf, .lf, .lf], bytes := 40, zero := .st [.sc (.int .i64 0), .sc (.int .i64 0), .sl (.nd [.ar 32 (.lf), .lf, .lf]) [] .ex] }),
  (83, { k := .strct [(42, 0), (3, 32), (3, 33)], sh := .nd [.ar 32 (.lf), .lf, .lf], bytes := 48, zero := .st [.ar 32 (.lf) (List.replicate 32 (.sc (.int .u8 0))), .sc (.int .i64 0), .sc (.int .i64 0)] }),
  (84, { k := .strct [(42, 0), (3, 32), (3, 33)], sh := .nd [.ar 32 (.lf), .lf, .lf], bytes := 48, zero := .st [.ar 32 (.lf) (List.replicate 32 (.sc (.int .u8 0))), .sc (.int .i64 0), .sc (.int .i64 0)] }),
  (87, { k := .ptr 84, sh := .lf, bytes := 8, zero := .sc (.pointer none) }),
  (96, { k := .slice 22, sh := .lf, bytes := 24, zero := .sl (.lf) [] .ex }),
  (101, { k := .strct [(3, 0), (42, 1)], sh := .nd [.lf, .ar 32 (.lf)], bytes := 40, zero := .st [.sc (.int .i64 0), .ar 32 (.lf) (List.replicate 32 (.sc (.int .u8 0)))] }),
  (102, { k := .strct [(3, 0), (42, 1)], sh := .nd [.lf, .ar 32 (.lf)], bytes := 40, zero := .st [.sc (.int .i64 0), .ar 32 (.lf) (List.replicate 32 (.sc (.int .u8 0)))] }),
  (116, { k := .ptr 5, sh := .lf, bytes := 8, zero := .sc (.pointer none) })]
def D : Tabs := ⟨tab, [], []⟩
theorem tabOK : TabOK Try.prog D := tabOK_of (by decide +kernel)
theorem hmix : Try.prog.follows .mixedOrders = true := by decide +kernel
end Go.WL.T8
