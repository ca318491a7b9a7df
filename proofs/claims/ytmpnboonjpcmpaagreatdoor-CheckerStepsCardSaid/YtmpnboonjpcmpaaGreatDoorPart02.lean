/- The seat's table of types. No condition. -/
import Derived.Test.YtmpnboonjpcmpaaGreatDoorWordsC
import Derived.Test.YtmpnboonjpcmpaaGreatDoorWordsD
import Derived.Test.YtmpnboonjpcmpaaGreatDoorPart01
import Derived.Test.YtmpnboonjpcmpaaGreatDoorProg
set_option linter.unusedVariables false
set_option linter.unusedSimpArgs false
namespace Go.WL.T7z
open Go.WL Go.Proofs
def tab : List (Nat × TI) := [
  (2, { k := .int .i64, sh := .lf, bytes := 8, zero := .sc (.int .i64 0) }),
  (3, { k := .int .i64, sh := .lf, bytes := 8, zero := .sc (.int .i64 0) }),
  (4, { k := .bool, sh := .lf, bytes := 1, zero := .sc (.bool false) }),
  (5, { k := .int .u8, sh := .lf, bytes := 1, zero := .sc (.int .u8 0) }),
  (9, { k := .str, sh := .lf, bytes := 16, zero := .sc (.string .empty) }),
  (12, { k := .int .u64, sh := .lf, bytes := 8, zero := .sc (.int .u64 0) }),
  (21, { k := .int .i32, sh := .lf, bytes := 4, zero := .sc (.int .i32 0) }),
  (22, { k := .arr 32 5, sh := .ar 32 (.lf), bytes := 32, zero := .ar 32 (.lf) (List.replicate 32 (.sc (.int .u8 0))) }),
  (23, { k := .arr 32 5, sh := .ar 32 (.lf), bytes := 32, zero := .ar 32 (.lf) (List.replicate 32 (.sc (.int .u8 0))) }),
  (24, { k := .strct [(3, 0), (3, 1), (3, 2), (23, 3)], sh := .nd [.lf, .lf, .lf, .ar 32 (.lf)], bytes := 56, zero := .st [.sc (.int .i64 0), .sc (.int .i64 0), .sc (.int .i64 0), .ar 32 (.lf) (List.replicate 32 (.sc (.int .u8 0)))] }),
  (25, { k := .strct [(3, 0), (3, 1), (3, 2), (23, 3)], sh := .nd [.lf, .lf, .lf, .ar 32 (.lf)], bytes := 56, zero := .st [.sc (.int .i64 0), .sc (.int .i64 0), .sc (.int .i64 0), .ar 32 (.lf) (List.replicate 32 (.sc (.int .u8 0)))] }),
  (26, { k := .slice 55, sh := .lf, bytes := 24, zero := .sl (.nd [.lf, .lf, .lf, .lf, .lf, .lf, .lf]) [] .ex }),
  (27, { k := .strct [(23, 0), (3, 32), (3, 33), (3, 34), (26, 35)], sh := .nd [.ar 32 (.lf), .lf, .lf, .lf, .lf], bytes := 80, zero := .st [.ar 32 (.lf) (List.replicate 32 (.sc (.int .u8 0))), .sc (.int .i64 0), .sc (.int .i64 0), .sc (.int .i64 0), .sl (.nd [.lf, .lf, .lf, .lf, .lf, .lf, .lf]) [] .ex] }),
  (28, { k := .strct [(23, 0), (3, 32), (3, 33), (3, 34), (26, 35)], sh := .nd [.ar 32 (.lf), .lf, .lf, .lf, .lf], bytes := 80, zero := .st [.ar 32 (.lf) (List.replicate 32 (.sc (.int .u8 0))), .sc (.int .i64 0), .sc (.int .i64 0), .sc (.int .i64 0), .sl (.nd [.lf, .lf, .lf, .lf, .lf, .lf, .lf]) [] .ex] }),
  (29, { k := .slice 3, sh := .lf, bytes := 24, zero := .sl (.lf) [] .ex }),
  (30, { k := .strct [(3, 0), (3, 1), (3, 2), (23, 3), (29, 35), (23, 36)], sh := .nd [.lf, .lf, .lf, .ar 32 (.lf), .lf, .ar 32 (.lf)], bytes := 112, zero := .st [.sc (.int .i64 0), .sc (.int .i64 0), .sc (.int .i64 0), .ar 32 (.lf) (List.replicate 32 (.sc (.int .u8 0))), .sl (.lf) [] .ex, .ar 32 (.lf) (List.replicate 32 (.sc (.int .u8 0)))] }),
  (31, { k := .strct [(3, 0), (3, 1), (3, 2), (23, 3), (29, 35), (23, 36)], sh := .nd [.lf, .lf, .lf, .ar 32 (.lf), .lf, .ar 32 (.lf)], bytes := 112, zero := .st [.sc (.int .i64 0), .sc (.int .i64 0), .sc (.int .i64 0), .ar 32 (.lf) (List.replicate 32 (.sc (.int .u8 0))), .sl (.lf) [] .ex, .ar 32 (.lf) (List.replicate 32 (.sc (.int .u8 0)))] }),
  (32, { k := .strct [(3, 0), (3, 1), (3, 2), (3, 3), (23, 4), (3, 36), (23, 37), (23, 69)], sh := .nd [.lf, .lf, .lf, .lf, .ar 32 (.lf), .lf, .ar 32 (.lf), .ar 32 (.lf)], bytes := 136, zero := .st [.sc (.int .i64 0), .sc (.int .i64 0), .sc (.int .i64 0), .sc (.int .i64 0), .ar 32 (.lf) (List.replicate 32 (.sc (.int .u8 0))), .sc (.int .i64 0), .ar 32 (.lf) (List.replicate 32 (.sc (.int .u8 0))), .ar 32 (.lf) (List.replicate 32 (.sc (.int .u8 0)))] }),
  (33, { k := .strct [(3, 0), (3, 1), (3, 2), (3, 3), (23, 4), (3, 36), (23, 37), (23, 69)], sh := .nd [.lf, .lf, .lf, .lf, .ar 32 (.lf), .lf, .ar 32 (.lf), .ar 32 (.lf)], bytes := 136, zero := .st [.sc (.int .i64 0), .sc (.int .i64 0), .sc (.int .i64 0), .sc (.int .i64 0), .ar 32 (.lf) (List.replicate 32 (.sc (.int .u8 0))), .sc (.int .i64 0), .ar 32 (.lf) (List.replicate 32 (.sc (.int .u8 0))), .ar 32 (.lf) (List.replicate 32 (.sc (.int .u8 0)))] }),
  (34, { k := .slice 82, sh := .lf, bytes := 24, zero := .sl (.nd [.lf, .ar 32 (.lf)]) [] .ex }),
  (35, { k := .strct [(33, 0), (34, 101)], sh := .nd [.nd [.lf, .lf, .lf, .lf, .ar 32 (.lf), .lf, .ar 32 (.lf), .ar 32 (.lf)], .lf], bytes := 160, zero := .st [.st [.sc (.int .i64 0), .sc (.int .i64 0), .sc (.int .i64 0), .sc (.int .i64 0), .ar 32 (.lf) (List.replicate 32 (.sc (.int .u8 0))), .sc (.int .i64 0), .ar 32 (.lf) (List.replicate 32 (.sc (.int .u8 0))), .ar 32 (.lf) (List.replicate 32 (.sc (.int .u8 0)))], .sl (.nd [.lf, .ar 32 (.lf)]) [] .ex] }),
  (36, { k := .strct [(33, 0), (34, 101)], sh := .nd [.nd [.lf, .lf, .lf, .lf, .ar 32 (.lf), .lf, .ar 32 (.lf), .ar 32 (.lf)], .lf], bytes := 160, zero := .st [.st [.sc (.int .i64 0), .sc (.int .i64 0), .sc (.int .i64 0), .sc (.int .i64 0), .ar 32 (.lf) (List.replicate 32 (.sc (.int .u8 0))), .sc (.int .i64 0), .ar 32 (.lf) (List.replicate 32 (.sc (.int .u8 0))), .ar 32 (.lf) (List.replicate 32 (.sc (.int .u8 0)))], .sl (.nd [.lf, .ar 32 (.lf)]) [] .ex] }),
  (37, { k := .strct [(3, 0), (3, 1), (28, 2), (31, 38), (36, 106)], sh := .nd [.lf, .lf, .nd [.ar 32 (.lf), .lf, .lf, .lf, .lf], .nd [.lf, .lf, .lf, .ar 32 (.lf), .lf, .ar 32 (.lf)], .nd [.nd [.lf, .lf, .lf, .lf, .ar 32 (.lf), .lf, .ar 32 (.lf), .ar 32 (.lf)], .lf]], bytes := 368, zero := .st [.sc (.int .i64 0), .sc (.int .i64 0), .st [.ar 32 (.lf) (List.replicate 32 (.sc (.int .u8 0))), .sc (.int .i64 0), .sc (.int .i64 0), .sc (.int .i64 0), .sl (.nd [.lf, .lf, .lf, .lf, .lf, .lf, .lf]) [] .ex], .st [.sc (.int .i64 0), .sc (.int .i64 0), .sc (.int .i64 0), .ar 32 (.lf) (List.replicate 32 (.sc (.int .u8 0))), .sl (.lf) [] .ex, .ar 32 (.lf) (List.replicate 32 (.sc (.int .u8 0)))], .st [.st [.sc (.int .i64 0), .sc (.int .i64 0), .sc (.int .i64 0), .sc (.int .i64 0), .ar 32 (.lf) (List.replicate 32 (.sc (.int .u8 0))), .sc (.int .i64 0), .ar 32 (.lf) (List.replicate 32 (.sc (.int .u8 0))), .ar 32 (.lf) (List.replicate 32 (.sc (.int .u8 0)))], .sl (.nd [.lf, .ar 32 (.lf)]) [] .ex]] }),
  (38, { k := .strct [(3, 0), (3, 1), (28, 2), (31, 38), (36, 106)], sh := .nd [.lf, .lf, .nd [.ar 32 (.lf), .lf, .lf, .lf, .lf], .nd [.lf, .lf, .lf, .ar 32 (.lf), .lf, .ar 32 (.lf)], .nd [.nd [.lf, .lf, .lf, .lf, .ar 32 (.lf), .lf, .ar 32 (.lf), .ar 32 (.lf)], .lf]], bytes := 368, zero := .st [.sc (.int .i64 0), .sc (.int .i64 0), .st [.ar 32 (.lf) (List.replicate 32 (.sc (.int .u8 0))), .sc (.int .i64 0), .sc (.int .i64 0), .sc (.int .i64 0), .sl (.nd [.lf, .lf, .lf, .lf, .lf, .lf, .lf]) [] .ex], .st [.sc (.int .i64 0), .sc (.int .i64 0), .sc (.int .i64 0), .ar 32 (.lf) (List.replicate 32 (.sc (.int .u8 0))), .sl (.lf) [] .ex, .ar 32 (.lf) (List.replicate 32 (.sc (.int .u8 0)))], .st [.st [.sc (.int .i64 0), .sc (.int .i64 0), .sc (.int .i64 0), .sc (.int .i64 0), .ar 32 (.lf) (List.replicate 32 (.sc (.int .u8 0))), .sc (.int .i64 0), .ar 32 (.lf) (List.replicate 32 (.sc (.int .u8 0))), .ar 32 (.lf) (List.replicate 32 (.sc (.int .u8 0)))], .sl (.nd [.lf, .ar 32 (.lf)]) [] .ex]] }),
  (41, { k := .int .i64, sh := .lf, bytes := 8, zero := .sc (.int .i64 0) }),
  (54, { k := .strct [(3, 0), (3, 1), (3, 2), (3, 3), (3, 4), (9, 5), (9, 6)], sh := .nd [.lf, .lf, .lf, .lf, .lf, .lf, .lf], bytes := 72, zero := .st [.sc (.int .i64 0), .sc (.int .i64 0), .sc (.int .i64 0), .sc (.int .i64 0), .sc (.int .i64 0), .sc (.string .empty), .sc (.string .empty)] }),
  (55, { k := .strct [(3, 0), (3, 1), (3, 2), (3, 3), (3, 4), (9, 5), (9, 6)], sh := .nd [.lf, .lf, .lf, .lf, .lf, .lf, .lf], bytes := 72, zero := .st [.sc (.int .i64 0), .sc (.int .i64 0), .sc (.int .i64 0), .sc (.int .i64 0), .sc (.int .i64 0), .sc (.string .empty), .sc (.string .empty)] }),
  (71, { k := .slice 5, sh := .lf, bytes := 24, zero := .sl (.lf) [] .ex }),
  (81, { k := .strct [(3, 0), (23, 1)], sh := .nd [.lf, .ar 32 (.lf)], bytes := 40, zero := .st [.sc (.int .i64 0), .ar 32 (.lf) (List.replicate 32 (.sc (.int .u8 0)))] }),
  (82, { k := .strct [(3, 0), (23, 1)], sh := .nd [.lf, .ar 32 (.lf)], bytes := 40, zero := .st [.sc (.int .i64 0), .ar 32 (.lf) (List.replicate 32 (.sc (.int .u8 0)))] }),
  (91, { k := .slice 71, sh := .lf, bytes := 24, zero := .sl (.lf) [] .ex }),
  (95, { k := .int .u64, sh := .lf, bytes := 8, zero := .sc (.int .u64 0) }),
  (98, { k := .int .u32, sh := .lf, bytes := 4, zero := .sc (.int .u32 0) }),
  (99, { k := .arr 8 98, sh := .ar 8 (.lf), bytes := 32, zero := .ar 8 (.lf) (List.replicate 8 (.sc (.int .u32 0))) }),
  (103, { k := .arr 64 5, sh := .ar 64 (.lf), bytes := 64, zero := .ar 64 (.lf) (List.replicate 64 (.sc (.int .u8 0))) }),
  (104, { k := .int .u64, sh := .lf, bytes := 8, zero := .sc (.int .u64 0) }),
  (119, { k := .arr 64 98, sh := .ar 64 (.lf), bytes := 256, zero := .ar 64 (.lf) (List.replicate 64 (.sc (.int .u32 0))) }),
  (126, { k := .slice 91, sh := .lf, bytes := 24, zero := .sl (.lf) [] .ex }),
  (138, { k := .ptr 5, sh := .lf, bytes := 8, zero := .sc (.pointer none) })]
def gk1 : List Int := [1116352408, 1899447441, 3049323471, 3921009573, 961987163, 1508970993, 2453635748, 2870763221, 3624381080, 310598401, 607225278, 1426881987, 1925078388, 2162078206, 2614888103, 3248222580, 3835390401, 4022224774, 264347078, 604807628, 770255983, 1249150122, 1555081692, 1996064986, 2554220882, 2821834349, 2952996808, 3210313671, 3336571891, 3584528711, 113926993, 338241895, 666307205, 773529912, 1294757372, 1396182291, 1695183700, 1986661051, 2177026350, 2456956037, 2730485921, 2820302411, 3259730800, 3345764771, 3516065817, 3600352804, 4094571909, 275423344, 430227734, 506948616, 659060556, 883997877, 958139571, 1322822218, 1537002063, 1747873779, 1955562222, 2024104815, 2227730452, 2361852424, 2428436474, 2756734187, 3204031479, 3329325298]
def gk0 : List Int := [1116352408, 1899447441, 3049323471, 3921009573, 961987163, 1508970993, 2453635748, 2870763221, 3624381080, 310598401, 607225278, 1426881987, 1925078388, 2162078206, 2614888103, 3248222580, 3835390401, 4022224774, 264347078, 604807628, 770255983, 1249150122, 1555081692, 1996064986, 2554220882, 2821834349, 2952996808, 3210313671, 3336571891, 3584528711, 113926993, 338241895, 666307205, 773529912, 1294757372, 1396182291, 1695183700, 1986661051, 2177026350, 2456956037, 2730485921, 2820302411, 3259730800, 3345764771, 3516065817, 3600352804, 4094571909, 275423344, 430227734, 506948616, 659060556, 883997877, 958139571, 1322822218, 1537002063, 1747873779, 1955562222, 2024104815, 2227730452, 2361852424, 2428436474, 2756734187, 3204031479, 3329325298]
def D : Tabs := ⟨tab, [(1, .ar 64 .lf (ints .u32 gk1)), (0, .ar 64 .lf (ints .u32 gk0))], []⟩
theorem tabOK : TabOK Tryz.prog D := tabOK_of (by decide +kernel)
theorem hmix : Tryz.prog.follows .mixedOrders = true := by decide +kernel
end Go.WL.T7z
