/- The seat's table of types. No condition. -/
import Derived.Test.YtmpnboonjpcmpaaDoorWordsC
import Derived.Test.YtmpnboonjpcmpaaDoorWordsD
import Derived.Test.YtmpnboonjpcmpaaDoorPart01
import Derived.Test.YtmpnboonjpcmpaaDoorProg
set_option linter.unusedVariables false
set_option linter.unusedSimpArgs false
namespace Go.WL.T7
open Go.WL Go.Proofs
def tab : List (Nat × TI) := [
  (2, { k := .int .i64, sh := .lf, bytes := 8, zero := .sc (.int .i64 0) }),
  (3, { k := .int .i64, sh := .lf, bytes := 8, zero := .sc (.int .i64 0) }),
  (4, { k := .bool, sh := .lf, bytes := 1, zero := .sc (.bool false) }),
  (5, { k := .int .u8, sh := .lf, bytes := 1, zero := .sc (.int .u8 0) }),
  (9, { k := .str, sh := .lf, bytes := 16, zero := .sc (.string .empty) }),
  (12, { k := .int .u64, sh := .lf, bytes := 8, zero := .sc (.int .u64 0) }),
  (21, { k := .int .i32, sh := .lf, bytes := 4, zero := .sc (.int .i32 0) }),
  (22, { k := .arr 32 5, sh := .ar 32 (.lf), bytes := 32, zero := .ar 32 (.lf) (List.replicate 32 (.sc (.int .u8 0))) }),
  (23, { k := .arr 32 5, sh := .ar 32 (.lf), bytes := 32, zero := .ar 32 (.lf) (List.replicate 32 (.sc (.int .u8 0))) }),
  (24, { k := .slice 123, sh := .lf, bytes := 24, zero := .sl (.nd [.lf, .lf, .lf, .lf, .lf, .lf, .lf]) [] .ex }),
  (25, { k := .strct [(23, 0), (3, 32), (3, 33), (3, 34), (24, 35)], sh := .nd [.ar 32 (.lf), .lf, .lf, .lf, .lf], bytes := 80, zero := .st [.ar 32 (.lf) (List.replicate 32 (.sc (.int .u8 0))), .sc (.int .i64 0), .sc (.int .i64 0), .sc (.int .i64 0), .sl (.nd [.lf, .lf, .lf, .lf, .lf, .lf, .lf]) [] .ex] }),
  (26, { k := .strct [(23, 0), (3, 32), (3, 33), (3, 34), (24, 35)], sh := .nd [.ar 32 (.lf), .lf, .lf, .lf, .lf], bytes := 80, zero := .st [.ar 32 (.lf) (List.replicate 32 (.sc (.int .u8 0))), .sc (.int .i64 0), .sc (.int .i64 0), .sc (.int .i64 0), .sl (.nd [.lf, .lf, .lf, .lf, .lf, .lf, .lf]) [] .ex] }),
  (27, { k := .slice 41, sh := .lf, bytes := 24, zero := .sl (.nd [.lf, .nd [.ar 32 (.lf), .lf, .lf, .lf, .lf], .lf]) [] .ex }),
  (31, { k := .ptr 63, sh := .lf, bytes := 8, zero := .sc (.pointer none) }),
  (32, { k := .int .i64, sh := .lf, bytes := 8, zero := .sc (.int .i64 0) }),
  (35, { k := .slice 26, sh := .lf, bytes := 24, zero := .sl (.nd [.ar 32 (.lf), .lf, .lf, .lf, .lf]) [] .ex }),
  (36, { k := .slice 23, sh := .lf, bytes := 24, zero := .sl (.ar 32 (.lf)) [] .ex }),
  (37, { k := .strct [(35, 0), (36, 1)], sh := .nd [.lf, .lf], bytes := 48, zero := .st [.sl (.nd [.ar 32 (.lf), .lf, .lf, .lf, .lf]) [] .ex, .sl (.ar 32 (.lf)) [] .ex] }),
  (38, { k := .strct [(35, 0), (36, 1)], sh := .nd [.lf, .lf], bytes := 48, zero := .st [.sl (.nd [.ar 32 (.lf), .lf, .lf, .lf, .lf]) [] .ex, .sl (.ar 32 (.lf)) [] .ex] }),
  (40, { k := .strct [(3, 0), (26, 1), (3, 37)], sh := .nd [.lf, .nd [.ar 32 (.lf), .lf, .lf, .lf, .lf], .lf], bytes := 96, zero := .st [.sc (.int .i64 0), .st [.ar 32 (.lf) (List.replicate 32 (.sc (.int .u8 0))), .sc (.int .i64 0), .sc (.int .i64 0), .sc (.int .i64 0), .sl (.nd [.lf, .lf, .lf, .lf, .lf, .lf, .lf]) [] .ex], .sc (.int .i64 0)] }),
  (41, { k := .strct [(3, 0), (26, 1), (3, 37)], sh := .nd [.lf, .nd [.ar 32 (.lf), .lf, .lf, .lf, .lf], .lf], bytes := 96, zero := .st [.sc (.int .i64 0), .st [.ar 32 (.lf) (List.replicate 32 (.sc (.int .u8 0))), .sc (.int .i64 0), .sc (.int .i64 0), .sc (.int .i64 0), .sl (.nd [.lf, .lf, .lf, .lf, .lf, .lf, .lf]) [] .ex], .sc (.int .i64 0)] }),
  (60, { k := .arr 3 3, sh := .ar 3 (.lf), bytes := 24, zero := .ar 3 (.lf) (List.replicate 3 (.sc (.int .i64 0))) }),
  (61, { k := .map 23 26, sh := .lf, bytes := 8, zero := .sc (.map none) }),
  (62, { k := .strct [(23, 0), (61, 32), (36, 33)], sh := .nd [.ar 32 (.lf), .lf, .lf], bytes := 64, zero := .st [.ar 32 (.lf) (List.replicate 32 (.sc (.int .u8 0))), .sc (.map none), .sl (.ar 32 (.lf)) [] .ex] }),
  (63, { k := .strct [(23, 0), (61, 32), (36, 33)], sh := .nd [.ar 32 (.lf), .lf, .lf], bytes := 64, zero := .st [.ar 32 (.lf) (List.replicate 32 (.sc (.int .u8 0))), .sc (.map none), .sl (.ar 32 (.lf)) [] .ex] }),
  (65, { k := .slice 173, sh := .lf, bytes := 24, zero := .sl (.nd [.lf, .lf, .lf]) [] .ex }),
  (66, { k := .slice 132, sh := .lf, bytes := 24, zero := .sl (.nd [.lf, .lf]) [] .ex }),
  (67, { k := .strct [(65, 0), (66, 1)], sh := .nd [.lf, .lf], bytes := 48, zero := .st [.sl (.nd [.lf, .lf, .lf]) [] .ex, .sl (.nd [.lf, .lf]) [] .ex] }),
  (68, { k := .strct [(65, 0), (66, 1)], sh := .nd [.lf, .lf], bytes := 48, zero := .st [.sl (.nd [.lf, .lf, .lf]) [] .ex, .sl (.nd [.lf, .lf]) [] .ex] }),
  (70, { k := .slice 82, sh := .lf, bytes := 24, zero := .sl (.lf) [] .ex }),
  (82, { k := .slice 5, sh := .lf, bytes := 24, zero := .sl (.lf) [] .ex }),
  (83, { k := .strct [(3, 0), (3, 1), (82, 2)], sh := .nd [.lf, .lf, .lf], bytes := 40, zero := .st [.sc (.int .i64 0), .sc (.int .i64 0), .sl (.lf) [] .ex] }),
  (84, { k := .strct [(3, 0), (3, 1), (82, 2)], sh := .nd [.lf, .lf, .lf], bytes := 40, zero := .st [.sc (.int .i64 0), .sc (.int .i64 0), .sl (.lf) [] .ex] }),
  (89, { k := .strct [(3, 0), (23, 1), (3, 33), (3, 34)], sh := .nd [.lf, .ar 32 (.lf), .lf, .lf], bytes := 56, zero := .st [.sc (.int .i64 0), .ar 32 (.lf) (List.replicate 32 (.sc (.int .u8 0))), .sc (.int .i64 0), .sc (.int .i64 0)] }),
  (90, { k := .strct [(3, 0), (23, 1), (3, 33), (3, 34)], sh := .nd [.lf, .ar 32 (.lf), .lf, .lf], bytes := 56, zero := .st [.sc (.int .i64 0), .ar 32 (.lf) (List.replicate 32 (.sc (.int .u8 0))), .sc (.int .i64 0), .sc (.int .i64 0)] }),
  (91, { k := .strct [(3, 0), (3, 1), (3, 2), (3, 3), (23, 4), (3, 36), (23, 37), (23, 69)], sh := .nd [.lf, .lf, .lf, .lf, .ar 32 (.lf), .lf, .ar 32 (.lf), .ar 32 (.lf)], bytes := 136, zero := .st [.sc (.int .i64 0), .sc (.int .i64 0), .sc (.int .i64 0), .sc (.int .i64 0), .ar 32 (.lf) (List.replicate 32 (.sc (.int .u8 0))), .sc (.int .i64 0), .ar 32 (.lf) (List.replicate 32 (.sc (.int .u8 0))), .ar 32 (.lf) (List.replicate 32 (.sc (.int .u8 0)))] }),
  (92, { k := .strct [(3, 0), (3, 1), (3, 2), (3, 3), (23, 4), (3, 36), (23, 37), (23, 69)], sh := .nd [.lf, .lf, .lf, .lf, .ar 32 (.lf), .lf, .ar 32 (.lf), .ar 32 (.lf)], bytes := 136, zero := .st [.sc (.int .i64 0), .sc (.int .i64 0), .sc (.int .i64 0), .sc (.int .i64 0), .ar 32 (.lf) (List.replicate 32 (.sc (.int .u8 0))), .sc (.int .i64 0), .ar 32 (.lf) (List.replicate 32 (.sc (.int .u8 0))), .ar 32 (.lf) (List.replicate 32 (.sc (.int .u8 0)))] }),
  (93, { k := .slice 194, sh := .lf, bytes := 24, zero := .sl (.nd [.lf, .ar 32 (.lf)]) [] .ex }),
  (94, { k := .strct [(92, 0), (93, 101)], sh := .nd [.nd [.lf, .lf, .lf, .lf, .ar 32 (.lf), .lf, .ar 32 (.lf), .ar 32 (.lf)], .lf], bytes := 160, zero := .st [.st [.sc (.int .i64 0), .sc (.int .i64 0), .sc (.int .i64 0), .sc (.int .i64 0), .ar 32 (.lf) (List.replicate 32 (.sc (.int .u8 0))), .sc (.int .i64 0), .ar 32 (.lf) (List.replicate 32 (.sc (.int .u8 0))), .ar 32 (.lf) (List.replicate 32 (.sc (.int .u8 0)))], .sl (.nd [.lf, .ar 32 (.lf)]) [] .ex] }),
  (95, { k := .strct [(92, 0), (93, 101)], sh := .nd [.nd [.lf, .lf, .lf, .lf, .ar 32 (.lf), .lf, .ar 32 (.lf), .ar 32 (.lf)], .lf], bytes := 160, zero := .st [.st [.sc (.int .i64 0), .sc (.int .i64 0), .sc (.int .i64 0), .sc (.int .i64 0), .ar 32 (.lf) (List.replicate 32 (.sc (.int .u8 0))), .sc (.int .i64 0), .ar 32 (.lf) (List.replicate 32 (.sc (.int .u8 0))), .ar 32 (.lf) (List.replicate 32 (.sc (.int .u8 0)))], .sl (.nd [.lf, .ar 32 (.lf)]) [] .ex] }),
  (106, { k := .slice 35, sh := .lf, bytes := 24, zero := .sl (.lf) [] .ex }),
  (107, { k := .slice 95, sh := .lf, bytes := 24, zero := .sl (.nd [.nd [.lf, .lf, .lf, .lf, .ar 32 (.lf), .lf, .ar 32 (.lf), .ar 32 (.lf)], .lf]) [] .ex }),
  (109, { k := .slice 117, sh := .lf, bytes := 24, zero := .sl (.nd [.lf, .lf, .nd [.ar 32 (.lf), .lf, .lf, .lf, .lf], .nd [.lf, .lf, .lf, .ar 32 (.lf), .lf, .ar 32 (.lf)], .nd [.nd [.lf, .lf, .lf, .lf, .ar 32 (.lf), .lf, .ar 32 (.lf), .ar 32 (.lf)], .lf]]) [] .ex }),
  (110, { k := .strct [(3, 0), (3, 1), (3, 2), (23, 3)], sh := .nd [.lf, .lf, .lf, .ar 32 (.lf)], bytes := 56, zero := .st [.sc (.int .i64 0), .sc (.int .i64 0), .sc (.int .i64 0), .ar 32 (.lf) (List.replicate 32 (.sc (.int .u8 0)))] }),
  (111, { k := .strct [(3, 0), (3, 1), (3, 2), (23, 3)], sh := .nd [.lf, .lf, .lf, .ar 32 (.lf)], bytes := 56, zero := .st [.sc (.int .i64 0), .sc (.int .i64 0), .sc (.int .i64 0), .ar 32 (.lf) (List.replicate 32 (.sc (.int .u8 0)))] }),
  (113, { k := .slice 3, sh := .lf, bytes := 24, zero := .sl (.lf) [] .ex }),
  (114, { k := .strct [(3, 0), (3, 1), (3, 2), (23, 3), (113, 35), (23, 36)], sh := .nd [.lf, .lf, .lf, .ar 32 (.lf), .lf, .ar 32 (.lf)], bytes := 112, zero := .st [.sc (.int .i64 0), .sc (.int .i64 0), .sc (.int .i64 0), .ar 32 (.lf) (List.replicate 32 (.sc (.int .u8 0))), .sl (.lf) [] .ex, .ar 32 (.lf) (List.replicate 32 (.sc (.int .u8 0)))] }),
  (115, { k := .strct [(3, 0), (3, 1), (3, 2), (23, 3), (113, 35), (23, 36)], sh := .nd [.lf, .lf, .lf, .ar 32 (.lf), .lf, .ar 32 (.lf)], bytes := 112, zero := .st [.sc (.int .i64 0), .sc (.int .i64 0), .sc (.int .i64 0), .ar 32 (.lf) (List.replicate 32 (.sc (.int .u8 0))), .sl (.lf) [] .ex, .ar 32 (.lf) (List.replicate 32 (.sc (.int .u8 0)))] }),
  (116, { k := .strct [(3, 0), (3, 1), (26, 2), (115, 38), (95, 106)], sh := .nd [.lf, .lf, .nd [.ar 32 (.lf), .lf, .lf, .lf, .lf], .nd [.lf, .lf, .lf, .ar 32 (.lf), .lf, .ar 32 (.lf)], .nd [.nd [.lf, .lf, .lf, .lf, .ar 32 (.lf), .lf, .ar 32 (.lf), .ar 32 (.lf)], .lf]], bytes := 368, zero := .st [.sc (.int .i64 0), .sc (.int .i64 0), .st [.ar 32 (.lf) (List.replicate 32 (.sc (.int .u8 0))), .sc (.int .i64 0), .sc (.int .i64 0), .sc (.int .i64 0), .sl (.nd [.lf, .lf, .lf, .lf, .lf, .lf, .lf]) [] .ex], .st [.sc (.int .i64 0), .sc (.int .i64 0), .sc (.int .i64 0), .ar 32 (.lf) (List.replicate 32 (.sc (.int .u8 0))), .sl (.lf) [] .ex, .ar 32 (.lf) (List.replicate 32 (.sc (.int .u8 0)))], .st [.st [.sc (.int .i64 0), .sc (.int .i64 0), .sc (.int .i64 0), .sc (.int .i64 0), .ar 32 (.lf) (List.replicate 32 (.sc (.int .u8 0))), .sc (.int .i64 0), .ar 32 (.lf) (List.replicate 32 (.sc (.int .u8 0))), .ar 32 (.lf) (List.replicate 32 (.sc (.int .u8 0)))], .sl (.nd [.lf, .ar 32 (.lf)]) [] .ex]] }),
  (117, { k := .strct [(3, 0), (3, 1), (26, 2), (115, 38), (95, 106)], sh := .nd [.lf, .lf, .nd [.ar 32 (.lf), .lf, .lf, .lf, .lf], .nd [.lf, .lf, .lf, .ar 32 (.lf), .lf, .ar 32 (.lf)], .nd [.nd [.lf, .lf, .lf, .lf, .ar 32 (.lf), .lf, .ar 32 (.lf), .ar 32 (.lf)], .lf]], bytes := 368, zero := .st [.sc (.int .i64 0), .sc (.int .i64 0), .st [.ar 32 (.lf) (List.replicate 32 (.sc (.int .u8 0))), .sc (.int .i64 0), .sc (.int .i64 0), .sc (.int .i64 0), .sl (.nd [.lf, .lf, .lf, .lf, .lf, .lf, .lf]) [] .ex], .st [.sc (.int .i64 0), .sc (.int .i64 0), .sc (.int .i64 0), .ar 32 (.lf) (List.replicate 32 (.sc (.int .u8 0))), .sl (.lf) [] .ex, .ar 32 (.lf) (List.replicate 32 (.sc (.int .u8 0)))], .st [.st [.sc (.int .i64 0), .sc (.int .i64 0), .sc (.int .i64 0), .sc (.int .i64 0), .ar 32 (.lf) (List.replicate 32 (.sc (.int .u8 0))), .sc (.int .i64 0), .ar 32 (.lf) (List.replicate 32 (.sc (.int .u8 0))), .ar 32 (.lf) (List.replicate 32 (.sc (.int .u8 0)))], .sl (.nd [.lf, .ar 32 (.lf)]) [] .ex]] }),
  (122, { k := .strct [(3, 0), (3, 1), (3, 2), (3, 3), (3, 4), (9, 5), (9, 6)], sh := .nd [.lf, .lf, .lf, .lf, .lf, .lf, .lf], bytes := 72, zero := .st [.sc (.int .i64 0), .sc (.int .i64 0), .sc (.int .i64 0), .sc (.int .i64 0), .sc (.int .i64 0), .sc (.string .empty), .sc (.string .empty)] }),
  (123, { k := .strct [(3, 0), (3, 1), (3, 2), (3, 3), (3, 4), (9, 5), (9, 6)], sh := .nd [.lf, .lf, .lf, .lf, .lf, .lf, .lf], bytes := 72, zero := .st [.sc (.int .i64 0), .sc (.int .i64 0), .sc (.int .i64 0), .sc (.int .i64 0), .sc (.int .i64 0), .sc (.string .empty), .sc (.string .empty)] }),
  (128, { k := .map 23 4, sh := .lf, bytes := 8, zero := .sc (.map none) }),
  (131, { k := .strct [(9, 0), (9, 1)], sh := .nd [.lf, .lf], bytes := 32, zero := .st [.sc (.string .empty), .sc (.string .empty)] }),
  (132, { k := .strct [(9, 0), (9, 1)], sh := .nd [.lf, .lf], bytes := 32, zero := .st [.sc (.string .empty), .sc (.string .empty)] }),
  (136, { k := .func, sh := .lf, bytes := 8, zero := .sc .nilFunc }),
  (171, { k := .int .u64, sh := .lf, bytes := 8, zero := .sc (.int .u64 0) }),
  (172, { k := .strct [(3, 0), (3, 1), (3, 2)], sh := .nd [.lf, .lf, .lf], bytes := 24, zero := .st [.sc (.int .i64 0), .sc (.int .i64 0), .sc (.int .i64 0)] }),
  (173, { k := .strct [(3, 0), (3, 1), (3, 2)], sh := .nd [.lf, .lf, .lf], bytes := 24, zero := .st [.sc (.int .i64 0), .sc (.int .i64 0), .sc (.int .i64 0)] }),
  (177, { k := .ptr 213, sh := .lf, bytes := 8, zero := .sc (.pointer none) }),
  (183, { k := .slice 4, sh := .lf, bytes := 24, zero := .sl (.lf) [] .ex }),
  (185, { k := .int .u32, sh := .lf, bytes := 4, zero := .sc (.int .u32 0) }),
  (186, { k := .arr 8 185, sh := .ar 8 (.lf), bytes := 32, zero := .ar 8 (.lf) (List.replicate 8 (.sc (.int .u32 0))) }),
  (187, { k := .arr 64 5, sh := .ar 64 (.lf), bytes := 64, zero := .ar 64 (.lf) (List.replicate 64 (.sc (.int .u8 0))) }),
  (189, { k := .int .u64, sh := .lf, bytes := 8, zero := .sc (.int .u64 0) }),
  (193, { k := .strct [(3, 0), (23, 1)], sh := .nd [.lf, .ar 32 (.lf)], bytes := 40, zero := .st [.sc (.int .i64 0), .ar 32 (.lf) (List.replicate 32 (.sc (.int .u8 0)))] }),
  (194, { k := .strct [(3, 0), (23, 1)], sh := .nd [.lf, .ar 32 (.lf)], bytes := 40, zero := .st [.sc (.int .i64 0), .ar 32 (.lf) (List.replicate 32 (.sc (.int .u8 0)))] }),
  (212, { k := .strct [(82, 0), (4, 1)], sh := .nd [.lf, .lf], bytes := 32, zero := .st [.sl (.lf) [] .ex, .sc (.bool false)] }),
  (213, { k := .strct [(82, 0), (4, 1)], sh := .nd [.lf, .lf], bytes := 32, zero := .st [.sl (.lf) [] .ex, .sc (.bool false)] }),
  (215, { k := .arr 64 185, sh := .ar 64 (.lf), bytes := 256, zero := .ar 64 (.lf) (List.replicate 64 (.sc (.int .u32 0))) }),
  (242, { k := .slice 70, sh := .lf, bytes := 24, zero := .sl (.lf) [] .ex }),
  (254, { k := .ptr 5, sh := .lf, bytes := 8, zero := .sc (.pointer none) })]
def gk0 : List Int := [1116352408, 1899447441, 3049323471, 3921009573, 961987163, 1508970993, 2453635748, 2870763221, 3624381080, 310598401, 607225278, 1426881987, 1925078388, 2162078206, 2614888103, 3248222580, 3835390401, 4022224774, 264347078, 604807628, 770255983, 1249150122, 1555081692, 1996064986, 2554220882, 2821834349, 2952996808, 3210313671, 3336571891, 3584528711, 113926993, 338241895, 666307205, 773529912, 1294757372, 1396182291, 1695183700, 1986661051, 2177026350, 2456956037, 2730485921, 2820302411, 3259730800, 3345764771, 3516065817, 3600352804, 4094571909, 275423344, 430227734, 506948616, 659060556, 883997877, 958139571, 1322822218, 1537002063, 1747873779, 1955562222, 2024104815, 2227730452, 2361852424, 2428436474, 2756734187, 3204031479, 3329325298]
def gk1 : List Int := [1116352408, 1899447441, 3049323471, 3921009573, 961987163, 1508970993, 2453635748, 2870763221, 3624381080, 310598401, 607225278, 1426881987, 1925078388, 2162078206, 2614888103, 3248222580, 3835390401, 4022224774, 264347078, 604807628, 770255983, 1249150122, 1555081692, 1996064986, 2554220882, 2821834349, 2952996808, 3210313671, 3336571891, 3584528711, 113926993, 338241895, 666307205, 773529912, 1294757372, 1396182291, 1695183700, 1986661051, 2177026350, 2456956037, 2730485921, 2820302411, 3259730800, 3345764771, 3516065817, 3600352804, 4094571909, 275423344, 430227734, 506948616, 659060556, 883997877, 958139571, 1322822218, 1537002063, 1747873779, 1955562222, 2024104815, 2227730452, 2361852424, 2428436474, 2756734187, 3204031479, 3329325298]
def D : Tabs := ⟨tab, [(0, .ar 64 .lf (ints .u32 gk0)), (1, .ar 64 .lf (ints .u32 gk1))], []⟩
theorem tabOK : TabOK Tryd.prog D := tabOK_of (by decide +kernel)
theorem hmix : Tryd.prog.follows .mixedOrders = true := by decide +kernel
end Go.WL.T7
