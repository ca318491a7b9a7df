/- The seat's table of types. No condition. -/
import Derived.Test.YtkcflejbhfaihaaDoorWordsC
import Derived.Test.YtkcflejbhfaihaaDoorPart01
import Derived.Test.YtkcflejbhfaihaaDoorProg
set_option linter.unusedVariables false
set_option linter.unusedSimpArgs false
namespace Go.WL.T4
open Go.WL Go.Proofs
def tab : List (Nat × TI) := [
  (2, { k := .int .i64, sh := .lf, bytes := 8, zero := .sc (.int .i64 0) }),
  (3, { k := .int .i64, sh := .lf, bytes := 8, zero := .sc (.int .i64 0) }),
  (4, { k := .bool, sh := .lf, bytes := 1, zero := .sc (.bool false) }),
  (5, { k := .int .u8, sh := .lf, bytes := 1, zero := .sc (.int .u8 0) }),
  (9, { k := .str, sh := .lf, bytes := 16, zero := .sc (.string .empty) }),
  (12, { k := .int .u64, sh := .lf, bytes := 8, zero := .sc (.int .u64 0) }),
  (21, { k := .int .i32, sh := .lf, bytes := 4, zero := .sc (.int .i32 0) }),
  (22, { k := .slice 5, sh := .lf, bytes := 24, zero := .sl (.lf) [] .ex }),
  (23, { k := .int .u16, sh := .lf, bytes := 2, zero := .sc (.int .u16 0) }),
  (25, { k := .arr 32 5, sh := .ar 32 (.lf), bytes := 32, zero := .ar 32 (.lf) (List.replicate 32 (.sc (.int .u8 0))) }),
  (26, { k := .arr 32 5, sh := .ar 32 (.lf), bytes := 32, zero := .ar 32 (.lf) (List.replicate 32 (.sc (.int .u8 0))) }),
  (30, { k := .int .u32, sh := .lf, bytes := 4, zero := .sc (.int .u32 0) }),
  (31, { k := .arr 8 30, sh := .ar 8 (.lf), bytes := 32, zero := .ar 8 (.lf) (List.replicate 8 (.sc (.int .u32 0))) }),
  (32, { k := .arr 64 5, sh := .ar 64 (.lf), bytes := 64, zero := .ar 64 (.lf) (List.replicate 64 (.sc (.int .u8 0))) }),
  (33, { k := .slice 41, sh := .lf, bytes := 24, zero := .sl (.lf) [] .ex }),
  (35, { k := .arr 64 30, sh := .ar 64 (.lf), bytes := 256, zero := .ar 64 (.lf) (List.replicate 64 (.sc (.int .u32 0))) }),
  (41, { k := .int .u64, sh := .lf, bytes := 8, zero := .sc (.int .u64 0) }),
  (51, { k := .strct [(26, 0), (26, 32), (23, 64)], sh := .nd [.ar 32 (.lf), .ar 32 (.lf), .lf], bytes := 66, zero := .st [.ar 32 (.lf) (List.replicate 32 (.sc (.int .u8 0))), .ar 32 (.lf) (List.replicate 32 (.sc (.int .u8 0))), .sc (.int .u16 0)] }),
  (52, { k := .strct [(26, 0), (26, 32), (23, 64)], sh := .nd [.ar 32 (.lf), .ar 32 (.lf), .lf], bytes := 66, zero := .st [.ar 32 (.lf) (List.replicate 32 (.sc (.int .u8 0))), .ar 32 (.lf) (List.replicate 32 (.sc (.int .u8 0))), .sc (.int .u16 0)] }),
  (57, { k := .strct [(3, 0), (5, 1), (26, 2)], sh := .nd [.lf, .lf, .ar 32 (.lf)], bytes := 48, zero := .st [.sc (.int .i64 0), .sc (.int .u8 0), .ar 32 (.lf) (List.replicate 32 (.sc (.int .u8 0)))] }),
  (58, { k := .strct [(3, 0), (5, 1), (26, 2)], sh := .nd [.lf, .lf, .ar 32 (.lf)], bytes := 48, zero := .st [.sc (.int .i64 0), .sc (.int .u8 0), .ar 32 (.lf) (List.replicate 32 (.sc (.int .u8 0)))] }),
  (66, { k := .slice 3, sh := .lf, bytes := 24, zero := .sl (.lf) [] .ex }),
  (69, { k := .slice 22, sh := .lf, bytes := 24, zero := .sl (.lf) [] .ex }),
  (71, { k := .slice 26, sh := .lf, bytes := 24, zero := .sl (.ar 32 (.lf)) [] .ex }),
  (72, { k := .int .i64, sh := .lf, bytes := 8, zero := .sc (.int .i64 0) }),
  (80, { k := .strct [(3, 0), (3, 1), (22, 2)], sh := .nd [.lf, .lf, .lf], bytes := 40, zero := .st [.sc (.int .i64 0), .sc (.int .i64 0), .sl (.lf) [] .ex] }),
  (81, { k := .strct [(3, 0), (3, 1), (22, 2)], sh := .nd [.lf, .lf, .lf], bytes := 40, zero := .st [.sc (.int .i64 0), .sc (.int .i64 0), .sl (.lf) [] .ex] }),
  (86, { k := .strct [(26, 0), (3, 32), (3, 33), (72, 34)], sh := .nd [.ar 32 (.lf), .lf, .lf, .lf], bytes := 56, zero := .st [.ar 32 (.lf) (List.replicate 32 (.sc (.int .u8 0))), .sc (.int .i64 0), .sc (.int .i64 0), .sc (.int .i64 0)] }),
  (87, { k := .strct [(26, 0), (3, 32), (3, 33), (72, 34)], sh := .nd [.ar 32 (.lf), .lf, .lf, .lf], bytes := 56, zero := .st [.ar 32 (.lf) (List.replicate 32 (.sc (.int .u8 0))), .sc (.int .i64 0), .sc (.int .i64 0), .sc (.int .i64 0)] }),
  (88, { k := .strct [(3, 0), (87, 1)], sh := .nd [.lf, .nd [.ar 32 (.lf), .lf, .lf, .lf]], bytes := 64, zero := .st [.sc (.int .i64 0), .st [.ar 32 (.lf) (List.replicate 32 (.sc (.int .u8 0))), .sc (.int .i64 0), .sc (.int .i64 0), .sc (.int .i64 0)]] }),
  (89, { k := .strct [(3, 0), (87, 1)], sh := .nd [.lf, .nd [.ar 32 (.lf), .lf, .lf, .lf]], bytes := 64, zero := .st [.sc (.int .i64 0), .st [.ar 32 (.lf) (List.replicate 32 (.sc (.int .u8 0))), .sc (.int .i64 0), .sc (.int .i64 0), .sc (.int .i64 0)]] }),
  (94, { k := .int .u64, sh := .lf, bytes := 8, zero := .sc (.int .u64 0) }),
  (100, { k := .ptr 102, sh := .lf, bytes := 8, zero := .sc (.pointer none) }),
  (101, { k := .strct [(100, 0), (22, 1)], sh := .nd [.lf, .lf], bytes := 32, zero := .st [.sc (.pointer none), .sl (.lf) [] .ex] }),
  (102, { k := .strct [(100, 0), (22, 1)], sh := .nd [.lf, .lf], bytes := 32, zero := .st [.sc (.pointer none), .sl (.lf) [] .ex] }),
  (111, { k := .slice 4, sh := .lf, bytes := 24, zero := .sl (.lf) [] .ex }),
  (114, { k := .slice 87, sh := .lf, bytes := 24, zero := .sl (.nd [.ar 32 (.lf), .lf, .lf, .lf]) [] .ex }),
  (123, { k := .ptr 5, sh := .lf, bytes := 8, zero := .sc (.pointer none) }),
  (124, { k := .slice 69, sh := .lf, bytes := 24, zero := .sl (.lf) [] .ex })]
def gk0 : List Int := [1116352408, 1899447441, 3049323471, 3921009573, 961987163, 1508970993, 2453635748, 2870763221, 3624381080, 310598401, 607225278, 1426881987, 1925078388, 2162078206, 2614888103, 3248222580, 3835390401, 4022224774, 264347078, 604807628, 770255983, 1249150122, 1555081692, 1996064986, 2554220882, 2821834349, 2952996808, 3210313671, 3336571891, 3584528711, 113926993, 338241895, 666307205, 773529912, 1294757372, 1396182291, 1695183700, 1986661051, 2177026350, 2456956037, 2730485921, 2820302411, 3259730800, 3345764771, 3516065817, 3600352804, 4094571909, 275423344, 430227734, 506948616, 659060556, 883997877, 958139571, 1322822218, 1537002063, 1747873779, 1955562222, 2024104815, 2227730452, 2361852424, 2428436474, 2756734187, 3204031479, 3329325298]
def gk1 : List Int := [1116352408, 1899447441, 3049323471, 3921009573, 961987163, 1508970993, 2453635748, 2870763221, 3624381080, 310598401, 607225278, 1426881987, 1925078388, 2162078206, 2614888103, 3248222580, 3835390401, 4022224774, 264347078, 604807628, 770255983, 1249150122, 1555081692, 1996064986, 2554220882, 2821834349, 2952996808, 3210313671, 3336571891, 3584528711, 113926993, 338241895, 666307205, 773529912, 1294757372, 1396182291, 1695183700, 1986661051, 2177026350, 2456956037, 2730485921, 2820302411, 3259730800, 3345764771, 3516065817, 3600352804, 4094571909, 275423344, 430227734, 506948616, 659060556, 883997877, 958139571, 1322822218, 1537002063, 1747873779, 1955562222, 2024104815, 2227730452, 2361852424, 2428436474, 2756734187, 3204031479, 3329325298]
def D : Tabs := ⟨tab, [(0, .ar 64 .lf (ints .u32 gk0)), (1, .ar 64 .lf (ints .u32 gk1))], []⟩
theorem tabOK : TabOK Tryd.prog D := tabOK_of (by decide +kernel)
theorem hmix : Tryd.prog.follows .mixedOrders = true := by decide +kernel
end Go.WL.T4
