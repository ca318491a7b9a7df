/- What the rows' lists give. No condition. -/
import Derived.Test.YtcmdkiejkheahaaDoorWordsD
import Derived.Test.YtcmdkiejkheahaaDoorPart01
import Derived.Test.YtcmdkiejkheahaaDoorProg
import Derived.Test.YtcmdkiejkheahaaDoorRows
set_option linter.unusedVariables false
set_option linter.unusedSimpArgs false
namespace Go.WL.T6d
open Go.WL Go.Proofs
def tab : List (Nat × TI) := [
  (2, { k := .int .i64, sh := .lf, bytes := 8, zero := .sc (.int .i64 0) }),
  (3, { k := .int .i64, sh := .lf, bytes := 8, zero := .sc (.int .i64 0) }),
  (4, { k := .bool, sh := .lf, bytes := 1, zero := .sc (.bool false) }),
  (5, { k := .int .u8, sh := .lf, bytes := 1, zero := .sc (.int .u8 0) }),
  (9, { k := .str, sh := .lf, bytes := 16, zero := .sc (.string .empty) }),
  (12, { k := .int .u64, sh := .lf, bytes := 8, zero := .sc (.int .u64 0) }),
  (21, { k := .int .i32, sh := .lf, bytes := 4, zero := .sc (.int .i32 0) }),
  (22, { k := .strct [(3, 0), (3, 1), (3, 2), (3, 3), (3, 4), (9, 5), (9, 6)], sh := .nd [.lf, .lf, .lf, .lf, .lf, .lf, .lf], bytes := 72, zero := .st [.sc (.int .i64 0), .sc (.int .i64 0), .sc (.int .i64 0), .sc (.int .i64 0), .sc (.int .i64 0), .sc (.string .empty), .sc (.string .empty)] }),
  (23, { k := .strct [(3, 0), (3, 1), (3, 2), (3, 3), (3, 4), (9, 5), (9, 6)], sh := .nd [.lf, .lf, .lf, .lf, .lf, .lf, .lf], bytes := 72, zero := .st [.sc (.int .i64 0), .sc (.int .i64 0), .sc (.int .i64 0), .sc (.int .i64 0), .sc (.int .i64 0), .sc (.string .empty), .sc (.string .empty)] }),
  (24, { k := .slice 5, sh := .lf, bytes := 24, zero := .sl (.lf) [] .ex }),
  (28, { k := .int .i64, sh := .lf, bytes := 8, zero := .sc (.int .i64 0) }),
  (30, { k := .arr 32 5, sh := .ar 32 (.lf), bytes := 32, zero := .ar 32 (.lf) (List.replicate 32 (.sc (.int .u8 0))) }),
  (31, { k := .arr 32 5, sh := .ar 32 (.lf), bytes := 32, zero := .ar 32 (.lf) (List.replicate 32 (.sc (.int .u8 0))) }),
  (35, { k := .ptr 128, sh := .lf, bytes := 8, zero := .sc (.pointer none) }),
  (41, { k := .slice 23, sh := .lf, bytes := 24, zero := .sl (.nd [.lf, .lf, .lf, .lf, .lf, .lf, .lf]) [] .ex }),
  (42, { k := .strct [(31, 0), (3, 32), (3, 33), (3, 34), (41, 35)], sh := .nd [.ar 32 (.lf), .lf, .lf, .lf, .lf], bytes := 80, zero := .st [.ar 32 (.lf) (List.replicate 32 (.sc (.int .u8 0))), .sc (.int .i64 0), .sc (.int .i64 0), .sc (.int .i64 0), .sl (.nd [.lf, .lf, .lf, .lf, .lf, .lf, .lf]) [] .ex] }),
  (43, { k := .strct [(31, 0), (3, 32), (3, 33), (3, 34), (41, 35)], sh := .nd [.ar 32 (.lf), .lf, .lf, .lf, .lf], bytes := 80, zero := .st [.ar 32 (.lf) (List.replicate 32 (.sc (.int .u8 0))), .sc (.int .i64 0), .sc (.int .i64 0), .sc (.int .i64 0), .sl (.nd [.lf, .lf, .lf, .lf, .lf, .lf, .lf]) [] .ex] }),
  (52, { k := .func, sh := .lf, bytes := 8, zero := .sc .nilFunc }),
  (58, { k := .slice 28, sh := .lf, bytes := 24, zero := .sl (.lf) [] .ex }),
  (59, { k := .slice 67, sh := .lf, bytes := 24, zero := .sl (.nd [.ar 32 (.lf), .lf, .lf, .lf]) [] .ex }),
  (60, { k := .strct [(59, 0), (31, 1)], sh := .nd [.lf, .ar 32 (.lf)], bytes := 56, zero := .st [.sl (.nd [.ar 32 (.lf), .lf, .lf, .lf]) [] .ex, .ar 32 (.lf) (List.replicate 32 (.sc (.int .u8 0)))] }),
  (61, { k := .strct [(59, 0), (31, 1)], sh := .nd [.lf, .ar 32 (.lf)], bytes := 56, zero := .st [.sl (.nd [.ar 32 (.lf), .lf, .lf, .lf]) [] .ex, .ar 32 (.lf) (List.replicate 32 (.sc (.int .u8 0)))] }),
  (66, { k := .strct [(31, 0), (3, 32), (3, 33), (28, 34)], sh := .nd [.ar 32 (.lf), .lf, .lf, .lf], bytes := 56, zero := .st [.ar 32 (.lf) (List.replicate 32 (.sc (.int .u8 0))), .sc (.int .i64 0), .sc (.int .i64 0), .sc (.int .i64 0)] }),
  (67, { k := .strct [(31, 0), (3, 32), (3, 33), (28, 34)], sh := .nd [.ar 32 (.lf), .lf, .lf, .lf], bytes := 56, zero := .st [.ar 32 (.lf) (List.replicate 32 (.sc (.int .u8 0))), .sc (.int .i64 0), .sc (.int .i64 0), .sc (.int .i64 0)] }),
  (73, { k := .slice 43, sh := .lf, bytes := 24, zero := .sl (.nd [.ar 32 (.lf), .lf, .lf, .lf, .lf]) [] .ex }),
  (74, { k := .strct [(3, 0), (3, 1), (9, 2), (31, 3)], sh := .nd [.lf, .lf, .lf, .ar 32 (.lf)], bytes := 64, zero := .st [.sc (.int .i64 0), .sc (.int .i64 0), .sc (.string .empty), .ar 32 (.lf) (List.replicate 32 (.sc (.int .u8 0)))] }),
  (75, { k := .strct [(3, 0), (3, 1), (9, 2), (31, 3)], sh := .nd [.lf, .lf, .lf, .ar 32 (.lf)], bytes := 64, zero := .st [.sc (.int .i64 0), .sc (.int .i64 0), .sc (.string .empty), .ar 32 (.lf) (List.replicate 32 (.sc (.int .u8 0)))] }),
  (76, { k := .ptr 83, sh := .lf, bytes := 8, zero := .sc (.pointer none) }),
  (79, { k := .map 31 85, sh := .lf, bytes := 8, zero := .sc (.map none) }),
  (80, { k := .map 3 88, sh := .lf, bytes := 8, zero := .sc (.map none) }),
  (81, { k := .map 9 88, sh := .lf, bytes := 8, zero := .sc (.map none) }),
  (82, { k := .strct [(3, 0), (3, 1), (79, 2), (80, 3), (81, 4)], sh := .nd [.lf, .lf, .lf, .lf, .lf], bytes := 40, zero := .st [.sc (.int .i64 0), .sc (.int .i64 0), .sc (.map none), .sc (.map none), .sc (.map none)] }),
  (83, { k := .strct [(3, 0), (3, 1), (79, 2), (80, 3), (81, 4)], sh := .nd [.lf, .lf, .lf, .lf, .lf], bytes := 40, zero := .st [.sc (.int .i64 0), .sc (.int .i64 0), .sc (.map none), .sc (.map none), .sc (.map none)] }),
  (84, { k := .strct [(3, 0), (3, 1)], sh := .nd [.lf, .lf], bytes := 16, zero := .st [.sc (.int .i64 0), .sc (.int .i64 0)] }),
  (85, { k := .strct [(3, 0), (3, 1)], sh := .nd [.lf, .lf], bytes := 16, zero := .st [.sc (.int .i64 0), .sc (.int .i64 0)] }),
  (88, { k := .slice 85, sh := .lf, bytes := 24, zero := .sl (.nd [.lf, .lf]) [] .ex }),
  (95, { k := .slice 100, sh := .lf, bytes := 24, zero := .sl (.nd [.lf, .nd [.ar 32 (.lf), .lf, .lf, .lf, .lf], .lf]) [] .ex }),
  (97, { k := .ptr 115, sh := .lf, bytes := 8, zero := .sc (.pointer none) }),
  (99, { k := .strct [(3, 0), (43, 1), (3, 37)], sh := .nd [.lf, .nd [.ar 32 (.lf), .lf, .lf, .lf, .lf], .lf], bytes := 96, zero := .st [.sc (.int .i64 0), .st [.ar 32 (.lf) (List.replicate 32 (.sc (.int .u8 0))), .sc (.int .i64 0), .sc (.int .i64 0), .sc (.int .i64 0), .sl (.nd [.lf, .lf, .lf, .lf, .lf, .lf, .lf]) [] .ex], .sc (.int .i64 0)] }),
  (100, { k := .strct [(3, 0), (43, 1), (3, 37)], sh := .nd [.lf, .nd [.ar 32 (.lf), .lf, .lf, .lf, .lf], .lf], bytes := 96, zero := .st [.sc (.int .i64 0), .st [.ar 32 (.lf) (List.replicate 32 (.sc (.int .u8 0))), .sc (.int .i64 0), .sc (.int .i64 0), .sc (.int .i64 0), .sl (.nd [.lf, .lf, .lf, .lf, .lf, .lf, .lf]) [] .ex], .sc (.int .i64 0)] }),
  (109, { k := .slice 31, sh := .lf, bytes := 24, zero := .sl (.ar 32 (.lf)) [] .ex }),
  (113, { k := .slice 156, sh := .lf, bytes := 24, zero := .sl (.nd [.ar 32 (.lf), .nd [.ar 32 (.lf), .lf, .lf, .lf, .lf]]) [] .ex }),
  (114, { k := .strct [(113, 0), (4, 1)], sh := .nd [.lf, .lf], bytes := 32, zero := .st [.sl (.nd [.ar 32 (.lf), .nd [.ar 32 (.lf), .lf, .lf, .lf, .lf]]) [] .ex, .sc (.bool false)] }),
  (115, { k := .strct [(113, 0), (4, 1)], sh := .nd [.lf, .lf], bytes := 32, zero := .st [.sl (.nd [.ar 32 (.lf), .nd [.ar 32 (.lf), .lf, .lf, .lf, .lf]]) [] .ex, .sc (.bool false)] }),
  (119, { k := .slice 3, sh := .lf, bytes := 24, zero := .sl (.lf) [] .ex }),
  (121, { k := .int .u64, sh := .lf, bytes := 8, zero := .sc (.int .u64 0) }),
  (127, { k := .strct [(24, 0), (4, 1)], sh := .nd [.lf, .lf], bytes := 32, zero := .st [.sl (.lf) [] .ex, .sc (.bool false)] }),
  (128, { k := .strct [(24, 0), (4, 1)], sh := .nd [.lf, .lf], bytes := 32, zero := .st [.sl (.lf) [] .ex, .sc (.bool false)] }),
  (132, { k := .strct [(24, 0), (3, 1), (4, 2)], sh := .nd [.lf, .lf, .lf], bytes := 40, zero := .st [.sl (.lf) [] .ex, .sc (.int .i64 0), .sc (.bool false)] }),
  (133, { k := .strct [(24, 0), (3, 1), (4, 2)], sh := .nd [.lf, .lf, .lf], bytes := 40, zero := .st [.sl (.lf) [] .ex, .sc (.int .i64 0), .sc (.bool false)] }),
  (155, { k := .strct [(31, 0), (43, 32)], sh := .nd [.ar 32 (.lf), .nd [.ar 32 (.lf), .lf, .lf, .lf, .lf]], bytes := 112, zero := .st [.ar 32 (.lf) (List.replicate 32 (.sc (.int .u8 0))), .st [.ar 32 (.lf) (List.replicate 32 (.sc (.int .u8 0))), .sc (.int .i64 0), .sc (.int .i64 0), .sc (.int .i64 0), .sl (.nd [.lf, .lf, .lf, .lf, .lf, .lf, .lf]) [] .ex]] }),
  (156, { k := .strct [(31, 0), (43, 32)], sh := .nd [.ar 32 (.lf), .nd [.ar 32 (.lf), .lf, .lf, .lf, .lf]], bytes := 112, zero := .st [.ar 32 (.lf) (List.replicate 32 (.sc (.int .u8 0))), .st [.ar 32 (.lf) (List.replicate 32 (.sc (.int .u8 0))), .sc (.int .i64 0), .sc (.int .i64 0), .sc (.int .i64 0), .sl (.nd [.lf, .lf, .lf, .lf, .lf, .lf, .lf]) [] .ex]] }),
  (159, { k := .int .u64, sh := .lf, bytes := 8, zero := .sc (.int .u64 0) }),
  (160, { k := .slice 24, sh := .lf, bytes := 24, zero := .sl (.lf) [] .ex }),
  (161, { k := .int .u32, sh := .lf, bytes := 4, zero := .sc (.int .u32 0) }),
  (162, { k := .arr 8 161, sh := .ar 8 (.lf), bytes := 32, zero := .ar 8 (.lf) (List.replicate 8 (.sc (.int .u32 0))) }),
  (165, { k := .arr 64 5, sh := .ar 64 (.lf), bytes := 64, zero := .ar 64 (.lf) (List.replicate 64 (.sc (.int .u8 0))) }),
  (178, { k := .arr 64 161, sh := .ar 64 (.lf), bytes := 256, zero := .ar 64 (.lf) (List.replicate 64 (.sc (.int .u32 0))) }),
  (193, { k := .ptr 5, sh := .lf, bytes := 8, zero := .sc (.pointer none) })]
def gk1 : List Int := [1116352408, 1899447441, 3049323471, 3921009573, 961987163, 1508970993, 2453635748, 2870763221, 3624381080, 310598401, 607225278, 1426881987, 1925078388, 2162078206, 2614888103, 3248222580, 3835390401, 4022224774, 264347078, 604807628, 770255983, 1249150122, 1555081692, 1996064986, 2554220882, 2821834349, 2952996808, 3210313671, 3336571891, 3584528711, 113926993, 338241895, 666307205, 773529912, 1294757372, 1396182291, 1695183700, 1986661051, 2177026350, 2456956037, 2730485921, 2820302411, 3259730800, 3345764771, 3516065817, 3600352804, 4094571909, 275423344, 430227734, 506948616, 659060556, 883997877, 958139571, 1322822218, 1537002063, 1747873779, 1955562222, 2024104815, 2227730452, 2361852424, 2428436474, 2756734187, 3204031479, 3329325298]
def gk0 : List Int := [1116352408, 1899447441, 3049323471, 3921009573, 961987163, 1508970993, 2453635748, 2870763221, 3624381080, 310598401, 607225278, 1426881987, 1925078388, 2162078206, 2614888103, 3248222580, 3835390401, 4022224774, 264347078, 604807628, 770255983, 1249150122, 1555081692, 1996064986, 2554220882, 2821834349, 2952996808, 3210313671, 3336571891, 3584528711, 113926993, 338241895, 666307205, 773529912, 1294757372, 1396182291, 1695183700, 1986661051, 2177026350, 2456956037, 2730485921, 2820302411, 3259730800, 3345764771, 3516065817, 3600352804, 4094571909, 275423344, 430227734, 506948616, 659060556, 883997877, 958139571, 1322822218, 1537002063, 1747873779, 1955562222, 2024104815, 2227730452, 2361852424, 2428436474, 2756734187, 3204031479, 3329325298]
def D : Tabs := ⟨tab, [(1, .ar 64 .lf (ints .u32 gk1)), (0, .ar 64 .lf (ints .u32 gk0))], []⟩
theorem tabOK : TabOK Tryd.prog D := tabOK_of (by decide +kernel)
theorem hmix : Tryd.prog.follows .mixedOrders = true := by decide +kernel
end Go.WL.T6d
namespace Go.WL.T6d
open Go.WL Go.Proofs Go.Proofs.YtcmdkiejkheahaaDoor
def ld : List (String × DataW Unit) := [("tithing/tithingref02.constants", Rows.laid_tithing_tithingref02_constants), ("tithing/sha.constants", Rows.laid_tithing_sha_constants)]
theorem gn1 : Tryd.prog.globalNamed "tithing/tithingref02.constants" = some 1 := by kernel_rfl
theorem gt1 : (Tryd.prog.globals[1]?).map (·.type) = some 178 := by kernel_rfl
theorem gd1 : (Rows.laid_tithing_tithingref02_constants : DataW Unit) = .agg (gk1.map fun x => .lit (.int .u32 x)) := by rfl
theorem gc1 : Tryd.prog.cellsOf 178 = 64 := by kernel_rfl
theorem gn0 : Tryd.prog.globalNamed "tithing/sha.constants" = some 0 := by kernel_rfl
theorem gt0 : (Tryd.prog.globals[0]?).map (·.type) = some 178 := by kernel_rfl
theorem gd0 : (Rows.laid_tithing_sha_constants : DataW Unit) = .agg (gk0.map fun x => .lit (.int .u32 x)) := by rfl
theorem gc0 : Tryd.prog.cellsOf 178 = 64 := by kernel_rfl
theorem hgl : ∀ W, laidMetH Tryd.prog ld W → ∀ g v, lookV D.gl g = some v → v.pure = true ∧ ∃ cs, PR W (ground W).lim v cs ∧ Lies W (ground W).lim ⟨g, 0, none⟩ cs := by
  intro W h g v hv
  rw [MakeChecks.laidMetH_plain _ _ _ (by kernel_rfl)] at h
  obtain ⟨ps, ⟨g1, t1, cs1, f1, p1, q1, hg1, ht1, hv1, hd1, ⟨g0, t0, cs0, f0, p0, q0, hg0, ht0, hv0, hd0, _, _⟩, _⟩, _, _⟩ := h
  obtain rfl := Option.some.inj (gn1.symm.trans hg1)
  obtain rfl := Option.some.inj (gt1.symm.trans ht1)
  rw [gd1] at hd1
  have r1 := laid_ints hg1 hv1 Tryd.underlying178 Tryd.underlying161 (by kernel_rfl) gc1 (by decide) hd1
  obtain rfl := Option.some.inj (gn0.symm.trans hg0)
  obtain rfl := Option.some.inj (gt0.symm.trans ht0)
  rw [gd0] at hd0
  have r0 := laid_ints hg0 hv0 Tryd.underlying178 Tryd.underlying161 (by kernel_rfl) gc0 (by decide) hd0
  simp only [D, lookV] at hv
  split at hv
  · rename_i e
    obtain rfl := Nat.eq_of_beq_eq_true e
    obtain rfl := Option.some.inj hv
    exact r1
  split at hv
  · rename_i e
    obtain rfl := Nat.eq_of_beq_eq_true e
    obtain rfl := Option.some.inj hv
    exact r0
  simp at hv
end Go.WL.T6d
