/- Steps. No condition. -/
import Derived.Test.YtnggkhdmieafoaaWordsC
import Derived.Test.YtnggkhdmieafoaaProg
namespace Go.WL.T1
open Go.WL Go.Proofs
def tab : List (Nat × TI) := [
  (2, { k := .int .i64, sh := .lf, bytes := 8, zero := .sc (.int .i64 0) }),
  (3, { k := .int .i64, sh := .lf, bytes := 8, zero := .sc (.int .i64 0) }),
  (4, { k := .bool, sh := .lf, bytes := 1, zero := .sc (.bool false) }),
  (5, { k := .int .u8, sh := .lf, bytes := 1, zero := .sc (.int .u8 0) }),
  (9, { k := .str, sh := .lf, bytes := 16, zero := .sc (.string .empty) }),
  (12, { k := .int .u64, sh := .lf, bytes := 8, zero := .sc (.int .u64 0) }),
  (21, { k := .int .i32, sh := .lf, bytes := 4, zero := .sc (.int .i32 0) }),
  (22, { k := .slice 5, sh := .lf, bytes := 24, zero := .sl (.lf) [] .ex }),
  (23, { k := .int .u16, sh := .lf, bytes := 2, zero := .sc (.int .u16 0) }),
  (25, { k := .int .u32, sh := .lf, bytes := 4, zero := .sc (.int .u32 0) }),
  (29, { k := .strct [(3, 0), (3, 1)], sh := .nd [.lf, .lf], bytes := 16, zero := .st [.sc (.int .i64 0), .sc (.int .i64 0)] }),
  (30, { k := .strct [(3, 0), (3, 1)], sh := .nd [.lf, .lf], bytes := 16, zero := .st [.sc (.int .i64 0), .sc (.int .i64 0)] }),
  (35, { k := .slice 3, sh := .lf, bytes := 24, zero := .sl (.lf) [] .ex }),
  (37, { k := .arr 22 4, sh := .ar 22 (.lf), bytes := 22, zero := .ar 22 (.lf) (List.replicate 22 (.sc (.bool false))) }),
  (39, { k := .int .u64, sh := .lf, bytes := 8, zero := .sc (.int .u64 0) }),
  (40, { k := .arr 32 5, sh := .ar 32 (.lf), bytes := 32, zero := .ar 32 (.lf) (List.replicate 32 (.sc (.int .u8 0))) }),
  (41, { k := .arr 32 5, sh := .ar 32 (.lf), bytes := 32, zero := .ar 32 (.lf) (List.replicate 32 (.sc (.int .u8 0))) }),
  (42, { k := .strct [(39, 0), (22, 1), (41, 2)], sh := .nd [.lf, .lf, .ar 32 (.lf)], bytes := 64, zero := .st [.sc (.int .u64 0), .sl (.lf) [] .ex, .ar 32 (.lf) (List.replicate 32 (.sc (.int .u8 0)))] }),
  (43, { k := .strct [(39, 0), (22, 1), (41, 2)], sh := .nd [.lf, .lf, .ar 32 (.lf)], bytes := 64, zero := .st [.sc (.int .u64 0), .sl (.lf) [] .ex, .ar 32 (.lf) (List.replicate 32 (.sc (.int .u8 0)))] }),
  (50, { k := .int .i64, sh := .lf, bytes := 8, zero := .sc (.int .i64 0) }),
  (58, { k := .int .u64, sh := .lf, bytes := 8, zero := .sc (.int .u64 0) }),
  (60, { k := .slice 43, sh := .lf, bytes := 24, zero := .sl (.nd [.lf, .lf, .ar 32 (.lf)]) [] .ex }),
  (61, { k := .ptr 135, sh := .lf, bytes := 8, zero := .sc (.pointer none) }),
  (67, { k := .strct [(22, 0), (3, 1), (4, 2)], sh := .nd [.lf, .lf, .lf], bytes := 40, zero := .st [.sl (.lf) [] .ex, .sc (.int .i64 0), .sc (.bool false)] }),
  (68, { k := .strct [(22, 0), (3, 1), (4, 2)], sh := .nd [.lf, .lf, .lf], bytes := 40, zero := .st [.sl (.lf) [] .ex, .sc (.int .i64 0), .sc (.bool false)] }),
  (79, { k := .slice 85, sh := .lf, bytes := 24, zero := .sl (.nd [.lf, .lf, .lf]) [] .ex }),
  (80, { k := .ptr 116, sh := .lf, bytes := 8, zero := .sc (.pointer none) }),
  (83, { k := .slice 88, sh := .lf, bytes := 24, zero := .sl (.nd [.ar 32 (.lf), .lf, .lf, .lf]) [] .ex }),
  (84, { k := .strct [(3, 0), (5, 1), (3, 2)], sh := .nd [.lf, .lf, .lf], bytes := 24, zero := .st [.sc (.int .i64 0), .sc (.int .u8 0), .sc (.int .i64 0)] }),
  (85, { k := .strct [(3, 0), (5, 1), (3, 2)], sh := .nd [.lf, .lf, .lf], bytes := 24, zero := .st [.sc (.int .i64 0), .sc (.int .u8 0), .sc (.int .i64 0)] }),
  (87, { k := .strct [(41, 0), (3, 32), (3, 33), (3, 34)], sh := .nd [.ar 32 (.lf), .lf, .lf, .lf], bytes := 56, zero := .st [.ar 32 (.lf) (List.replicate 32 (.sc (.int .u8 0))), .sc (.int .i64 0), .sc (.int .i64 0), .sc (.int .i64 0)] }),
  (88, { k := .strct [(41, 0), (3, 32), (3, 33), (3, 34)], sh := .nd [.ar 32 (.lf), .lf, .lf, .lf], bytes := 56, zero := .st [.ar 32 (.lf) (List.replicate 32 (.sc (.int .u8 0))), .sc (.int .i64 0), .sc (.int .i64 0), .sc (.int .i64 0)] }),
  (91, { k := .slice 109, sh := .lf, bytes := 24, zero := .sl (.nd [.lf, .lf, .lf, .nd [.lf, .lf, .lf, .lf, .ar 32 (.lf), .lf, .ar 32 (.lf), .ar 32 (.lf)], .nd [.nd [.lf, .lf, .lf, .lf, .ar 32 (.lf), .lf, .ar 32 (.lf), .ar 32 (.lf)], .lf], .nd [.lf, .lf, .lf, .ar 32 (.lf), .lf, .ar 32 (.lf)], .nd [.ar 32 (.lf), .lf, .lf, .lf, .lf], .ar 32 (.lf), .nd [.lf, .lf, .lf, .lf, .lf, .lf, .lf]]) [] .ex }),
  (96, { k := .strct [(3, 0), (3, 1), (3, 2), (3, 3), (41, 4), (3, 36), (41, 37), (41, 69)], sh := .nd [.lf, .lf, .lf, .lf, .ar 32 (.lf), .lf, .ar 32 (.lf), .ar 32 (.lf)], bytes := 136, zero := .st [.sc (.int .i64 0), .sc (.int .i64 0), .sc (.int .i64 0), .sc (.int .i64 0), .ar 32 (.lf) (List.replicate 32 (.sc (.int .u8 0))), .sc (.int .i64 0), .ar 32 (.lf) (List.replicate 32 (.sc (.int .u8 0))), .ar 32 (.lf) (List.replicate 32 (.sc (.int .u8 0)))] }),
  (97, { k := .strct [(3, 0), (3, 1), (3, 2), (3, 3), (41, 4), (3, 36), (41, 37), (41, 69)], sh := .nd [.lf, .lf, .lf, .lf, .ar 32 (.lf), .lf, .ar 32 (.lf), .ar 32 (.lf)], bytes := 136, zero := .st [.sc (.int .i64 0), .sc (.int .i64 0), .sc (.int .i64 0), .sc (.int .i64 0), .ar 32 (.lf) (List.replicate 32 (.sc (.int .u8 0))), .sc (.int .i64 0), .ar 32 (.lf) (List.replicate 32 (.sc (.int .u8 0))), .ar 32 (.lf) (List.replicate 32 (.sc (.int .u8 0)))] }),
  (98, { k := .slice 156, sh := .lf, bytes := 24, zero := .sl (.nd [.lf, .ar 32 (.lf)]) [] .ex }),
  (99, { k := .strct [(97, 0), (98, 101)], sh := .nd [.nd [.lf, .lf, .lf, .lf, .ar 32 (.lf), .lf, .ar 32 (.lf), .ar 32 (.lf)], .lf], bytes := 160, zero := .st [.st [.sc (.int .i64 0), .sc (.int .i64 0), .sc (.int .i64 0), .sc (.int .i64 0), .ar 32 (.lf) (List.replicate 32 (.sc (.int .u8 0))), .sc (.int .i64 0), .ar 32 (.lf) (List.replicate 32 (.sc (.int .u8 0))), .ar 32 (.lf) (List.replicate 32 (.sc (.int .u8 0)))], .sl (.nd [.lf, .ar 32 (.lf)]) [] .ex] }),
  (100, { k := .strct [(97, 0), (98, 101)], sh := .nd [.nd [.lf, .lf, .lf, .lf, .ar 32 (.lf), .lf, .ar 32 (.lf), .ar 32 (.lf)], .lf], bytes := 160, zero := .st [.st [.sc (.int .i64 0), .sc (.int .i64 0), .sc (.int .i64 0), .sc (.int .i64 0), .ar 32 (.lf) (List.replicate 32 (.sc (.int .u8 0))), .sc (.int .i64 0), .ar 32 (.lf) (List.replicate 32 (.sc (.int .u8 0))), .ar 32 (.lf) (List.replicate 32 (.sc (.int .u8 0)))], .sl (.nd [.lf, .ar 32 (.lf)]) [] .ex] }),
  (101, { k := .strct [(3, 0), (3, 1), (3, 2), (41, 3), (35, 35), (41, 36)], sh := .nd [.lf, .lf, .lf, .ar 32 (.lf), .lf, .ar 32 (.lf)], bytes := 112, zero := .st [.sc (.int .i64 0), .sc (.int .i64 0), .sc (.int .i64 0), .ar 32 (.lf) (List.replicate 32 (.sc (.int .u8 0))), .sl (.lf) [] .ex, .ar 32 (.lf) (List.replicate 32 (.sc (.int .u8 0)))] }),
  (102, { k := .strct [(3, 0), (3, 1), (3, 2), (41, 3), (35, 35), (41, 36)], sh := .nd [.lf, .lf, .lf, .ar 32 (.lf), .lf, .ar 32 (.lf)], bytes := 112, zero := .st [.sc (.int .i64 0), .sc (.int .i64 0), .sc (.int .i64 0), .ar 32 (.lf) (List.replicate 32 (.sc (.int .u8 0))), .sl (.lf) [] .ex, .ar 32 (.lf) (List.replicate 32 (.sc (.int .u8 0)))] }),
  (103, { k := .slice 107, sh := .lf, bytes := 24, zero := .sl (.nd [.lf, .lf, .lf, .lf, .lf, .lf, .lf]) [] .ex }),
  (104, { k := .strct [(41, 0), (3, 32), (3, 33), (3, 34), (103, 35)], sh := .nd [.ar 32 (.lf), .lf, .lf, .lf, .lf], bytes := 80, zero := .st [.ar 32 (.lf) (List.replicate 32 (.sc (.int .u8 0))), .sc (.int .i64 0), .sc (.int .i64 0), .sc (.int .i64 0), .sl (.nd [.lf, .lf, .lf, .lf, .lf, .lf, .lf]) [] .ex] }),
  (105, { k := .strct [(41, 0), (3, 32), (3, 33), (3, 34), (103, 35)], sh := .nd [.ar 32 (.lf), .lf, .lf, .lf, .lf], bytes := 80, zero := .st [.ar 32 (.lf) (List.replicate 32 (.sc (.int .u8 0))), .sc (.int .i64 0), .sc (.int .i64 0), .sc (.int .i64 0), .sl (.nd [.lf, .lf, .lf, .lf, .lf, .lf, .lf]) [] .ex] }),
  (106, { k := .strct [(3, 0), (3, 1), (3, 2), (3, 3), (3, 4), (9, 5), (9, 6)], sh := .nd [.lf, .lf, .lf, .lf, .lf, .lf, .lf], bytes := 72, zero := .st [.sc (.int .i64 0), .sc (.int .i64 0), .sc (.int .i64 0), .sc (.int .i64 0), .sc (.int .i64 0), .sc (.string .empty), .sc (.string .empty)] }),
  (107, { k := .strct [(3, 0), (3, 1), (3, 2), (3, 3), (3, 4), (9, 5), (9, 6)], sh := .nd [.lf, .lf, .lf, .lf, .lf, .lf, .lf], bytes := 72, zero := .st [.sc (.int .i64 0), .sc (.int .i64 0), .sc (.int .i64 0), .sc (.int .i64 0), .sc (.int .i64 0), .sc (.string .empty), .sc (.string .empty)] }),
  (108, { k := .strct [(3, 0), (3, 1), (3, 2), (97, 3), (100, 104), (102, 206), (105, 274), (41, 310), (107, 342)], sh := .nd [.lf, .lf, .lf, .nd [.lf, .lf, .lf, .lf, .ar 32 (.lf), .lf, .ar 32 (.lf), .ar 32 (.lf)], .nd [.nd [.lf, .lf, .lf, .lf, .ar 32 (.lf), .lf, .ar 32 (.lf), .ar 32 (.lf)], .lf], .nd [.lf, .lf, .lf, .ar 32 (.lf), .lf, .ar 32 (.lf)], .nd [.ar 32 (.lf), .lf, .lf, .lf, .lf], .ar 32 (.lf), .nd [.lf, .lf, .lf, .lf, .lf, .lf, .lf]], bytes := 616, zero := .st [.sc (.int .i64 0), .sc (.int .i64 0), .sc (.int .i64 0), .st [.sc (.int .i64 0), .sc (.int .i64 0), .sc (.int .i64 0), .sc (.int .i64 0), .ar 32 (.lf) (List.replicate 32 (.sc (.int .u8 0))), .sc (.int .i64 0), .ar 32 (.lf) (List.replicate 32 (.sc (.int .u8 0))), .ar 32 (.lf) (List.replicate 32 (.sc (.int .u8 0)))], .st [.st [.sc (.int .i64 0), .sc (.int .i64 0), .sc (.int .i64 0), .sc (.int .i64 0), .ar 32 (.lf) (List.replicate 32 (.sc (.int .u8 0))), .sc (.int .i64 0), .ar 32 (.lf) (List.replicate 32 (.sc (.int .u8 0))), .ar 32 (.lf) (List.replicate 32 (.sc (.int .u8 0)))], .sl (.nd [.lf, .ar 32 (.lf)]) [] .ex], .st [.sc (.int .i64 0), .sc (.int .i64 0), .sc (.int .i64 0), .ar 32 (.lf) (List.replicate 32 (.sc (.int .u8 0))), .sl (.lf) [] .ex, .ar 32 (.lf) (List.replicate 32 (.sc (.int .u8 0)))], .st [.ar 32 (.lf) (List.replicate 32 (.sc (.int .u8 0))), .sc (.int .i64 0), .sc (.int .i64 0), .sc (.int .i64 0), .sl (.nd [.lf, .lf, .lf, .lf, .lf, .lf, .lf]) [] .ex], .ar 32 (.lf) (List.replicate 32 (.sc (.int .u8 0))), .st [.sc (.int .i64 0), .sc (.int .i64 0), .sc (.int .i64 0), .sc (.int .i64 0), .sc (.int .i64 0), .sc (.string .empty), .sc (.string .empty)]] }),
  (109, { k := .strct [(3, 0), (3, 1), (3, 2), (97, 3), (100, 104), (102, 206), (105, 274), (41, 310), (107, 342)], sh := .nd [.lf, .lf, .lf, .nd [.lf, .lf, .lf, .lf, .ar 32 (.lf), .lf, .ar 32 (.lf), .ar 32 (.lf)], .nd [.nd [.lf, .lf, .lf, .lf, .ar 32 (.lf), .lf, .ar 32 (.lf), .ar 32 (.lf)], .lf], .nd [.lf, .lf, .lf, .ar 32 (.lf), .lf, .ar 32 (.lf)], .nd [.ar 32 (.lf), .lf, .lf, .lf, .lf], .ar 32 (.lf), .nd [.lf, .lf, .lf, .lf, .lf, .lf, .lf]], bytes := 616, zero := .st [.sc (.int .i64 0), .sc (.int .i64 0), .sc (.int .i64 0), .st [.sc (.int .i64 0), .sc (.int .i64 0), .sc (.int .i64 0), .sc (.int .i64 0), .ar 32 (.lf) (List.replicate 32 (.sc (.int .u8 0))), .sc (.int .i64 0), .ar 32 (.lf) (List.replicate 32 (.sc (.int .u8 0))), .ar 32 (.lf) (List.replicate 32 (.sc (.int .u8 0)))], .st [.st [.sc (.int .i64 0), .sc (.int .i64 0), .sc (.int .i64 0), .sc (.int .i64 0), .ar 32 (.lf) (List.replicate 32 (.sc (.int .u8 0))), .sc (.int .i64 0), .ar 32 (.lf) (List.replicate 32 (.sc (.int .u8 0))), .ar 32 (.lf) (List.replicate 32 (.sc (.int .u8 0)))], .sl (.nd [.lf, .ar 32 (.lf)]) [] .ex], .st [.sc (.int .i64 0), .sc (.int .i64 0), .sc (.int .i64 0), .ar 32 (.lf) (List.replicate 32 (.sc (.int .u8 0))), .sl (.lf) [] .ex, .ar 32 (.lf) (List.replicate 32 (.sc (.int .u8 0)))], .st [.ar 32 (.lf) (List.replicate 32 (.sc (.int .u8 0))), .sc (.int .i64 0), .sc (.int .i64 0), .sc (.int .i64 0), .sl (.nd [.lf, .lf, .lf, .lf, .lf, .lf, .lf]) [] .ex], .ar 32 (.lf) (List.replicate 32 (.sc (.int .u8 0))), .st [.sc (.int .i64 0), .sc (.int .i64 0), .sc (.int .i64 0), .sc (.int .i64 0), .sc (.int .i64 0), .sc (.string .empty), .sc (.string .empty)]] }),
  (111, { k := .slice 41, sh := .lf, bytes := 24, zero := .sl (.ar 32 (.lf)) [] .ex }),
  (114, { k := .slice 140, sh := .lf, bytes := 24, zero := .sl (.nd [.ar 32 (.lf), .lf, .lf]) [] .ex }),
  (115, { k := .strct [(3, 0), (3, 1), (114, 2)], sh := .nd [.lf, .lf, .lf], bytes := 40, zero := .st [.sc (.int .i64 0), .sc (.int .i64 0), .sl (.nd [.ar 32 (.lf), .lf, .lf]) [] .ex] }),
  (116, { k := .strct [(3, 0), (3, 1), (114, 2)], sh := .nd [.lf, .lf, .lf], bytes := 40, zero := .st [.sc (.int .i64 0), .sc (.int .i64 0), .sl (.nd [.ar 32 (.lf), .lf, .lf]) [] .ex] }),
  (119, { k := .strct [(41, 0), (3, 32), (3, 33), (50, 34)], sh := .nd [.ar 32 (.lf), .lf, .lf, .lf], bytes := 56, zero := .st [.ar 32 (.lf) (List.replicate 32 (.sc (.int .u8 0))), .sc (.int .i64 0), .sc (.int .i64 0), .sc (.int .i64 0)] }),
  (120, { k := .strct [(41, 0), (3, 32), (3, 33), (50, 34)], sh := .nd [.ar 32 (.lf), .lf, .lf, .lf], bytes := 56, zero := .st [.ar 32 (.lf) (List.replicate 32 (.sc (.int .u8 0))), .sc (.int .i64 0), .sc (.int .i64 0), .sc (.int .i64 0)] }),
  (129, { k := .slice 22, sh := .lf, bytes := 24, zero := .sl (.lf) [] .ex }),
  (134, { k := .strct [(22, 0), (4, 1)], sh := .nd [.lf, .lf], bytes := 32, zero := .st [.sl (.lf) [] .ex, .sc (.bool false)] }),
  (135, { k := .strct [(22, 0), (4, 1)], sh := .nd [.lf, .lf], bytes := 32, zero := .st [.sl (.lf) [] .ex, .sc (.bool false)] }),
  (139, { k := .strct [(41, 0), (3, 32), (3, 33)], sh := .nd [.ar 32 (.lf), .lf, .lf], bytes := 48, zero := .st [.ar 32 (.lf) (List.replicate 32 (.sc (.int .u8 0))), .sc (.int .i64 0), .sc (.int .i64 0)] }),
  (140, { k := .strct [(41, 0), (3, 32), (3, 33)], sh := .nd [.ar 32 (.lf), .lf, .lf], bytes := 48, zero := .st [.ar 32 (.lf) (List.replicate 32 (.sc (.int .u8 0))), .sc (.int .i64 0), .sc (.int .i64 0)] }),
  (142, { k := .ptr 140, sh := .lf, bytes := 8, zero := .sc (.pointer none) }),
  (155, { k := .strct [(3, 0), (41, 1)], sh := .nd [.lf, .ar 32 (.lf)], bytes := 40, zero := .st [.sc (.int .i64 0), .ar 32 (.lf) (List.replicate 32 (.sc (.int .u8 0)))] }),
  (156, { k := .strct [(3, 0), (41, 1)], sh := .nd [.lf, .ar 32 (.lf)], bytes := 40, zero := .st [.sc (.int .i64 0), .ar 32 (.lf) (List.replicate 32 (.sc (.int .u8 0)))] }),
  (169, { k := .ptr 5, sh := .lf, bytes := 8, zero := .sc (.pointer none) })]

def D : Tabs := ⟨tab, []⟩
theorem tabOK : TabOK Try.prog D := tabOK_of (by decide +kernel)
theorem hmix : Try.prog.follows .mixedOrders = true := by decide +kernel
end Go.WL.T1
namespace Go.WL.T1
open Go.WL Go.Proofs
theorem c_view (v : Int) : FnOK Try.prog D 64 [.sc (.int .i64 v)] [] (fun r st => r = .sc (.bool (decide (1 ≤ v ∧ v ≤ 1099511627776))) ∧ st = []) := by
  refine fnok_of_W hmix tabOK Try.func64 rfl rfl (Nat.le_of_ble_eq_true rfl) ?_
  conv => whnf
  refine Branch.of (fun h => ?_) (fun h => ?_) <;> rw [h] <;> conv => whnf
  all_goals refine ⟨false, [], ?_⟩
  all_goals conv => whnf
  all_goals refine ⟨?_, rfl⟩
  all_goals congr 2
  all_goals simp at h ⊢ <;> omega
theorem c_node (v : Int) : FnOK Try.prog D 89 [.sc (.int .i64 v)] [] (fun r st => r = .sc (.bool (decide (1 ≤ v ∧ v ≤ 21))) ∧ st = []) := by
  refine fnok_of_W hmix tabOK Try.func89 rfl rfl (Nat.le_of_ble_eq_true rfl) ?_
  conv => whnf
  refine Branch.of (fun h => ?_) (fun h => ?_) <;> rw [h] <;> conv => whnf
  all_goals refine ⟨false, [], ?_⟩
  all_goals conv => whnf
  all_goals refine ⟨?_, rfl⟩
  all_goals congr 2
  all_goals simp at h ⊢ <;> omega
/-- Is there a number of parts? -/
def nok (n : Int) : Prop := 1 ≤ n ∧ n ≤ 21 ∧ n % 2 = 1
instance (n : Int) : Decidable (nok n) := by unfold nok; infer_instance
def quorum (n : Int) : Int := if nok n then n / 2 + 1 else 0
theorem quorum_yes {n : Int} (h : nok n) : quorum n = n / 2 + 1 := if_pos h
theorem quorum_no {n : Int} (h : ¬ nok n) : quorum n = 0 := if_neg h
theorem c_quorum (v : Int) : FnOK Try.prog D 65 [.sc (.int .i64 v)] [] (fun r st => r = .sc (.int .i64 (quorum v)) ∧ st = []) := by
  refine fnok_of_W hmix tabOK Try.func65 rfl rfl (Nat.le_of_ble_eq_true rfl) ?_
  conv => whnf
  refine (c_node v).mono fun r st e => ?_
  obtain ⟨rfl, rfl⟩ := e
  conv => whnf
  refine Branch.of (fun h => ?_) (fun h => ?_) <;> rw [h] <;> conv => whnf
  · refine ⟨false, [], ?_⟩
    conv => whnf
    refine ⟨?_, rfl⟩
    congr 2
    simp only [Bool.not_eq_true', decide_eq_false_iff_not] at h
    rw [quorum_no (by unfold nok; omega)]
  · refine ⟨by omega, ?_⟩
    simp only [Bool.not_eq_false', decide_eq_true_eq] at h
    conv => whnf
    refine Branch.of (fun h1 => ?_) (fun h1 => ?_) <;> rw [h1] <;> conv => whnf
    · refine ⟨false, [], ?_⟩
      conv => whnf
      refine ⟨?_, rfl⟩
      congr 2
      simp only [beq_iff_eq] at h1
      rw [Int.tmod_eq_emod_of_nonneg (by omega)] at h1
      rw [quorum_no (by unfold nok; omega)]
    · refine ⟨by omega, ?_⟩
      conv => whnf
      refine ⟨false, [], ?_⟩
      conv => whnf
      refine ⟨?_, rfl⟩
      congr 2
      simp only [beq_eq_false_iff_ne] at h1
      rw [Int.tmod_eq_emod_of_nonneg (by omega)] at h1
      rw [quorum_yes (by unfold nok; omega), Int.tdiv_eq_ediv_of_nonneg (by omega), w64 (x := v / 2) (by omega) (by omega), w64 (by omega) (by omega)]
theorem c_refquorum (v : Int) : FnOK Try.prog D 25 [.sc (.int .i64 v)] [] (fun r st => r = .sc (.int .i64 (quorum v)) ∧ st = []) := by
  refine fnok_of_W hmix tabOK Try.func25 rfl rfl (Nat.le_of_ble_eq_true rfl) ?_
  conv => whnf
  refine ⟨false, [0, 3], fun τ => ∃ f : Int, 0 ≤ f ∧ f ≤ 11 ∧ (∀ g : Int, 0 ≤ g → g < f → v ≠ 2 * g + 1) ∧ τ = ⟨15, [(0, .sc (.int .i64 v)), (3, .sc (.int .i64 f))], ⟨[], [], 0⟩⟩, fun τ => (11 - slotI τ 3).toNat, ?_, ?_⟩
  · conv => whnf
    exact ⟨0, by omega, by omega, fun g h1 h2 => by omega, rfl⟩
  · rintro τ ⟨f, h1, h2, h3, rfl⟩
    conv => whnf
    refine Branch.of (fun h => ?_) (fun h => ?_) <;> rw [h] <;> conv => whnf
    · simp only [decide_eq_true_eq] at h
      refine Branch.of (fun h4 => ?_) (fun h4 => ?_) <;> rw [h4] <;> conv => whnf
      · refine ⟨false, [], ?_⟩
        conv => whnf
        refine ⟨?_, rfl⟩
        congr 2
        rw [w64 (x := 2 * f) (by omega) (by omega), w64 (by omega) (by omega)] at h4
        simp only [beq_iff_eq] at h4
        rw [w64 (by omega) (by omega), quorum_yes (by unfold nok; omega)]
        omega
      · rw [w64 (x := f + 1) (by omega) (by omega)]
        refine ⟨⟨f + 1, by omega, by omega, fun g h5 h6 => ?_, rfl⟩, ?_⟩
        · rw [w64 (x := 2 * f) (by omega) (by omega), w64 (by omega) (by omega)] at h4
          simp only [beq_eq_false_iff_ne] at h4
          by_cases e : g = f
          · rw [e]; exact h4
          · exact h3 g h5 (by omega)
        · show (11 - (f + 1)).toNat < (11 - f).toNat
          omega
    · refine ⟨false, [], ?_⟩
      conv => whnf
      refine ⟨?_, rfl⟩
      congr 2
      simp only [decide_eq_false_iff_not] at h
      rw [quorum_no]
      rintro ⟨k1, k2, k3⟩
      exact h3 (v / 2) (by omega) (by omega) (by omega)

def vok (v : Int) : Prop := 1 ≤ v ∧ v ≤ 1099511627776
instance (v : Int) : Decidable (vok v) := by unfold vok; infer_instance
/-- The leader of a view. -/
def lead (v n : Int) : Int := if vok v ∧ nok n then (v - 1) % n + 1 else 0
theorem lead_yes {v n : Int} (h : vok v) (h2 : nok n) : lead v n = (v - 1) % n + 1 := if_pos ⟨h, h2⟩
theorem lead_no {v n : Int} (h : ¬ (vok v ∧ nok n)) : lead v n = 0 := if_neg h
theorem q_zero {n : Int} : quorum n = 0 ↔ ¬ nok n := by
  by_cases h : nok n
  · rw [quorum_yes h]
    unfold nok at h
    constructor
    · intro e; omega
    · intro e; exact absurd h e
  · rw [quorum_no h]; simp [h]
theorem c_of (v n : Int) : FnOK Try.prog D 18 [.sc (.int .i64 v), .sc (.int .i64 n)] [] (fun r st => r = .sc (.int .i64 (lead v n)) ∧ st = []) := by
  refine fnok_of_W hmix tabOK Try.func18 rfl rfl (Nat.le_of_ble_eq_true rfl) ?_
  conv => whnf
  refine (c_view v).mono fun r st e => ?_
  obtain ⟨rfl, rfl⟩ := e
  conv => whnf
  refine Branch.of (fun h => ?_) (fun h => ?_) <;> rw [h] <;> conv => whnf
  · refine ⟨false, [], ?_⟩
    conv => whnf
    refine ⟨?_, rfl⟩
    congr 2
    simp only [Bool.not_eq_true', decide_eq_false_iff_not] at h
    rw [lead_no (fun e => h e.1)]
  · simp only [Bool.not_eq_false', decide_eq_true_eq] at h
    refine (c_quorum n).mono fun r st e => ?_
    obtain ⟨rfl, rfl⟩ := e
    conv => whnf
    refine Branch.of (fun h1 => ?_) (fun h1 => ?_) <;> rw [h1] <;> conv => whnf
    · refine ⟨false, [], ?_⟩
      conv => whnf
      refine ⟨?_, rfl⟩
      congr 2
      simp only [beq_iff_eq] at h1
      rw [lead_no (fun e => q_zero.1 h1 e.2)]
    · simp only [beq_eq_false_iff_ne] at h1
      have hn : nok n := Decidable.not_not.1 fun e => h1 (q_zero.2 e)
      have hn2 := hn
      unfold nok at hn2
      refine ⟨by omega, ?_⟩
      conv => whnf
      refine ⟨false, [], ?_⟩
      conv => whnf
      refine ⟨?_, rfl⟩
      congr 2
      have := Int.emod_nonneg (v - 1) (show n ≠ 0 by omega)
      have := Int.emod_lt_of_pos (v - 1) (show 0 < n by omega)
      rw [lead_yes h hn, w64 (x := v - 1) (by omega) (by omega), Int.tmod_eq_emod_of_nonneg (by omega), w64 (by omega) (by omega)]
theorem c_refof (v n : Int) : FnOK Try.prog D 19 [.sc (.int .i64 v), .sc (.int .i64 n)] [] (fun r st => r = .sc (.int .i64 (lead v n)) ∧ st = []) := by
  refine fnok_of_W hmix tabOK Try.func19 rfl rfl (Nat.le_of_ble_eq_true rfl) ?_
  conv => whnf
  refine Branch.of (fun h => ?_) (fun h => ?_) <;> rw [h] <;> conv => whnf
  · refine ⟨false, [], ?_⟩
    conv => whnf
    refine ⟨?_, rfl⟩
    congr 2
    simp only [decide_eq_true_eq] at h
    rw [lead_no (fun e => by have := e.1.1; omega)]
  simp only [decide_eq_false_iff_not] at h
  refine Branch.of (fun h2 => ?_) (fun h2 => ?_) <;> rw [h2] <;> conv => whnf
  · refine ⟨false, [], ?_⟩
    conv => whnf
    refine ⟨?_, rfl⟩
    congr 2
    simp only [decide_eq_true_eq] at h2
    rw [lead_no (fun e => by have := e.1.2; omega)]
  simp only [decide_eq_false_iff_not] at h2
  refine (c_refquorum n).mono fun r st e => ?_
  obtain ⟨rfl, rfl⟩ := e
  conv => whnf
  refine Branch.of (fun h1 => ?_) (fun h1 => ?_) <;> rw [h1] <;> conv => whnf
  · refine ⟨false, [], ?_⟩
    conv => whnf
    refine ⟨?_, rfl⟩
    congr 2
    simp only [beq_iff_eq] at h1
    rw [lead_no (fun e => q_zero.1 h1 e.2)]
  simp only [beq_eq_false_iff_ne] at h1
  have hn : nok n := Decidable.not_not.1 fun e => h1 (q_zero.2 e)
  have hv : vok v := by unfold vok; omega
  have hn2 := hn
  unfold nok at hn2
  refine ⟨by omega, ?_⟩
  have key : v % n = ((v - 1) % n + 1) % n := by rw [Int.emod_add_emod, Int.sub_add_cancel]
  have k1 := Int.emod_nonneg (v - 1) (show n ≠ 0 by omega)
  have k2 := Int.emod_lt_of_pos (v - 1) (show 0 < n by omega)
  rw [Int.tmod_eq_emod_of_nonneg (by omega)]
  conv => whnf
  refine Branch.of (fun h3 => ?_) (fun h3 => ?_) <;> rw [h3] <;> conv => whnf
  · refine ⟨false, [], ?_⟩
    conv => whnf
    refine ⟨?_, rfl⟩
    congr 2
    simp only [beq_iff_eq] at h3
    rw [lead_yes hv hn]
    by_cases e : (v - 1) % n + 1 = n
    · exact e.symm
    · rw [key, Int.emod_eq_of_lt (by omega) (by omega)] at h3
      omega
  · refine ⟨false, [], ?_⟩
    conv => whnf
    refine ⟨?_, rfl⟩
    congr 2
    simp only [beq_eq_false_iff_ne] at h3
    rw [lead_yes hv hn]
    by_cases e : (v - 1) % n + 1 = n
    · rw [key, e, Int.emod_self] at h3
      exact absurd rfl h3
    · rw [key, Int.emod_eq_of_lt (by omega) (by omega)]

/-- How far the next view is that a part leads. -/
def gap (v n i : Int) : Int := (i - lead v n + n) % n
def next (v n i : Int) : Int := if lead v n = 0 ∨ i < 1 ∨ i > n then 0 else if v + gap v n i > 1099511627776 then 0 else v + gap v n i
theorem lead_zero {v n : Int} : lead v n = 0 ↔ ¬ (vok v ∧ nok n) := by
  by_cases h : vok v ∧ nok n
  · rw [lead_yes h.1 h.2]
    have hn := h.2
    unfold nok at hn
    have := Int.emod_nonneg (v - 1) (show n ≠ 0 by omega)
    constructor
    · intro e; omega
    · intro e; exact absurd h e
  · rw [lead_no h]; simp [h]
theorem lead_range {v n : Int} (hv : vok v) (hn : nok n) : 1 ≤ lead v n ∧ lead v n ≤ n := by
  rw [lead_yes hv hn]
  unfold nok at hn
  have := Int.emod_nonneg (v - 1) (show n ≠ 0 by omega)
  have := Int.emod_lt_of_pos (v - 1) (show 0 < n by omega)
  omega
theorem gap_range {v n i : Int} (hn : nok n) : 0 ≤ gap v n i ∧ gap v n i < n := by
  unfold nok at hn
  exact ⟨Int.emod_nonneg _ (by omega), Int.emod_lt_of_pos _ (by omega)⟩
theorem c_next (v n i : Int) : FnOK Try.prog D 20 [.sc (.int .i64 v), .sc (.int .i64 n), .sc (.int .i64 i)] [] (fun r st => r = .sc (.int .i64 (next v n i)) ∧ st = []) := by
  refine fnok_of_W hmix tabOK Try.func20 rfl rfl (Nat.le_of_ble_eq_true rfl) ?_
  conv => whnf
  refine (c_of v n).mono fun r st e => ?_
  obtain ⟨rfl, rfl⟩ := e
  conv => whnf
  refine Branch.of (fun h => ?_) (fun h => ?_) <;> rw [h] <;> conv => whnf
  · refine ⟨false, [], ?_⟩
    conv => whnf
    refine ⟨?_, rfl⟩
    congr 2
    simp only [beq_iff_eq] at h
    rw [next, if_pos (.inl h)]
  simp only [beq_eq_false_iff_ne] at h
  have hv := Decidable.not_not.1 fun e => h (lead_zero.2 e)
  obtain ⟨hv, hn⟩ := hv
  have hn2 := hn
  unfold nok at hn2
  have hv2 := hv
  unfold vok at hv2
  have hr := lead_range hv hn
  have hg := gap_range (v := v) (i := i) hn
  refine Branch.of (fun h2 => ?_) (fun h2 => ?_) <;> rw [h2] <;> conv => whnf
  · refine ⟨false, [], ?_⟩
    conv => whnf
    refine ⟨?_, rfl⟩
    congr 2
    simp only [decide_eq_true_eq] at h2
    rw [next, if_pos (.inr (.inl h2))]
  simp only [decide_eq_false_iff_not] at h2
  refine Branch.of (fun h3 => ?_) (fun h3 => ?_) <;> rw [h3] <;> conv => whnf
  · refine ⟨false, [], ?_⟩
    conv => whnf
    refine ⟨?_, rfl⟩
    congr 2
    simp only [decide_eq_true_eq] at h3
    rw [next, if_pos (.inr (.inr h3))]
  simp only [decide_eq_false_iff_not] at h3
  refine (c_of v n).mono fun r st e => ?_
  obtain ⟨rfl, rfl⟩ := e
  conv => whnf
  refine ⟨by omega, ?_⟩
  rw [w64 (x := i - lead v n) (by omega) (by omega), w64 (x := i - lead v n + n) (by omega) (by omega), Int.tmod_eq_emod_of_nonneg (by omega)]
  have eg : (i - lead v n + n) % n = gap v n i := rfl
  rw [eg]
  have hnx : next v n i = if v + gap v n i > 1099511627776 then 0 else v + gap v n i := by
    rw [next, if_neg (by omega)]
  conv => whnf
  rw [w64 (x := v + gap v n i) (by omega) (by omega)]
  refine Branch.of (fun h4 => ?_) (fun h4 => ?_) <;> rw [h4] <;> conv => whnf
  all_goals refine ⟨false, [], ?_⟩
  all_goals conv => whnf
  all_goals refine ⟨?_, rfl⟩
  all_goals congr 2
  · simp only [decide_eq_true_eq] at h4
    rw [hnx, if_pos h4]
  · simp only [decide_eq_false_iff_not] at h4
    rw [hnx, if_neg h4]

/-- Which views are led: those the gap away from the first, and by whole rounds. -/
theorem led_iff {v k n i : Int} (hv : vok v) (hn : nok n) (hk : 0 ≤ k) (hvk : v + k ≤ 1099511627776) (h1 : 1 ≤ i) (h2 : i ≤ n) : lead (v + k) n = i ↔ (k - gap v n i) % n = 0 := by
  have hn2 := hn
  unfold nok at hn2
  have hv2 := hv
  unfold vok at hv2
  rw [lead_yes (by unfold vok; omega) hn, gap, lead_yes hv hn]
  have e1 : (k - (i - ((v - 1) % n + 1) + n) % n) % n = (v + k - i) % n := by
    rw [Int.sub_emod, Int.emod_emod, ← Int.sub_emod]
    have : k - (i - ((v - 1) % n + 1) + n) = (v - 1) % n + (k - i + 1 - n) := by omega
    rw [this, Int.emod_add_emod]
    have : v - 1 + (k - i + 1 - n) = (v + k - i) - n := by omega
    rw [this, Int.sub_emod_right]
  rw [e1]
  have e2 : (v + k - i) % n = ((v + k - 1) % n + (1 - i)) % n := by
    rw [Int.emod_add_emod]
    congr 1
    omega
  rw [e2]
  have a1 := Int.emod_nonneg (v + k - 1) (show n ≠ 0 by omega)
  have a2 := Int.emod_lt_of_pos (v + k - 1) (show 0 < n by omega)
  constructor
  · intro e
    have : (v + k - 1) % n + (1 - i) = 0 := by omega
    rw [this]; simp
  · intro e
    have d := Int.dvd_of_emod_eq_zero e
    obtain ⟨q, hq⟩ := d
    have : q = 0 := by
      rcases Int.lt_trichotomy q 0 with hq0 | hq0 | hq0
      · have : n * q ≤ n * (-1) := Int.mul_le_mul_of_nonneg_left (by omega) (by omega)
        omega
      · exact hq0
      · have : n * 1 ≤ n * q := Int.mul_le_mul_of_nonneg_left (by omega) (by omega)
        omega
    rw [this] at hq
    omega
theorem c_refnext (v n i : Int) : FnOK Try.prog D 21 [.sc (.int .i64 v), .sc (.int .i64 n), .sc (.int .i64 i)] [] (fun r st => r = .sc (.int .i64 (next v n i)) ∧ st = []) := by
  refine fnok_of_W hmix tabOK Try.func21 rfl rfl (Nat.le_of_ble_eq_true rfl) ?_
  conv => whnf
  refine Branch.of (fun h => ?_) (fun h => ?_) <;> rw [h] <;> conv => whnf
  · refine ⟨false, [], ?_⟩
    conv => whnf
    refine ⟨?_, rfl⟩
    congr 2
    simp only [decide_eq_true_eq] at h
    rw [next, if_pos (.inl (lead_zero.2 fun e => by have := e.1.1; omega))]
  simp only [decide_eq_false_iff_not] at h
  refine Branch.of (fun h2 => ?_) (fun h2 => ?_) <;> rw [h2] <;> conv => whnf
  · refine ⟨false, [], ?_⟩
    conv => whnf
    refine ⟨?_, rfl⟩
    congr 2
    simp only [decide_eq_true_eq] at h2
    rw [next, if_pos (.inl (lead_zero.2 fun e => by have := e.1.2; omega))]
  simp only [decide_eq_false_iff_not] at h2
  have hv : vok v := by unfold vok; omega
  have stop : ∀ k : Int, 0 ≤ k → k ≤ 21 → v + k ≤ 1099511627776 → (k < 21 → v + k = 1099511627776 ∧ ¬ (1 ≤ i ∧ lead (v + k) n = i)) → (∀ j : Int, 0 ≤ j → j < k → ¬ (1 ≤ i ∧ lead (v + j) n = i)) → next v n i = 0 := by
    intro k k1 k2 k3 k4 k5
    rw [next]
    by_cases c : lead v n = 0 ∨ i < 1 ∨ i > n
    · rw [if_pos c]
    · rw [if_neg c]
      have hn := (Decidable.not_not.1 fun e => c (.inl (lead_zero.2 e))).2
      have hg := gap_range (v := v) (i := i) hn
      have hn2 := hn
      unfold nok at hn2
      by_cases c2 : v + gap v n i > 1099511627776
      · rw [if_pos c2]
      · exfalso
        have hl : lead (v + gap v n i) n = i := (led_iff hv hn hg.1 (by omega) (by omega) (by omega)).2 (by simp)
        by_cases c3 : gap v n i < k
        · exact k5 _ hg.1 c3 ⟨by omega, hl⟩
        · by_cases c4 : k < 21
          · have e : gap v n i = k := by have := (k4 c4).1; omega
            exact (k4 c4).2 ⟨by omega, e ▸ hl⟩
          · omega
  refine ⟨false, [0, 1, 2, 7], fun τ => ∃ k : Int, 0 ≤ k ∧ k ≤ 21 ∧ v + k ≤ 1099511627776 ∧ (∀ j : Int, 0 ≤ j → j < k → ¬ (1 ≤ i ∧ lead (v + j) n = i)) ∧ τ = ⟨36, [(0, .sc (.int .i64 v)), (1, .sc (.int .i64 n)), (2, .sc (.int .i64 i)), (7, .sc (.int .i64 k))], ⟨[], [], 0⟩⟩, fun τ => (21 - slotI τ 7).toNat, ?_, ?_⟩
  · conv => whnf
    exact ⟨0, by omega, by omega, by omega, fun j k1 k2 => by omega, rfl⟩
  · rintro τ ⟨k, k1, k2, k3, k5, rfl⟩
    conv => whnf
    refine Branch.of (fun h3 => ?_) (fun h3 => ?_) <;> rw [h3] <;> conv => whnf
    · simp only [decide_eq_true_eq] at h3
      have go : ¬ (1 ≤ i ∧ lead (v + k) n = i) → ¬ v ≥ 1099511627776 - k → (fun τ => ∃ k : Int, 0 ≤ k ∧ k ≤ 21 ∧ v + k ≤ 1099511627776 ∧ (∀ j : Int, 0 ≤ j → j < k → ¬ (1 ≤ i ∧ lead (v + j) n = i)) ∧ τ = (⟨36, [(0, .sc (.int .i64 v)), (1, .sc (.int .i64 n)), (2, .sc (.int .i64 i)), (7, .sc (.int .i64 k))], ⟨[], [], 0⟩⟩ : AS)) ⟨36, [(0, .sc (.int .i64 v)), (1, .sc (.int .i64 n)), (2, .sc (.int .i64 i)), (7, .sc (.int .i64 (k + 1)))], ⟨[], [], 0⟩⟩ := by
        intro g1 g2
        refine ⟨k + 1, by omega, by omega, by omega, fun j j1 j2 => ?_, rfl⟩
        by_cases e : j = k
        · rw [e]; exact g1
        · exact k5 j j1 (by omega)
      refine Branch.of (fun h4 => ?_) (fun h4 => ?_) <;> rw [h4] <;> conv => whnf
      · simp only [decide_eq_true_eq] at h4
        rw [w64 (x := v + k) (by omega) (by omega)]
        refine (c_refof (v + k) n).mono fun r st e => ?_
        obtain ⟨rfl, rfl⟩ := e
        conv => whnf
        refine Branch.of (fun h5 => ?_) (fun h5 => ?_) <;> rw [h5] <;> conv => whnf
        · simp only [beq_iff_eq] at h5
          refine ⟨false, [], ?_⟩
          conv => whnf
          refine ⟨?_, rfl⟩
          congr 2
          rw [w64 (x := v + k) (by omega) (by omega)]
          have hn : nok n := by
            refine Decidable.not_not.1 fun e => ?_
            rw [lead_no fun e' => e e'.2] at h5
            omega
          have hr := lead_range (v := v + k) (by unfold vok; omega) hn
          have hg := gap_range (v := v) (i := i) hn
          have hn2 := hn
          unfold nok at hn2
          have hd := (led_iff hv hn k1 k3 (by omega) (by omega)).1 h5
          have hle : ¬ gap v n i < k := fun c => k5 _ hg.1 c ⟨by omega, (led_iff hv hn hg.1 (by omega) (by omega) (by omega)).2 (by simp)⟩
          have e : gap v n i = k := by
            obtain ⟨q, hq⟩ := Int.dvd_of_emod_eq_zero hd
            have : q = 0 := by
              rcases Int.lt_trichotomy q 0 with hq0 | hq0 | hq0
              · have : n * q ≤ n * (-1) := Int.mul_le_mul_of_nonneg_left (by omega) (by omega)
                omega
              · exact hq0
              · have : n * 1 ≤ n * q := Int.mul_le_mul_of_nonneg_left (by omega) (by omega)
                omega
            rw [this] at hq
            omega
          rw [next, if_neg (fun c => ?_), if_neg (by omega), e]
          rcases c with c | c | c
          · exact lead_zero.1 c ⟨hv, hn⟩
          · omega
          · omega
        · simp only [beq_eq_false_iff_ne] at h5
          rw [w64 (x := 1099511627776 - k) (by omega) (by omega)]
          refine Branch.of (fun h6 => ?_) (fun h6 => ?_) <;> rw [h6] <;> conv => whnf
          · simp only [decide_eq_true_eq] at h6
            refine ⟨false, [], ?_⟩
            conv => whnf
            refine ⟨?_, rfl⟩
            congr 2
            exact (stop k k1 k2 k3 (fun _ => ⟨by omega, fun e => h5 e.2⟩) k5).symm
          · simp only [decide_eq_false_iff_not] at h6
            rw [w64 (x := k + 1) (by omega) (by omega)]
            refine ⟨go (fun e => h5 e.2) h6, ?_⟩
            show (21 - (k + 1)).toNat < (21 - k).toNat
            omega
      · simp only [decide_eq_false_iff_not] at h4
        rw [w64 (x := 1099511627776 - k) (by omega) (by omega)]
        refine Branch.of (fun h6 => ?_) (fun h6 => ?_) <;> rw [h6] <;> conv => whnf
        · simp only [decide_eq_true_eq] at h6
          refine ⟨false, [], ?_⟩
          conv => whnf
          refine ⟨?_, rfl⟩
          congr 2
          exact (stop k k1 k2 k3 (fun _ => ⟨by omega, fun e => h4 e.1⟩) k5).symm
        · simp only [decide_eq_false_iff_not] at h6
          rw [w64 (x := k + 1) (by omega) (by omega)]
          refine ⟨go (fun e => h4 e.1) h6, ?_⟩
          show (21 - (k + 1)).toNat < (21 - k).toNat
          omega
    · simp only [decide_eq_false_iff_not] at h3
      refine ⟨false, [], ?_⟩
      conv => whnf
      refine ⟨?_, rfl⟩
      congr 2
      exact (stop k k1 k2 k3 (fun c => absurd c h3) k5).symm

def count (f t n i : Int) : Int := if ¬ vok t ∨ next f n i = 0 ∨ next f n i > t then 0 else (t - next f n i) / n + 1
theorem next_range {f n i : Int} (h : next f n i ≠ 0) : vok f ∧ nok n ∧ 1 ≤ i ∧ i ≤ n ∧ next f n i = f + gap f n i ∧ f ≤ next f n i ∧ next f n i ≤ 1099511627776 := by
  by_cases c : lead f n = 0 ∨ i < 1 ∨ i > n
  · rw [next, if_pos c] at h; exact absurd rfl h
  · have hv := Decidable.not_not.1 fun e => c (.inl (lead_zero.2 e))
    have hg := gap_range (v := f) (i := i) hv.2
    by_cases c2 : f + gap f n i > 1099511627776
    · rw [next, if_neg c, if_pos c2] at h; exact absurd rfl h
    · have e : next f n i = f + gap f n i := by rw [next, if_neg c, if_neg c2]
      exact ⟨hv.1, hv.2, by omega, by omega, e, by omega, by omega⟩
theorem c_count (f t n i : Int) : FnOK Try.prog D 22 [.sc (.int .i64 f), .sc (.int .i64 t), .sc (.int .i64 n), .sc (.int .i64 i)] [] (fun r st => r = .sc (.int .i64 (count f t n i)) ∧ st = []) := by
  refine fnok_of_W hmix tabOK Try.func22 rfl rfl (Nat.le_of_ble_eq_true rfl) ?_
  conv => whnf
  refine (c_next f n i).mono fun r st e => ?_
  obtain ⟨rfl, rfl⟩ := e
  conv => whnf
  refine (c_view t).mono fun r st e => ?_
  obtain ⟨rfl, rfl⟩ := e
  conv => whnf
  refine Branch.of (fun h => ?_) (fun h => ?_) <;> rw [h] <;> conv => whnf
  · refine ⟨false, [], ?_⟩
    conv => whnf
    refine ⟨?_, rfl⟩
    congr 2
    simp only [Bool.not_eq_true', decide_eq_false_iff_not] at h
    rw [count, if_pos (.inl h)]
  simp only [Bool.not_eq_false', decide_eq_true_eq] at h
  refine Branch.of (fun h2 => ?_) (fun h2 => ?_) <;> rw [h2] <;> conv => whnf
  · refine ⟨false, [], ?_⟩
    conv => whnf
    refine ⟨?_, rfl⟩
    congr 2
    simp only [beq_iff_eq] at h2
    rw [count, if_pos (.inr (.inl h2))]
  simp only [beq_eq_false_iff_ne] at h2
  refine Branch.of (fun h3 => ?_) (fun h3 => ?_) <;> rw [h3] <;> conv => whnf
  · refine ⟨false, [], ?_⟩
    conv => whnf
    refine ⟨?_, rfl⟩
    congr 2
    simp only [decide_eq_true_eq] at h3
    rw [count, if_pos (.inr (.inr h3))]
  simp only [decide_eq_false_iff_not] at h3
  obtain ⟨r1, r2, r3, r4, r5, r6, r7⟩ := next_range h2
  unfold nok at r2
  unfold vok at r1
  refine ⟨by omega, ?_⟩
  have q1 := Int.ediv_nonneg (a := t - next f n i) (b := n) (by omega) (by omega)
  have q2 := Int.ediv_le_self (a := t - next f n i) n (by omega)
  conv => whnf
  refine ⟨false, [], ?_⟩
  conv => whnf
  refine ⟨?_, rfl⟩
  congr 2
  rw [w64 (x := t - next f n i) (by omega) (by omega), Int.tdiv_eq_ediv_of_nonneg (by omega), w64 (x := (t - next f n i) / n) (by omega) (by omega), w64 (by omega) (by omega), count, if_neg]
  rintro (c | c | c)
  · exact c h
  · exact h2 c
  · omega

/-- How many of the views from one on, below another, are led. -/
def many (f n i : Int) : Nat → Int
  | 0 => 0
  | k + 1 => many f n i k + if lead (f + k) n = i then 1 else 0
theorem many_range (f n i : Int) : ∀ k : Nat, 0 ≤ many f n i k ∧ many f n i k ≤ k
  | 0 => ⟨Int.le_refl _, Int.le_refl _⟩
  | k + 1 => by
    have := many_range f n i k
    simp only [many]
    split <;> omega
theorem ediv_step {a n : Int} (hn : 1 ≤ n) (_ : 0 ≤ a) : (a + 1) / n = a / n + if (a + 1) % n = 0 then 1 else 0 := by
  have e1 := Int.emod_add_mul_ediv a n
  have e2 := Int.emod_add_mul_ediv (a + 1) n
  have m1 := Int.emod_nonneg a (show n ≠ 0 by omega)
  have m2 := Int.emod_lt_of_pos a (show 0 < n by omega)
  have m3 := Int.emod_nonneg (a + 1) (show n ≠ 0 by omega)
  have m4 := Int.emod_lt_of_pos (a + 1) (show 0 < n by omega)
  have hd : n * ((a + 1) / n - a / n) = a % n + 1 - (a + 1) % n := by rw [Int.mul_sub]; omega
  have q : (a + 1) / n - a / n = 0 ∨ (a + 1) / n - a / n = 1 := by
    generalize (a + 1) / n - a / n = q at hd
    rcases Int.lt_trichotomy q 0 with h | h | h
    · have : n * q ≤ n * (-1) := Int.mul_le_mul_of_nonneg_left (by omega) (by omega)
      omega
    · exact .inl h
    · by_cases h1 : q = 1
      · exact .inr h1
      · have : n * 2 ≤ n * q := Int.mul_le_mul_of_nonneg_left (by omega) (by omega)
        omega
  rcases q with q | q
  · rw [q] at hd
    split <;> omega
  · rw [q] at hd
    split <;> omega
theorem many_at {f n i : Int} (hf : vok f) (hn : nok n) (h1 : 1 ≤ i) (h2 : i ≤ n) : ∀ k : Nat, f + k ≤ 1099511627776 + 1 → many f n i k = if (k : Int) ≤ gap f n i then 0 else ((k : Int) - 1 - gap f n i) / n + 1
  | 0, _ => by
    have := (gap_range (v := f) (i := i) hn).1
    rw [many, if_pos (by omega)]
  | k + 1, hk => by
    have hg := gap_range (v := f) (i := i) hn
    have hn2 := hn
    unfold nok at hn2
    rw [many, many_at hf hn h1 h2 k (by omega)]
    have hl := led_iff (k := k) hf hn (by omega) (by omega) h1 h2
    by_cases c : (k : Int) < gap f n i
    · rw [if_pos (show (k : Int) ≤ gap f n i by omega), if_pos (show ((k + 1 : Nat) : Int) ≤ gap f n i by omega), if_neg]
      · rfl
      · intro e
        obtain ⟨q, hq⟩ := Int.dvd_of_emod_eq_zero (hl.1 e)
        rcases Int.lt_trichotomy q 0 with hq0 | hq0 | hq0
        · have : n * q ≤ n * (-1) := Int.mul_le_mul_of_nonneg_left (by omega) (by omega)
          omega
        · rw [hq0] at hq; omega
        · have : n * 1 ≤ n * q := Int.mul_le_mul_of_nonneg_left (by omega) (by omega)
          omega
    · rw [if_neg (show ¬ ((k + 1 : Nat) : Int) ≤ gap f n i by omega)]
      by_cases c2 : (k : Int) = gap f n i
      · rw [if_pos (by omega), if_pos (hl.2 (by rw [c2]; simp))]
        have : ((k + 1 : Nat) : Int) - 1 - gap f n i = 0 := by omega
        rw [this]
        simp
      · rw [if_neg (by omega)]
        have e : ((k + 1 : Nat) : Int) - 1 - gap f n i = ((k : Int) - 1 - gap f n i) + 1 := by omega
        rw [e, ediv_step (by omega) (by omega)]
        have e2 : (k : Int) - 1 - gap f n i + 1 = k - gap f n i := by omega
        rw [e2]
        by_cases c3 : lead (f + k) n = i
        · rw [if_pos c3, if_pos (hl.1 c3)]
        · rw [if_neg c3, if_neg (fun e => c3 (hl.2 e))]; omega
theorem many_none {f n i : Int} (h : ¬ (nok n ∧ i ≤ n)) (h1 : 1 ≤ i) : ∀ k : Nat, many f n i k = 0
  | 0 => rfl
  | k + 1 => by
    rw [many, many_none h h1 k, if_neg]
    · rfl
    · intro e
      by_cases c : vok (f + k) ∧ nok n
      · have := lead_range c.1 c.2
        exact h ⟨c.2, by omega⟩
      · rw [lead_no c] at e; omega
/-- Counted one by one, or at once. -/
theorem many_count {f t n i : Int} (hf : 1 ≤ f) (ht : t ≤ 1099511627776) (hi : 1 ≤ i) (hft : f ≤ t + 1) : many f n i (t + 1 - f).toNat = count f t n i := by
  by_cases c0 : f = t + 1
  · have : (t + 1 - f).toNat = 0 := by omega
    rw [this, many, count]
    by_cases c : next f n i = 0
    · rw [if_pos (.inr (.inl c))]
    · have := next_range c
      rw [if_pos (.inr (.inr (by omega)))]
  have hv : vok f := by unfold vok; omega
  have ht2 : vok t := by unfold vok; omega
  by_cases c : nok n ∧ i ≤ n
  · rw [many_at hv c.1 hi c.2 _ (by omega)]
    have hg := gap_range (v := f) (i := i) c.1
    have hl := lead_range hv c.1
    have hcond : ¬ (lead f n = 0 ∨ i < 1 ∨ i > n) := by
      rintro (e | e | e) <;> omega
    have hn2 := c.1
    unfold nok at hn2
    by_cases c2 : f + gap f n i > 1099511627776
    · rw [if_pos (by omega), count, if_pos (.inr (.inl (by rw [next, if_neg hcond, if_pos c2])))]
    · have e : next f n i = f + gap f n i := by rw [next, if_neg hcond, if_neg c2]
      rw [count, e]
      by_cases c3 : f + gap f n i > t
      · rw [if_pos (by omega), if_pos (.inr (.inr c3))]
      · rw [if_neg (by omega), if_neg]
        · congr 2
          omega
        · rintro (c4 | c4 | c4)
          · exact c4 ht2
          · omega
          · omega
  · rw [many_none c hi, count, if_pos]
    right; left
    rw [next, if_pos]
    by_cases cn : nok n
    · right; right
      have : ¬ i ≤ n := fun e => c ⟨cn, e⟩
      omega
    · left
      exact lead_zero.2 fun e => cn e.2
theorem c_refcount (f t n i : Int) : FnOK Try.prog D 24 [.sc (.int .i64 f), .sc (.int .i64 t), .sc (.int .i64 n), .sc (.int .i64 i)] [] (fun r st => (1 ≤ f → t ≤ 1099511627776 → f ≤ t + 1 → r = .sc (.int .i64 (count f t n i))) ∧ (1 ≤ f → (t < f ∨ t > 1099511627776) → r = .sc (.int .i64 0)) ∧ ∃ x, r = .sc (.int .i64 x) ∧ st = []) := by
  refine fnok_of_W hmix tabOK Try.func24 rfl rfl (Nat.le_of_ble_eq_true rfl) ?_
  conv => whnf
  refine Branch.of (fun h => ?_) (fun h => ?_) <;> rw [h] <;> conv => whnf
  · simp only [decide_eq_true_eq] at h
    refine ⟨false, [], ?_⟩
    conv => whnf
    exact ⟨fun e => by omega, fun e => by omega, 0, rfl, rfl⟩
  simp only [decide_eq_false_iff_not] at h
  refine Branch.of (fun h2 => ?_) (fun h2 => ?_) <;> rw [h2] <;> conv => whnf
  · simp only [decide_eq_true_eq] at h2
    refine ⟨false, [], ?_⟩
    conv => whnf
    exact ⟨fun _ e => by omega, fun _ _ => rfl, 0, rfl, rfl⟩
  simp only [decide_eq_false_iff_not] at h2
  have zero : i < 1 → count f t n i = 0 := by
    intro hi
    rw [count, if_pos]
    right; left
    rw [next, if_pos (.inr (.inl hi))]
  refine Branch.of (fun h3 => ?_) (fun h3 => ?_) <;> rw [h3] <;> conv => whnf
  · simp only [decide_eq_true_eq] at h3
    refine ⟨false, [], ?_⟩
    conv => whnf
    exact ⟨fun _ _ _ => by rw [zero h3], fun _ _ => rfl, 0, rfl, rfl⟩
  simp only [decide_eq_false_iff_not] at h3
  refine ⟨false, [1, 2, 3, 9, 10], fun τ => ∃ k : Nat, (f ≤ t + 1 → f + k ≤ t + 1) ∧ (t + 1 < f → k = 0) ∧ τ = ⟨35, [(1, .sc (.int .i64 t)), (2, .sc (.int .i64 n)), (3, .sc (.int .i64 i)), (9, .sc (.int .i64 (many f n i k))), (10, .sc (.int .i64 (f + k)))], ⟨[], [], 0⟩⟩, fun τ => (t + 1 - slotI τ 10).toNat, ?_, ?_⟩
  · conv => whnf
    refine ⟨0, by omega, fun _ => rfl, ?_⟩
    simp only [many, Int.natCast_zero, Int.add_zero]
    rfl
  · rintro τ ⟨k, k1, k2, rfl⟩
    conv => whnf
    have hm := many_range f n i k
    refine Branch.of (fun h4 => ?_) (fun h4 => ?_) <;> rw [h4] <;> conv => whnf
    · simp only [decide_eq_true_eq] at h4
      refine (c_refof (f + k) n).mono fun r st e => ?_
      obtain ⟨rfl, rfl⟩ := e
      conv => whnf
      refine Branch.of (fun h5 => ?_) (fun h5 => ?_) <;> rw [h5] <;> conv => whnf
      · simp only [beq_iff_eq] at h5
        rw [w64 (x := f + k + 1) (by omega) (by omega), w64 (x := many f n i k + 1) (by omega) (by omega)]
        refine ⟨⟨k + 1, by omega, by omega, ?_⟩, ?_⟩
        · rw [many, if_pos h5, Int.natCast_add, ← Int.add_assoc]
          rfl
        · show (t + 1 - (f + k + 1)).toNat < (t + 1 - (f + k)).toNat
          omega
      · simp only [beq_eq_false_iff_ne] at h5
        rw [w64 (x := f + k + 1) (by omega) (by omega)]
        refine ⟨⟨k + 1, by omega, by omega, ?_⟩, ?_⟩
        · rw [many, if_neg h5, Int.natCast_add, ← Int.add_assoc, Int.add_zero]
          rfl
        · show (t + 1 - (f + k + 1)).toNat < (t + 1 - (f + k)).toNat
          omega
    · simp only [decide_eq_false_iff_not] at h4
      refine ⟨false, [], ?_⟩
      conv => whnf
      refine ⟨fun g1 g2 g3 => ?_, fun g1 g2 => ?_, many f n i k, rfl, rfl⟩
      · rw [← many_count g1 g2 (by omega) g3]
        have : (t + 1 - f).toNat = k := by omega
        rw [this]
      · have : k = 0 := by omega
        subst this
        rfl

theorem c_awake : FnOK Try.prog D 23 [] [] (fun r st => r = .sc (.bool true) ∧ st = []) := by
  refine fnok_of_W hmix tabOK Try.func23 rfl rfl (Nat.le_of_ble_eq_true rfl) ?_
  conv => whnf
  refine (c_of 1 3).mono fun r st e => ?_
  obtain ⟨rfl, rfl⟩ := e
  rw [show lead 1 3 = 1 by decide]
  conv => whnf
  refine (c_of 3 3).mono fun r st e => ?_
  obtain ⟨rfl, rfl⟩ := e
  rw [show lead 3 3 = 3 by decide]
  conv => whnf
  refine (c_of 4 3).mono fun r st e => ?_
  obtain ⟨rfl, rfl⟩ := e
  rw [show lead 4 3 = 1 by decide]
  conv => whnf
  refine (c_next 2 3 1).mono fun r st e => ?_
  obtain ⟨rfl, rfl⟩ := e
  rw [show next 2 3 1 = 4 by decide]
  conv => whnf
  refine ⟨false, [], ?_⟩
  conv => whnf
  exact ⟨rfl, rfl⟩
end Go.WL.T1
namespace Go.WL.T1
open Go.WL Go.Proofs
set_option maxRecDepth 20000
theorem c_law (v n i t : Int) (hv : -9223372036854775808 ≤ v ∧ v < 9223372036854775808) (ht : -9223372036854775808 ≤ t ∧ t < 9223372036854775808) : FnOK Try.prog D 4 [.sc (.int .i64 v), .sc (.int .i64 n), .st [.sc (.int .i64 i), .sc (.int .i64 t)]] [] (fun r _ => r = .sc (.bool true)) := by
  refine fnok_of_W hmix tabOK Try.func4 rfl rfl (Nat.le_of_ble_eq_true rfl) ?_
  conv => whnf
  refine ⟨_, _, c_of v n, ?_⟩
  conv => whnf
  refine ⟨_, _, c_refof v n, ?_⟩
  conv => whnf
  rw [show (lead v n != lead v n) = false from bne_self_eq_false _]
  conv => whnf
  refine ⟨_, _, c_next v n i, ?_⟩
  conv => whnf
  refine ⟨_, _, c_refnext v n i, ?_⟩
  conv => whnf
  rw [show (next v n i != next v n i) = false from bne_self_eq_false _]
  conv => whnf
  have zero : ¬ vok v → count v t n i = 0 := by
    intro c
    rw [count, if_pos (.inr (.inl (by rw [next, if_pos (.inl (lead_zero.2 fun e => c e.1))])))]
  refine Branch.of (fun h => ?_) (fun h => ?_) <;> rw [h] <;> conv => whnf
  · simp only [decide_eq_true_eq] at h
    refine (c_count v t n i).mono fun r st e => ?_
    obtain ⟨rfl, rfl⟩ := e
    conv => whnf
    rw [zero (fun c => by unfold vok at c; omega)]
    conv => whnf
    refine (c_awake).mono fun r st e => ?_
    obtain ⟨rfl, rfl⟩ := e
    conv => whnf
    refine ⟨false, [], ?_⟩
    conv => whnf
  simp only [decide_eq_false_iff_not] at h
  refine Branch.of (fun h2 => ?_) (fun h2 => ?_) <;> rw [h2] <;> conv => whnf
  · simp only [decide_eq_true_eq] at h2
    refine (c_count v t n i).mono fun r st e => ?_
    obtain ⟨rfl, rfl⟩ := e
    conv => whnf
    rw [zero (fun c => by unfold vok at c; omega)]
    conv => whnf
    refine (c_awake).mono fun r st e => ?_
    obtain ⟨rfl, rfl⟩ := e
    conv => whnf
    refine ⟨false, [], ?_⟩
    conv => whnf
  simp only [decide_eq_false_iff_not] at h2
  have rest : ∀ (r : AV) (st : List AV), ((1 ≤ v → t ≤ 1099511627776 → v ≤ t + 1 → r = .sc (.int .i64 (count v t n i))) ∧ (1 ≤ v → (t < v ∨ t > 1099511627776) → r = .sc (.int .i64 0)) ∧ ∃ x, r = .sc (.int .i64 x) ∧ st = []) → r = .sc (.int .i64 (count v t n i)) ∧ st = [] := by
    rintro r st ⟨h3, h4, x, h5, h6⟩
    refine ⟨?_, h6⟩
    by_cases c : t < v ∨ t > 1099511627776
    · rw [h4 (by omega) c, count]
      rw [if_pos]
      by_cases c1 : next v n i = 0
      · exact .inr (.inl c1)
      · have := next_range c1
        unfold vok
        omega
    · exact h3 (by omega) (by omega) (by omega)
  refine Branch.of (fun h3 => ?_) (fun h3 => ?_) <;> rw [h3] <;> conv => whnf
  · simp only [decide_eq_true_eq] at h3
    rw [w64 (x := t - v) (by omega) (by omega)]
    refine Branch.of (fun h4 => ?_) (fun h4 => ?_) <;> rw [h4] <;> conv => whnf
    · refine Branch.of (fun h5 => ?_) (fun h5 => ?_) <;> rw [h5] <;> conv => whnf
      · refine (c_awake).mono fun r st e => ?_
        obtain ⟨rfl, rfl⟩ := e
        conv => whnf
        refine ⟨false, [], ?_⟩
        conv => whnf
      · refine ⟨_, _, c_count v t n i, ?_⟩
        conv => whnf
        refine ⟨_, _, (c_refcount v t n i).mono rest, ?_⟩
        conv => whnf
        rw [show (count v t n i == count v t n i) = true from beq_self_eq_true _]
        conv => whnf
        refine ⟨_, _, c_awake, ?_⟩
        conv => whnf
        refine ⟨false, [], ?_⟩
        conv => whnf
    · refine ⟨_, _, c_count v t n i, ?_⟩
      conv => whnf
      refine ⟨_, _, (c_refcount v t n i).mono rest, ?_⟩
      conv => whnf
      rw [show (count v t n i == count v t n i) = true from beq_self_eq_true _]
      conv => whnf
      refine ⟨_, _, c_awake, ?_⟩
      conv => whnf
      refine ⟨false, [], ?_⟩
      conv => whnf
  · refine ⟨_, _, c_count v t n i, ?_⟩
    conv => whnf
    refine ⟨_, _, (c_refcount v t n i).mono rest, ?_⟩
    conv => whnf
    rw [show (count v t n i == count v t n i) = true from beq_self_eq_true _]
    conv => whnf
    refine ⟨_, _, c_awake, ?_⟩
    conv => whnf
    refine ⟨false, [], ?_⟩
    conv => whnf
end Go.WL.T1
