/- Sums with a key: the laws. No condition. -/
import Derived.Test.YtkcflejbhfaihaaDoorPart16
import Derived.Test.YtkcflejbhfaihaaDoorPart17
set_option linter.unusedVariables false
set_option linter.unusedSimpArgs false
namespace Go.WL.T4
open Go.WL Go.Proofs
set_option maxRecDepth 20000
set_option maxHeartbeats 8000000
def jefe : List UInt8 := [74, 101, 102, 101]
def wdyw : List UInt8 := [119, 104, 97, 116, 32, 100, 111, 32, 121, 97, 32, 119, 97, 110, 116, 32]
def ffn : List UInt8 := [102, 111, 114, 32, 110, 111, 116, 104, 105, 110, 103, 63]
def jsum : List UInt8 := [53, 98, 100, 99, 99, 49, 52, 54, 98, 102, 54, 48, 55, 53, 52, 101, 54, 97, 48, 52, 50, 52, 50, 54, 48, 56, 57, 53, 55, 53, 99, 55, 53, 97, 48, 48, 51, 102, 48, 56, 57, 100, 50, 55, 51, 57, 56, 51, 57, 100, 101, 99, 53, 56, 98, 57, 54, 52, 101, 99, 51, 56, 52, 51]
theorem jefe_sum : hexB (macB jefe [wdyw, ffn].flatten) = jsum := by decide +kernel
theorem c_awake3_aux (M H : List UInt8) (hM : M.length = 32) (hH : H = jsum)
    (cm : FnOK Tryd.prog D 32 [.sl .lf [(AV.sc (.int .u8 (74))), (AV.sc (.int .u8 (101))), (AV.sc (.int .u8 (102))), (AV.sc (.int .u8 (101)))] .ro, .sl .lf [.sl .lf [(AV.sc (.int .u8 (119))), (AV.sc (.int .u8 (104))), (AV.sc (.int .u8 (97))), (AV.sc (.int .u8 (116))), (AV.sc (.int .u8 (32))), (AV.sc (.int .u8 (100))), (AV.sc (.int .u8 (111))), (AV.sc (.int .u8 (32))), (AV.sc (.int .u8 (121))), (AV.sc (.int .u8 (97))), (AV.sc (.int .u8 (32))), (AV.sc (.int .u8 (119))), (AV.sc (.int .u8 (97))), (AV.sc (.int .u8 (110))), (AV.sc (.int .u8 (116))), (AV.sc (.int .u8 (32)))] .ro, .sl .lf [(AV.sc (.int .u8 (102))), (AV.sc (.int .u8 (111))), (AV.sc (.int .u8 (114))), (AV.sc (.int .u8 (32))), (AV.sc (.int .u8 (110))), (AV.sc (.int .u8 (111))), (AV.sc (.int .u8 (116))), (AV.sc (.int .u8 (104))), (AV.sc (.int .u8 (105))), (AV.sc (.int .u8 (110))), (AV.sc (.int .u8 (103))), (AV.sc (.int .u8 (63)))] .ro] .ex] [] (fun r st => r = .ar 32 .lf (by8 M) ∧ st = []))
    (ch : FnOK Tryd.prog D 30 [.ar 32 .lf (by8 M)] [] (fun r st => r = .sc (.string (strB H)) ∧ st = [])) :
    FnOK Tryd.prog D 31 [] [] (fun r st => r = (AV.sc (.bool (true))) ∧ st = []) := by
  refine fnok_of_W hmix tabOK Tryd.func31 rfl rfl (Nat.le_of_ble_eq_true rfl) ?_
  conv => whnf
  refine (cm).mono fun r st e => ?_
  obtain ⟨rfl, rfl⟩ := e
  conv => whnf
  refine (ch).mono fun r st e => ?_
  obtain ⟨rfl, rfl⟩ := e
  conv => whnf
  refine ⟨false, [], ?_⟩
  conv => whnf
  refine ⟨?_, rfl⟩
  congr 2
  rw [strB_list, hH, beq_iff_eq, ByteArray.toList_eq]
  rfl
theorem c_awake3 : FnOK Tryd.prog D 31 [] [] (fun r st => r = (AV.sc (.bool (true))) ∧ st = []) := by
  have cm := c_mac jefe [wdyw, ffn] (by decide) (by decide) (by decide) (m := .ex) (.inl rfl) (Weaks.refl _) (k := .ro) (.inr rfl)
  have hl : (macB jefe [wdyw, ffn].flatten).length = 32 := shaB_len _
  exact c_awake3_aux _ _ hl jefe_sum cm (c_hexR _ hl)
theorem c_macOf_aux (key text A B M K : List UInt8) (a : Nat) (h1 : a < 65536) (hA : A.length = 32) (hB : B.length = 32)
    (ca : FnOK Tryd.prog D 31 [] [] (fun r st => r = (AV.sc (.bool (true))) ∧ st = []))
    (cR : key.length ≤ 300 → text.length ≤ 500 → FnOK Tryd.prog D 33 [(AV.sl .lf (by8 (key)) .ro), (AV.sl .lf (by8 (text)) .ro)] [] (fun r st => r = .ar 32 .lf (by8 M) ∧ st = []))
    (cm : key.length ≤ 300 → text.length ≤ 500 → ∀ ps : List (List UInt8), ps.length < 10 → ps.flatten = text → FnOK Tryd.prog D 32 [(AV.sl .lf (by8 (key)) .ro), .sl .lf (ps.map fun b => (AV.sl .lf (by8 (b)) .ro)) .ex] [] (fun r st => r = .ar 32 .lf (by8 M) ∧ st = []))
    (cb : key.length ≤ 300 → FnOK Tryd.prog D 34 [(AV.sl .lf (by8 (key)) .ro)] [] (fun r st => r = .ar 64 .lf (by8 K) ∧ st = []))
    (cbR : key.length ≤ 300 → FnOK Tryd.prog D 35 [(AV.sl .lf (by8 (key)) .ro)] [] (fun r st => r = .ar 64 .lf (by8 K) ∧ st = [])) :
    FnOK Tryd.prog D 8 [(AV.sl .lf (by8 (key)) .ro), (AV.sl .lf (by8 (text)) .ro), .st [.ar 32 .lf (by8 A), .ar 32 .lf (by8 B), (AV.sc (.int .u16 ((a : Int))))]] [] (fun r _ => r = (AV.sc (.bool (true)))) := by
  refine fnok_of_W hmix tabOK Tryd.func8 rfl rfl (Nat.le_of_ble_eq_true rfl) ?_
  conv => whnf
  rw [len8]
  refine Branch.of (fun h2 => ?_) (fun h2 => ?_) <;> rw [h2] <;> conv => whnf
  · refine (ca).mono fun r st e => ?_
    obtain ⟨rfl, rfl⟩ := e
    conv => whnf
    refine ⟨false, [], ?_⟩
    conv => whnf
  rw [len8]
  refine Branch.of (fun h3 => ?_) (fun h3 => ?_) <;> rw [h3] <;> conv => whnf
  · refine (ca).mono fun r st e => ?_
    obtain ⟨rfl, rfl⟩ := e
    conv => whnf
    refine ⟨false, [], ?_⟩
    conv => whnf
  simp only [gt_iff_lt, decide_eq_false_iff_not] at h2 h3
  have hk : key.length ≤ 300 := by omega
  have ht : text.length ≤ 500 := by omega
  rw [len8, w64 (x := (text.length : Int) + 1) (by omega) (by omega), w64 (x := (a : Int)) (by omega) (by omega)]
  repeat (refine And.intro (by first | omega) ?_; conv => whnf)
  have hkk : a % (text.length + 1) < text.length + 1 := Nat.mod_lt _ (by omega)
  rw [show Int.tmod (a : Int) ((text.length : Int) + 1) = ((a % (text.length + 1) : Nat) : Int) from rfl]
  generalize a % (text.length + 1) = k at hkk
  refine (cR hk ht).mono fun r st e => ?_
  obtain ⟨rfl, rfl⟩ := e
  conv => whnf
  refine ⟨tabF8R5, by decide +kernel, ?_⟩
  conv => whnf
  refine ⟨_, _, (cm hk ht [text] (by simp) (by simp)), ?_⟩
  conv => whnf
  refine ⟨M, M, rfl, rfl, ?_⟩
  conv => whnf
  refine Branch.of (fun hh => ?_) (fun hh => ?_)
  rotate_left
  · exfalso; simp only [gt_iff_lt, ge_iff_le, decide_eq_true_eq, decide_eq_false_iff_not, beq_iff_eq, beq_eq_false_iff_ne, bne_iff_ne, bne_eq_false_iff_eq, ne_eq] at hh; first | done | omega | (simp at hh; done)
  try rw [hh]
  clear hh
  conv => whnf
  repeat (refine And.intro (by first | omega | (simp only [[len8]]; omega)) ?_; conv => whnf)
  have e1 : List.take ((k : Int).toNat - 0) (List.drop 0 (by8 text)) = by8 (text.take k) := by simp [by8]
  have e2 : List.take ((by8 text).length - (k : Int).toNat) (List.drop (k : Int).toNat (by8 text)) = by8 (text.drop k) := by
    rw [len8, Int.toNat_natCast, by8, ← List.map_drop, ← List.map_take, List.take_of_length_le (by rw [List.length_drop]; omega)]
    rfl
  refine And.intro (by rw [len8]; omega) ?_
  conv => whnf
  rw [e1]
  refine ⟨by omega, ?_⟩
  conv => whnf
  refine And.intro (by rw [len8]; omega) ?_
  conv => whnf
  refine And.intro (Nat.le_refl _) ?_
  conv => whnf
  rw [e2]
  refine ⟨_, _, (cm hk ht [text.take k, text.drop k] (by simp) (by simp)), ?_⟩
  conv => whnf
  refine ⟨M, M, rfl, rfl, ?_⟩
  conv => whnf
  refine Branch.of (fun hh => ?_) (fun hh => ?_)
  rotate_left
  · exfalso; simp only [gt_iff_lt, ge_iff_le, decide_eq_true_eq, decide_eq_false_iff_not, beq_iff_eq, beq_eq_false_iff_ne, bne_iff_ne, bne_eq_false_iff_eq, ne_eq] at hh; first | done | omega | (simp at hh; done)
  try rw [hh]
  clear hh
  conv => whnf
  refine ⟨_, _, cb hk, ?_⟩
  conv => whnf
  refine ⟨_, _, cbR hk, ?_⟩
  conv => whnf
  refine ⟨K, K, rfl, rfl, ?_⟩
  conv => whnf
  refine Branch.of (fun hh => ?_) (fun hh => ?_)
  rotate_left
  · exfalso; simp only [gt_iff_lt, ge_iff_le, decide_eq_true_eq, decide_eq_false_iff_not, beq_iff_eq, beq_eq_false_iff_ne, bne_iff_ne, bne_eq_false_iff_eq, ne_eq] at hh; first | done | omega | (simp at hh; done)
  try rw [hh]
  clear hh
  conv => whnf
  refine ⟨_, _, c_samehash A B hA hB, ?_⟩
  conv => whnf
  refine ⟨A, B, rfl, rfl, ?_⟩
  conv => whnf
  refine Branch.of (fun hh => ?_) (fun hh => ?_)
  rotate_left
  · exfalso; simp only [gt_iff_lt, ge_iff_le, decide_eq_true_eq, decide_eq_false_iff_not, beq_iff_eq, beq_eq_false_iff_ne, bne_iff_ne, bne_eq_false_iff_eq, ne_eq] at hh; first | done | omega | (simp at hh; done)
  try rw [hh]
  clear hh
  conv => whnf
  refine ⟨_, _, c_samehash A A hA hA, ?_⟩
  conv => whnf
  refine Branch.of (fun hh => ?_) (fun hh => ?_)
  rotate_left
  · exfalso; simp only [gt_iff_lt, ge_iff_le, decide_eq_true_eq, decide_eq_false_iff_not, beq_iff_eq, beq_eq_false_iff_ne, bne_iff_ne, bne_eq_false_iff_eq, ne_eq] at hh; first | done | omega | (simp at hh; done)
  try rw [hh]
  clear hh
  conv => whnf
  refine ⟨_, _, ca, ?_⟩
  conv => whnf
  refine ⟨false, [], ?_⟩
  conv => whnf
theorem c_macOf (key text A B : List UInt8) (a : Nat) (h1 : a < 65536) (hA : A.length = 32) (hB : B.length = 32) :
    FnOK Tryd.prog D 8 [(AV.sl .lf (by8 (key)) .ro), (AV.sl .lf (by8 (text)) .ro), .st [.ar 32 .lf (by8 A), .ar 32 .lf (by8 B), (AV.sc (.int .u16 ((a : Int))))]] [] (fun r _ => r = (AV.sc (.bool (true)))) := by
  refine c_macOf_aux key text A B (macB key text) (blk key) a h1 hA hB c_awake3 (fun hk ht => c_macR key text (by omega) (by omega)) (fun hk ht ps hp he => ?_) (fun hk => c_block key (by omega)) (fun hk => c_blockR key (by omega))
  have := c_mac key ps (by omega) (by omega) (by rw [he]; omega) (m := .ex) (.inl rfl) (Weaks.refl _) (k := .ro) (.inr rfl)
  rw [he] at this
  exact this
end Go.WL.T4
