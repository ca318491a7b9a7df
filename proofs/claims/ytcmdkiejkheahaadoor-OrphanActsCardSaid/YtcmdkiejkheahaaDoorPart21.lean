/- The sum of parts: the program's. No condition. -/
import Derived.Test.YtcmdkiejkheahaaDoorPart20
import Derived.Test.YtcmdkiejkheahaaDoorWordsD
set_option linter.unusedVariables false
set_option linter.unusedSimpArgs false
namespace Go.WL.T6d
open Go.WL Go.Proofs
set_option maxRecDepth 20000
set_option maxHeartbeats 8000000
theorem ro_at {ps : List (List UInt8)} {i : Nat} (h : i < ps.length) : (ps.map fun b => (AV.sl .lf (by8 (b)) .ro))[((i : Nat) : Int).toNat]? = some (AV.sl .lf (by8 (ps[i])) .ro) := by simp [h]
theorem flat_snoc (ps : List (List UInt8)) (i : Nat) (h : i < ps.length) : (ps.take (i + 1)).flatten = (ps.take i).flatten ++ ps[i] := by
  rw [List.take_succ_eq_append_getElem h, List.flatten_append]
  congr 1
  exact List.append_nil _
theorem flat_le (ps : List (List UInt8)) (i : Nat) : (ps.take i).flatten.length ≤ ps.flatten.length := by
  have h : ps.flatten.length = (ps.take i).flatten.length + (ps.drop i).flatten.length := by
    conv => lhs; rw [← List.take_append_drop i ps, List.flatten_append, List.length_append]
  omega
theorem dig_snoc (s : List (BitVec 32)) (i : Nat) (h : i < s.length) : dig (s.take (i + 1)) = dig (s.take i) ++ bw (s.getD i 0#32) := by
  rw [List.take_succ_eq_append_getElem h, dig, List.flatMap_append]
  congr 1
  rw [List.getD_eq_getElem?_getD, List.getElem?_eq_getElem h]
  exact List.append_nil _
theorem four_set (P Z : List UInt8) (m : Nat) (a b c d : UInt8) (hz : Z.length = m + 4) : ((((P ++ Z).set P.length a).set (P.length + 1) b).set (P.length + 2) c).set (P.length + 3) d = P ++ ([a, b, c, d] ++ Z.drop 4) := by
  rcases Z with _ | ⟨z0, _ | ⟨z1, _ | ⟨z2, _ | ⟨z3, Z⟩⟩⟩⟩
  · simp at hz
  · simp at hz
  · simp at hz
  · simp at hz
  · rw [List.set_append_right _ _ (Nat.le_refl _), List.set_append_right _ _ (by omega), List.set_append_right _ _ (by omega), List.set_append_right _ _ (by omega)]
    simp
theorem by8_set (l : List UInt8) (i : Nat) (a : UInt8) : (by8 l).set i (AV.sc (.int .u8 ((a.toNat : Int)))) = by8 (l.set i a) := by simp [by8, List.map_set]
theorem at8n {l : List UInt8} {i : Nat} (h : i < l.length) : (by8 l)[i]? = some (AV.sc (.int .u8 ((l[i].toNat : Int)))) := by simp [by8, h]
theorem shr24 (x : BitVec 32) : IntKind.u8.wrap (Int.fdiv (n32 x) (2 ^ min (Int.toNat 24) IntKind.u32.bits)) = ((UInt8.ofNat (x.toNat / 16777216)).toNat : Int) := by
  rw [show (2 : Int) ^ min (Int.toNat 24) IntKind.u32.bits = ((16777216 : Nat) : Int) by decide, Int.fdiv_eq_ediv_of_nonneg _ (by omega)]
  exact w8m _
theorem shr16 (x : BitVec 32) : IntKind.u8.wrap (Int.fdiv (n32 x) (2 ^ min (Int.toNat 16) IntKind.u32.bits)) = ((UInt8.ofNat (x.toNat / 65536)).toNat : Int) := by
  rw [show (2 : Int) ^ min (Int.toNat 16) IntKind.u32.bits = ((65536 : Nat) : Int) by decide, Int.fdiv_eq_ediv_of_nonneg _ (by omega)]
  exact w8m _
theorem shr8 (x : BitVec 32) : IntKind.u8.wrap (Int.fdiv (n32 x) (2 ^ min (Int.toNat 8) IntKind.u32.bits)) = ((UInt8.ofNat (x.toNat / 256)).toNat : Int) := by
  rw [show (2 : Int) ^ min (Int.toNat 8) IntKind.u32.bits = ((256 : Nat) : Int) by decide, Int.fdiv_eq_ediv_of_nonneg _ (by omega)]
  exact w8m _
theorem c_sha_aux (ps : List (List UInt8)) (hl : ps.length < 1000000) (ht : ps.flatten.length < 100000000) (F R : List UInt8) (cf : FnOK Tryd.prog D 109 [(AV.sl .lf (by8 (ps.flatten)) .ro)] [] (fun r st => r = (AV.sl .lf (by8 (F)) .ro) ∧ st = [])) (hF : F.length % 64 = 0) (hFl : F.length ≤ ps.flatten.length + 72)
    (hsha : R = dig (steps F (F.length / 64))) : FnOK Tryd.prog D 72 [.sl .lf (ps.map (fun b => (AV.sl .lf (by8 (b)) .ro))) .ro] [] (fun r st => r = .ar 32 .lf (by8 R) ∧ st = []) := by
  refine fnok_of_W hmix tabOK Tryd.func72 rfl rfl (Nat.le_of_ble_eq_true rfl) ?_
  conv => whnf
  refine ⟨true, [2, 3, 11, 12, 13], fun τ => ∃ i : Nat, i ≤ ps.length ∧ τ = ⟨68, [(2, .pt 0 []), (3, (AV.sl .lf (by8 ((ps.take i).flatten)) (.own 0))), (11, .sl .lf (ps.map fun b => (AV.sl .lf (by8 (b)) .ro)) .ro), (12, (AV.sc (.int .i64 ((ps.length : Int))))), (13, (AV.sc (.int .i64 ((i : Int)))))], ⟨[(.ar 32 .lf (List.replicate 32 (AV.sc (.int .u8 (0)))), false)], [0], 1⟩⟩, fun τ => ps.length - (slotI τ 13).toNat, ?_, ?_⟩
  · conv => whnf
    rw [List.length_map]
    exact ⟨0, by omega, rfl⟩
  rintro τ ⟨i, hi, rfl⟩
  conv => whnf
  refine Branch.of (fun h1 => ?_) (fun h1 => ?_) <;> rw [h1] <;> conv => whnf
  · simp only [decide_eq_true_eq] at h1
    have ih : i < ps.length := by omega
    have f1 := flat_snoc ps i ih
    have f2 := flat_le ps (i + 1)
    have f3 := congrArg List.length f1
    rw [List.length_append] at f3
    repeat (refine And.intro (by first | omega) ?_; conv => whnf)
    refine ⟨_, ro_at ih, ?_⟩
    conv => whnf
    refine And.intro (by rw [len8, len8]; omega) ?_
    conv => whnf
    rw [by8_ap, ← f1, w64 (x := (i : Int) + 1) (by omega) (by omega)]
    refine ⟨⟨i + 1, by omega, rfl⟩, ?_⟩
    show ps.length - ((i : Int) + 1).toNat < ps.length - (i : Int).toNat
    omega
  simp only [decide_eq_false_iff_not] at h1
  have e : i = ps.length := by omega
  subst e
  rw [List.take_length]
  refine c_start.mono fun r st e => ?_
  obtain ⟨rfl, rfl⟩ := e
  conv => whnf
  refine cf.mono fun r st e => ?_
  obtain ⟨rfl, rfl⟩ := e
  conv => whnf
  refine ⟨false, [2, 6, 7], fun τ => ∃ (k : Nat) (z : List AV), 64 * k ≤ F.length ∧ z = w32 (steps F k) ∧ τ = ⟨68, [(2, .pt 0 []), (6, .pt 1 []), (7, (AV.sl .lf (by8 (F.drop (64 * k))) .ro))], ⟨[(.ar 32 .lf (List.replicate 32 (AV.sc (.int .u8 (0)))), false), (.ar 8 .lf z, false)], [], 0⟩⟩, fun τ => match lookV τ.tm 7 with | some (.sl _ xs _) => xs.length | _ => 0, ?_, ?_⟩
  · conv => whnf
    exact ⟨0, _, by omega, rfl, rfl⟩
  rintro τ ⟨k, z, hk, hz, rfl⟩
  have hdl : (by8 (F.drop (64 * k))).length = F.length - 64 * k := by rw [len8, List.length_drop]
  conv => whnf
  rw [hdl]
  refine Branch.of (fun h2 => ?_) (fun h2 => ?_) <;> rw [h2] <;> conv => whnf
  · simp only [gt_iff_lt, decide_eq_true_eq] at h2
    have hk2 : 64 * (k + 1) ≤ F.length := by omega
    have ct := c_turnP (steps F k) ((F.drop (64 * k)).take 64) (steps_len F k) (by rw [List.length_take, List.length_drop]; omega)
    rw [← hz] at ct
    have hz2 : w32 (turnS (steps F k) ((F.drop (64 * k)).take 64)) = w32 (steps F (k + 1)) := rfl
    rw [hz2] at ct
    refine ⟨tabF72R11, by decide +kernel, ?_⟩
    conv => whnf
    repeat (refine And.intro (by first | omega | (simp only [hdl]; omega)) ?_; conv => whnf)
    rw [show List.take (Int.toNat 64 - 0) (List.drop 0 (by8 (F.drop (64 * k)))) = by8 ((F.drop (64 * k)).take 64) by simp [by8]]
    refine And.intro (by rw [len8, List.length_take, List.length_drop]; omega) ?_
    conv => whnf
    rw [show (by8 ((F.drop (64 * k)).take 64)).take 64 = by8 ((F.drop (64 * k)).take 64) by rw [List.take_of_length_le]; rw [len8, List.length_take]; omega]
    refine ⟨_, _, ct, ?_⟩
    conv => whnf
    repeat (refine And.intro (by first | omega | (simp only [hdl]; omega)) ?_; conv => whnf)
    rw [hdl]
    refine ⟨⟨k + 1, _, by omega, rfl, ?_⟩, ?_⟩
    · rw [show List.take (F.length - 64 * k - Int.toNat 64) (List.drop (Int.toNat 64) (by8 (F.drop (64 * k)))) = by8 (F.drop (64 * (k + 1))) by
        rw [show Int.toNat 64 = 64 from rfl, by8, ← List.map_drop, ← List.map_take, List.drop_drop, show 64 * k + 64 = 64 * (k + 1) by omega, List.take_of_length_le (by rw [List.length_drop]; omega)]
        rfl]
    · show (List.take (F.length - 64 * k - Int.toNat 64) (List.drop (Int.toNat 64) (by8 (F.drop (64 * k))))).length < (by8 (F.drop (64 * k))).length
      rw [List.length_take, List.length_drop, hdl, show Int.toNat 64 = 64 from rfl]
      omega
  simp only [gt_iff_lt, decide_eq_false_iff_not] at h2
  have hkk : k = F.length / 64 := by omega
  have hsl := steps_len F k
  rw [← hkk] at hsha
  generalize steps F k = s at hz hsha hsl
  subst hz
  conv => whnf
  refine ⟨false, [2, 8, 35, 36], fun τ => ∃ (j : Nat) (P Z : List UInt8), j ≤ 8 ∧ P = dig (s.take j) ∧ Z.length = 32 - 4 * j ∧ τ = ⟨68, [(2, .pt 0 []), (8, .pt 2 []), (35, .ar 8 .lf (w32 s)), (36, (AV.sc (.int .i64 ((j : Int)))))], ⟨[(.ar 32 .lf (List.replicate 32 (AV.sc (.int .u8 (0)))), false), (.ar 8 .lf (w32 s), false), (.ar 32 .lf (by8 (P ++ Z)), false)], [], 0⟩⟩, fun τ => 8 - (slotI τ 36).toNat, ?_, ?_⟩
  · conv => whnf
    exact ⟨0, [], List.replicate 32 0, by omega, rfl, by simp, rfl⟩
  rintro τ ⟨j, P, Z, hj, hP, hZ, rfl⟩
  have hPl : P.length = 4 * j := by rw [hP, dig_len, List.length_take, hsl]; omega
  conv => whnf
  refine Branch.of (fun h3 => ?_) (fun h3 => ?_) <;> rw [h3] <;> conv => whnf
  · simp only [decide_eq_true_eq] at h3
    have hj8 : j < 8 := by omega
    repeat (refine And.intro (by first | omega) ?_; conv => whnf)
    refine ⟨_, w32_d (l := s) (by omega), ?_⟩
    conv => whnf
    rw [w64 (x := 4 * (j : Int)) (by omega) (by omega), w64 (x := 4 * (j : Int) + 1) (by omega) (by omega), w64 (x := 4 * (j : Int) + 2) (by omega) (by omega), w64 (x := 4 * (j : Int) + 3) (by omega) (by omega)]
    repeat (refine And.intro (by first | omega) ?_; conv => whnf)
    rw [shr24, shr16, shr8, show IntKind.u8.wrap (n32 (s.getD j 0#32)) = ((UInt8.ofNat (s.getD j 0#32).toNat).toNat : Int) from w8m _,
      show (4 * (j : Int)).toNat = P.length by omega]
    refine ⟨_, at8n (by simp; omega), ?_⟩
    conv => whnf
    repeat (refine And.intro (by first | omega) ?_; conv => whnf)
    rw [by8_set, show (4 * (j : Int) + 1).toNat = P.length + 1 by omega]
    refine ⟨_, at8n (by simp; omega), ?_⟩
    conv => whnf
    repeat (refine And.intro (by first | omega) ?_; conv => whnf)
    rw [by8_set, show (4 * (j : Int) + 2).toNat = P.length + 2 by omega]
    refine ⟨_, at8n (by simp; omega), ?_⟩
    conv => whnf
    repeat (refine And.intro (by first | omega) ?_; conv => whnf)
    rw [by8_set, show (4 * (j : Int) + 3).toNat = P.length + 3 by omega]
    refine ⟨_, at8n (by simp; omega), ?_⟩
    conv => whnf
    rw [by8_set]
    rw [four_set P Z (28 - 4 * j) _ _ _ _ (by omega), w64 (x := (j : Int) + 1) (by omega) (by omega)]
    refine ⟨⟨j + 1, P ++ bw (s.getD j 0#32), Z.drop 4, by omega, ?_, by rw [List.length_drop]; omega, ?_⟩, ?_⟩
    · rw [dig_snoc s j (by omega), hP]
    · rw [List.append_assoc]
      rfl
    · show 8 - ((j : Int) + 1).toNat < 8 - (j : Int).toNat
      omega
  · simp only [decide_eq_false_iff_not] at h3
    have e : j = 8 := by omega
    subst e
    conv => whnf
    refine ⟨false, [], ?_⟩
    conv => whnf
    refine ⟨?_, rfl⟩
    rw [List.eq_nil_of_length_eq_zero (by omega : Z.length = 0), List.append_nil, hP, List.take_of_length_le (by omega), hsha]
theorem c_sha0 (ps : List (List UInt8)) (hl : ps.length < 1000000) (ht : ps.flatten.length < 100000000) : FnOK Tryd.prog D 72 [.sl .lf (ps.map (fun b => (AV.sl .lf (by8 (b)) .ro))) .ro] [] (fun r st => r = .ar 32 .lf (by8 (shaB ps.flatten)) ∧ st = []) := by
  refine c_sha_aux ps hl ht (fill ps.flatten) (shaB ps.flatten) (c_fill ps.flatten (by omega)) (fill_len ps.flatten) ?_ rfl
  have := endB_len ps.flatten.length
  simp only [fill, List.length_append]
  omega
/-- .. by the program, in any parts. -/
theorem c_sha (ps : List (List UInt8)) (hl : ps.length < 1000000) (ht : ps.flatten.length < 100000000) {xs : List AV} {m : Mark} (hm : m = .ex ∨ m = .ro) (h : Weaks xs (ps.map (fun b => (AV.sl .lf (by8 (b)) .ro)))) : FnOK Tryd.prog D 72 [.sl .lf xs m] [] (fun r st => r = .ar 32 .lf (by8 (shaB ps.flatten)) ∧ st = []) :=
  (c_sha0 ps hl ht).weak (.cons (.sl hm h) .nil)
def prt (l : List UInt8) (j : Nat) : List UInt8 := l.take j ++ List.replicate (64 - j) 0
theorem prt_len (l : List UInt8) (j : Nat) (h : l.length = 64) (hj : j ≤ 64) : (prt l j).length = 64 := by simp [prt]; omega
theorem prt_set (l : List UInt8) (j : Nat) (h : l.length = 64) (hj : j < 64) : (prt l j).set j (l.getD j 0) = prt l (j + 1) := by
  have h1 : (l.take j).length = j := by rw [List.length_take]; omega
  unfold prt
  rw [List.set_append_right _ _ (by omega), h1, Nat.sub_self, show 64 - j = (64 - (j + 1)) + 1 by omega, List.replicate_succ, List.take_succ_eq_append_getElem (by omega : j < l.length), List.getD_eq_getElem?_getD, List.getElem?_eq_getElem (by omega), List.append_assoc, show 64 - (j + 1) = 63 - j by omega]
  rfl
theorem prt_all (l : List UInt8) (h : l.length = 64) : prt l 64 = l := by
  simp [prt, ← h]
theorem dig_at : ∀ (s : List (BitVec 32)) (i : Nat), i < 4 * s.length → (dig s).getD i 0 = UInt8.ofNat ((s.getD (i / 4) 0#32).toNat / 2 ^ (24 - 8 * (i % 4)))
  | [], i, h => by simp at h
  | x :: s, i, h => by
    have e : dig (x :: s) = bw x ++ dig s := by simp [dig]
    rw [e]
    rcases Nat.lt_or_ge i 4 with h4 | h4
    · match i, h4 with
      | 0, _ => simp [bw]
      | 1, _ => simp [bw]
      | 2, _ => simp [bw]
      | 3, _ => simp [bw]
    · have h5 := dig_at s (i - 4) (by simp only [List.length_cons] at h; omega)
      rw [List.getD_eq_getElem?_getD, List.getElem?_append_right (by simp [bw]; omega), show (bw x).length = 4 from rfl, ← List.getD_eq_getElem?_getD, h5]
      rw [show i / 4 = (i - 4) / 4 + 1 by omega, show (i - 4) % 4 = i % 4 by omega]
      rfl
end Go.WL.T6d
