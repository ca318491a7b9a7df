/- A state behind a block: the program's. No condition. -/
import Derived.Test.YtcmdkiejkheahaaDoorPart18
set_option linter.unusedVariables false
set_option linter.unusedSimpArgs false
namespace Go.WL.T6d
open Go.WL Go.Proofs
set_option maxRecDepth 20000
set_option maxHeartbeats 8000000
/-- Eight words. -/
structure St where
  a : BitVec 32
  b : BitVec 32
  c : BitVec 32
  d : BitVec 32
  e : BitVec 32
  f : BitVec 32
  g : BitVec 32
  h : BitVec 32
def st0 (s : List (BitVec 32)) : St := ⟨s.getD 0 0#32, s.getD 1 0#32, s.getD 2 0#32, s.getD 3 0#32, s.getD 4 0#32, s.getD 5 0#32, s.getD 6 0#32, s.getD 7 0#32⟩
def St.l (v : St) : List (BitVec 32) := [v.a, v.b, v.c, v.d, v.e, v.f, v.g, v.h]
def K32 : List (BitVec 32) := gk0.map fun n => BitVec.ofInt 32 n
theorem k_w32 : ints .u32 gk0 = w32 K32 := by
  have : (K32.map n32) = gk0 := by decide +kernel
  unfold ints w32
  rw [← this]
  simp
theorem K32_len : K32.length = 64 := by decide +kernel
def r1 (v : St) (k w : BitVec 32) : BitVec 32 := v.h + (ror 6 v.e ^^^ ror 11 v.e ^^^ ror 25 v.e) + ((v.e &&& v.f) ^^^ (~~~v.e &&& v.g)) + k + w
def r2 (v : St) : BitVec 32 := (ror 2 v.a ^^^ ror 13 v.a ^^^ ror 22 v.a) + ((v.a &&& v.b) ^^^ (v.a &&& v.c) ^^^ (v.b &&& v.c))
def rnd (v : St) (k w : BitVec 32) : St := ⟨r1 v k w + r2 v, v.a, v.b, v.c, v.d + r1 v k w, v.e, v.f, v.g⟩
def rounds (ws : List (BitVec 32)) (v : St) : Nat → St
  | 0 => v
  | i + 1 => rnd (rounds ws v i) (K32.getD i 0#32) (ws.getD i 0#32)
def turnS (s : List (BitVec 32)) (b : List UInt8) : List (BitVec 32) := List.zipWith (· + ·) s (rounds (schd b 48) (st0 s) 64).l
theorem w32_d {l : List (BitVec 32)} {i : Nat} (h : i < l.length) : (w32 l)[((i : Nat) : Int).toNat]? = some (.sc (.int .u32 (n32 (l.getD i 0#32)))) := by
  have := w32_get (z := []) h
  rwa [List.append_nil] at this
def mix (s v : List (BitVec 32)) (j : Nat) : List (BitVec 32) := (List.zipWith (· + ·) s v).take j ++ s.drop j
theorem mix_len (s v : List (BitVec 32)) (j : Nat) (hs : s.length = 8) (hv : v.length = 8) (hj : j ≤ 8) : (mix s v j).length = 8 := by simp [mix, hs, hv]; omega
theorem mix_at (s v : List (BitVec 32)) (j : Nat) (hs : s.length = 8) (hv : v.length = 8) (hj : j < 8) : (mix s v j).getD j 0#32 = s.getD j 0#32 := by
  have h1 : ((List.zipWith (· + ·) s v).take j).length = j := by simp [hs, hv]; omega
  unfold mix
  rw [List.getD_eq_getElem?_getD, List.getD_eq_getElem?_getD, List.getElem?_append_right (by omega), h1, Nat.sub_self, List.getElem?_drop, Nat.add_zero]
theorem mix_set (s v : List (BitVec 32)) (j : Nat) (hs : s.length = 8) (hv : v.length = 8) (hj : j < 8) : (mix s v j).set j (s.getD j 0#32 + v.getD j 0#32) = mix s v (j + 1) := by
  have h1 : ((List.zipWith (· + ·) s v).take j).length = j := by simp [hs, hv]; omega
  have h2 : j < (List.zipWith (· + ·) s v).length := by simp [hs, hv]; omega
  unfold mix
  rw [List.set_append_right _ _ (by omega), h1, Nat.sub_self, List.take_succ_eq_append_getElem h2]
  have h3 : ∀ x, (s.drop j).set 0 x = x :: s.drop (j + 1) := fun x => by rw [List.drop_eq_getElem_cons (by omega : j < s.length)]; rfl
  rw [h3]
  simp [List.getD_eq_getElem?_getD, List.getElem?_eq_getElem (show j < s.length by omega), List.getElem?_eq_getElem (show j < v.length by omega)]
theorem not32s (a : BitVec 32) : IntKind.u32.wrap ((BitVec.ofInt IntKind.u32.bits (if IntKind.u32.signed = true then -1 else IntKind.u32.max) ^^^ BitVec.ofInt IntKind.u32.bits (n32 a)).toNat : Int) = n32 (~~~a) := not32 a
theorem c_turnP (s : List (BitVec 32)) (b : List UInt8) (hs : s.length = 8) (hb : b.length = 64) : FnOK Tryd.prog D 110 [.ar 8 .lf (w32 s), .ar 64 .lf (by8 b)] [] (fun r st => r = .ar 8 .lf (w32 (turnS s b)) ∧ st = []) := by
  have hw := schd_len b 48
  have c0 := c_schedule b hb
  unfold turnS
  generalize schd b 48 = ws at c0 hw
  have hK := K32_len
  refine fnok_of_W hmix tabOK Tryd.func110 rfl rfl (Nat.le_of_ble_eq_true rfl) ?_
  conv => whnf
  refine ⟨tabF110R1, by decide +kernel, ?_⟩
  conv => whnf
  repeat (refine And.intro (by first | omega) ?_; conv => whnf)
  refine ⟨_, w32_d (i := 0) (by omega), ?_⟩
  conv => whnf
  repeat (refine And.intro (by first | omega) ?_; conv => whnf)
  refine ⟨_, w32_d (i := 1) (by omega), ?_⟩
  conv => whnf
  repeat (refine And.intro (by first | omega) ?_; conv => whnf)
  refine ⟨_, w32_d (i := 2) (by omega), ?_⟩
  conv => whnf
  repeat (refine And.intro (by first | omega) ?_; conv => whnf)
  refine ⟨_, w32_d (i := 3) (by omega), ?_⟩
  conv => whnf
  repeat (refine And.intro (by first | omega) ?_; conv => whnf)
  refine ⟨_, w32_d (i := 4) (by omega), ?_⟩
  conv => whnf
  repeat (refine And.intro (by first | omega) ?_; conv => whnf)
  refine ⟨_, w32_d (i := 5) (by omega), ?_⟩
  conv => whnf
  repeat (refine And.intro (by first | omega) ?_; conv => whnf)
  refine ⟨_, w32_d (i := 6) (by omega), ?_⟩
  conv => whnf
  repeat (refine And.intro (by first | omega) ?_; conv => whnf)
  refine ⟨_, w32_d (i := 7) (by omega), ?_⟩
  conv => whnf
  refine c0.mono fun r st e => ?_
  obtain ⟨rfl, rfl⟩ := e
  conv => whnf
  refine ⟨false, [2, 4, 5, 6, 7, 8, 9, 10, 11, 12, 36, 37], fun τ => ∃ (i : Nat) (v : St), i ≤ 64 ∧ v = rounds ws (st0 s) i ∧ τ = ⟨120, [(2, .pt 0 []), (4, .pt 2 []), (5, (AV.sc (.int .u32 (n32 (v.a))))), (6, (AV.sc (.int .u32 (n32 (v.b))))), (7, (AV.sc (.int .u32 (n32 (v.c))))), (8, (AV.sc (.int .u32 (n32 (v.d))))), (9, (AV.sc (.int .u32 (n32 (v.e))))), (10, (AV.sc (.int .u32 (n32 (v.f))))), (11, (AV.sc (.int .u32 (n32 (v.g))))), (12, (AV.sc (.int .u32 (n32 (v.h))))), (36, .ar 64 .lf (w32 ws)), (37, (AV.sc (.int .i64 ((i : Int)))))], ⟨[(.ar 8 .lf (w32 s), false), (.ar 64 .lf (by8 b), false), (.ar 8 .lf (List.replicate 8 (.sc (.int .u32 0))), false)], [], 0⟩⟩, fun τ => 64 - (slotI τ 37).toNat, ?_, ?_⟩
  · conv => whnf
    exact ⟨0, st0 s, by omega, rfl, rfl⟩
  rintro τ ⟨i, v, hi, hv, rfl⟩
  conv => whnf
  refine Branch.of (fun h1 => ?_) (fun h1 => ?_) <;> rw [h1] <;> conv => whnf
  · simp only [decide_eq_true_eq] at h1
    have hi64 : i < 64 := by omega
    repeat (refine And.intro (by first | omega) ?_; conv => whnf)
    refine ⟨_, w32_d (l := ws) (by omega), ?_⟩
    conv => whnf
    refine ⟨tabF110R5, by decide +kernel, ?_⟩
    conv => whnf
    refine ⟨_, _, c_right _ 6 (by decide) (by decide), ?_⟩
    conv => whnf
    refine ⟨_, _, c_right _ 11 (by decide) (by decide), ?_⟩
    conv => whnf
    rw [xor32]
    refine ⟨_, _, c_right _ 25 (by decide) (by decide), ?_⟩
    conv => whnf
    rw [xor32, add32, and32, not32s, and32, xor32, add32]
    repeat (refine And.intro (by first | omega) ?_; conv => whnf)
    rw [k_w32]
    refine ⟨_, w32_d (l := K32) (by omega), ?_⟩
    conv => whnf
    rw [add32, add32]
    refine (c_right _ 2 (by decide) (by decide)).mono fun r st e => ?_
    obtain ⟨rfl, rfl⟩ := e
    conv => whnf
    refine (c_right _ 13 (by decide) (by decide)).mono fun r st e => ?_
    obtain ⟨rfl, rfl⟩ := e
    conv => whnf
    rw [xor32]
    refine (c_right _ 22 (by decide) (by decide)).mono fun r st e => ?_
    obtain ⟨rfl, rfl⟩ := e
    conv => whnf
    rw [xor32, and32, and32, xor32, and32, xor32, add32, add32, add32, w64 (x := (i : Int) + 1) (by omega) (by omega)]
    refine ⟨⟨i + 1, rnd v (K32.getD i 0#32) (ws.getD i 0#32), by omega, ?_, rfl⟩, ?_⟩
    · rw [hv]
      rfl
    · show 64 - ((i : Int) + 1).toNat < 64 - (i : Int).toNat
      omega
  · simp only [decide_eq_false_iff_not] at h1
    have e : i = 64 := by omega
    subst e
    rw [← hv]
    clear hv
    conv => whnf
    have hvl : v.l.length = 8 := rfl
    refine ⟨false, [2, 4, 107, 108], fun τ => ∃ (j : Nat) (z : List AV), j ≤ 8 ∧ z = w32 (mix s v.l j) ∧ τ = ⟨120, [(2, .pt 0 []), (4, .pt 2 []), (107, .ar 8 .lf (w32 v.l)), (108, (AV.sc (.int .i64 ((j : Int)))))], ⟨[(.ar 8 .lf z, false), (.ar 64 .lf (by8 b), false), (.ar 8 .lf (List.replicate 8 (.sc (.int .u32 0))), false)], [], 0⟩⟩, fun τ => 8 - (slotI τ 108).toNat, ?_, ?_⟩
    · conv => whnf
      exact ⟨0, _, by omega, by simp [mix], rfl⟩
    rintro τ ⟨j, z, hj, hz, rfl⟩
    conv => whnf
    refine Branch.of (fun h2 => ?_) (fun h2 => ?_) <;> rw [h2] <;> conv => whnf
    · simp only [decide_eq_true_eq] at h2
      have hj8 : j < 8 := by omega
      repeat (refine And.intro (by first | omega) ?_; conv => whnf)
      refine ⟨_, w32_d (l := v.l) (by omega), ?_⟩
      conv => whnf
      have hg : z[((j : Nat) : Int).toNat]? = some (.sc (.int .u32 (n32 (s.getD j 0#32)))) := by
        rw [hz, w32_d (by rw [mix_len s v.l j hs hvl hj]; omega), mix_at s v.l j hs hvl hj8]
      repeat (refine And.intro (by first | omega) ?_; conv => whnf)
      refine ⟨_, hg, ?_⟩
      conv => whnf
      rw [add32]
      repeat (refine And.intro (by first | omega) ?_; conv => whnf)
      refine ⟨_, hg, ?_⟩
      conv => whnf
      rw [w64 (x := (j : Int) + 1) (by omega) (by omega)]
      refine ⟨⟨j + 1, _, by omega, ?_, rfl⟩, ?_⟩
      · rw [hz, w32_set, Int.toNat_natCast, mix_set s v.l j hs hvl hj8]
      · show 8 - ((j : Int) + 1).toNat < 8 - (j : Int).toNat
        omega
    · simp only [decide_eq_false_iff_not] at h2
      have e : j = 8 := by omega
      subst e
      conv => whnf
      refine ⟨false, [], ?_⟩
      conv => whnf
      refine ⟨?_, rfl⟩
      rw [hz]
      congr 2
      rw [mix, List.take_of_length_le (by simp [hs, hvl]), List.drop_of_length_le (by omega), List.append_nil]
end Go.WL.T6d
