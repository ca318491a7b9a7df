/- Bytes: the same, copied; a number's. No condition. -/
import Derived.Test.YtmpnboonjpcmpaaDoorPart04
import Derived.Test.YtmpnboonjpcmpaaDoorPart02
import Derived.Test.YtmpnboonjpcmpaaDoorWordsD
set_option linter.unusedVariables false
set_option linter.unusedSimpArgs false
namespace Go.WL.T7
open Go.WL Go.Proofs
set_option maxRecDepth 20000
set_option maxHeartbeats 8000000
/-- Eight words. -/
structure St where
  a : BitVec 32
  b : BitVec 32
  c : BitVec 32
  d : BitVec 32
  e : BitVec 32
  f : BitVec 32
  g : BitVec 32
  h : BitVec 32
def st0 (s : List (BitVec 32)) : St := ⟨s.getD 0 0#32, s.getD 1 0#32, s.getD 2 0#32, s.getD 3 0#32, s.getD 4 0#32, s.getD 5 0#32, s.getD 6 0#32, s.getD 7 0#32⟩
def St.l (v : St) : List (BitVec 32) := [v.a, v.b, v.c, v.d, v.e, v.f, v.g, v.h]
def K32 : List (BitVec 32) := gk1.map fun n => BitVec.ofInt 32 n
theorem k_w32 : ints .u32 gk1 = w32 K32 := by
  have : (K32.map n32) = gk1 := by decide +kernel
  unfold ints w32
  rw [← this]
  simp
theorem K32_len : K32.length = 64 := by decide +kernel
def r1 (v : St) (k w : BitVec 32) : BitVec 32 := v.h + (ror 6 v.e ^^^ ror 11 v.e ^^^ ror 25 v.e) + ((v.e &&& v.f) ^^^ (~~~v.e &&& v.g)) + k + w
def r2 (v : St) : BitVec 32 := (ror 2 v.a ^^^ ror 13 v.a ^^^ ror 22 v.a) + ((v.a &&& v.b) ^^^ (v.a &&& v.c) ^^^ (v.b &&& v.c))
def rnd (v : St) (k w : BitVec 32) : St := ⟨r1 v k w + r2 v, v.a, v.b, v.c, v.d + r1 v k w, v.e, v.f, v.g⟩
def rounds (ws : List (BitVec 32)) (v : St) : Nat → St
  | 0 => v
  | i + 1 => rnd (rounds ws v i) (K32.getD i 0#32) (ws.getD i 0#32)
def turnS (s : List (BitVec 32)) (b : List UInt8) : List (BitVec 32) := List.zipWith (· + ·) s (rounds (schd b 48) (st0 s) 64).l
theorem w32_d {l : List (BitVec 32)} {i : Nat} (h : i < l.length) : (w32 l)[((i : Nat) : Int).toNat]? = some (.sc (.int .u32 (n32 (l.getD i 0#32)))) := by
  have := w32_get (z := []) h
  rwa [List.append_nil] at this
def mix (s v : List (BitVec 32)) (j : Nat) : List (BitVec 32) := (List.zipWith (· + ·) s v).take j ++ s.drop j
theorem mix_len (s v : List (BitVec 32)) (j : Nat) (hs : s.length = 8) (hv : v.length = 8) (hj : j ≤ 8) : (mix s v j).length = 8 := by simp [mix, hs, hv]; omega
theorem mix_at (s v : List (BitVec 32)) (j : Nat) (hs : s.length = 8) (hv : v.length = 8) (hj : j < 8) : (mix s v j).getD j 0#32 = s.getD j 0#32 := by
  have h1 : ((List.zipWith (· + ·) s v).take j).length = j := by simp [hs, hv]; omega
  unfold mix
  rw [List.getD_eq_getElem?_getD, List.getD_eq_getElem?_getD, List.getElem?_append_right (by omega), h1, Nat.sub_self, List.getElem?_drop, Nat.add_zero]
theorem mix_set (s v : List (BitVec 32)) (j : Nat) (hs : s.length = 8) (hv : v.length = 8) (hj : j < 8) : (mix s v j).set j (s.getD j 0#32 + v.getD j 0#32) = mix s v (j + 1) := by
  have h1 : ((List.zipWith (· + ·) s v).take j).length = j := by simp [hs, hv]; omega
  have h2 : j < (List.zipWith (· + ·) s v).length := by simp [hs, hv]; omega
  unfold mix
  rw [List.set_append_right _ _ (by omega), h1, Nat.sub_self, List.take_succ_eq_append_getElem h2]
  have h3 : ∀ x, (s.drop j).set 0 x = x :: s.drop (j + 1) := fun x => by rw [List.drop_eq_getElem_cons (by omega : j < s.length)]; rfl
  rw [h3]
  simp [List.getD_eq_getElem?_getD, List.getElem?_eq_getElem (show j < s.length by omega), List.getElem?_eq_getElem (show j < v.length by omega)]
theorem not32s (a : BitVec 32) : IntKind.u32.wrap ((BitVec.ofInt IntKind.u32.bits (if IntKind.u32.signed = true then -1 else IntKind.u32.max) ^^^ BitVec.ofInt IntKind.u32.bits (n32 a)).toNat : Int) = n32 (~~~a) := not32 a
theorem c_turnP (s : List (BitVec 32)) (b : List UInt8) (hs : s.length = 8) (hb : b.length = 64) : FnOK Tryd.prog D 152 [.ar 8 .lf (w32 s), .ar 64 .lf (by8 b)] [] (fun r st => r = .ar 8 .lf (w32 (turnS s b)) ∧ st = []) := by
  have hw := schd_len b 48
  have c0 := c_schedule b hb
  unfold turnS
  generalize schd b 48 = ws at c0 hw
  have hK := K32_len
  refine fnok_of_W hmix tabOK Tryd.func152 rfl rfl (Nat.le_of_ble_eq_true rfl) ?_
  conv => whnf
  refine ⟨tabF152R1, by decide +kernel, ?_⟩
  conv => whnf
  repeat (refine And.intro (by first | omega) ?_; conv => whnf)
  refine ⟨_, w32_d (i := 0) (by omega), ?_⟩
  conv => whnf
  repeat (refine And.intro (by first | omega) ?_; conv => whnf)
  refine ⟨_, w32_d (i := 1) (by omega), ?_⟩
  conv => whnf
  repeat (refine And.intro (by first | omega) ?_; conv => whnf)
  refine ⟨_, w32_d (i := 2) (by omega), ?_⟩
  conv => whnf
  repeat (refine And.intro (by first | omega) ?_; conv => whnf)
  refine ⟨_, w32_d (i := 3) (by omega), ?_⟩
  conv => whnf
  repeat (refine And.intro (by first | omega) ?_; conv => whnf)
  refine ⟨_, w32_d (i := 4) (by omega), ?_⟩
  conv => whnf
  repeat (refine And.intro (by first | omega) ?_; conv => whnf)
  refine ⟨_, w32_d (i := 5) (by omega), ?_⟩
  conv => whnf
  repeat (refine And.intro (by first | omega) ?_; conv => whnf)
  refine ⟨_, w32_d (i := 6) (by omega), ?_⟩
  conv => whnf
  repeat (refine And.intro (by first | omega) ?_; conv => whnf)
  refine ⟨_, w32_d (i := 7) (by omega), ?_⟩
  conv => whnf
  refine c0.mono fun r st e => ?_
  obtain ⟨rfl, rfl⟩ := e
  conv => whnf
  refine ⟨false, [2, 4, 5, 6, 7, 8, 9, 10, 11, 12, 36, 37], fun τ => ∃ (i : Nat) (v : St), i ≤ 64 ∧ v = rounds ws (st0 s) i ∧ τ = ⟨120, [(2, .pt 0 []), (4, .pt 2 []), (5, (AV.sc (.int .u32 (n32 (v.a))))), (6, (AV.sc (.int .u32 (n32 (v.b))))), (7, (AV.sc (.int .u32 (n32 (v.c))))), (8, (AV.sc (.int .u32 (n32 (v.d))))), (9, (AV.sc (.int .u32 (n32 (v.e))))), (10, (AV.sc (.int .u32 (n32 (v.f))))), (11, (AV.sc (.int .u32 (n32 (v.g))))), (12, (AV.sc (.int .u32 (n32 (v.h))))), (36, .ar 64 .lf (w32 ws)), (37, (AV.sc (.int .i64 ((i : Int)))))], ⟨[(.ar 8 .lf (w32 s), false), (.ar 64 .lf (by8 b), false), (.ar 8 .lf (List.replicate 8 (.sc (.int .u32 0))), false)], [], 0⟩⟩, fun τ => 64 - (slotI τ 37).toNat, ?_, ?_⟩
  · conv => whnf
    exact ⟨0, st0 s, by omega, rfl, rfl⟩
  rintro τ ⟨i, v, hi, hv, rfl⟩
  conv => whnf
  refine Branch.of (fun h1 => ?_) (fun h1 => ?_) <;> rw [h1] <;> conv => whnf
  · simp only [decide_eq_true_eq] at h1
    have hi64 : i < 64 := by omega
    repeat (refine And.intro (by first | omega) ?_; conv => whnf)
    refine ⟨_, w32_d (l := ws) (by omega), ?_⟩
    conv => whnf
    refine ⟨tabF152R5, by decide +kernel, ?_⟩
    conv => whnf
    refine ⟨_, _, c_right _ 6 (by decide) (by decide), ?_⟩
    conv => whnf
    refine ⟨_, _, c_right _ 11 (by decide) (by decide), ?_⟩
    conv => whnf
    rw [xor32]
    refine ⟨_, _, c_right _ 25 (by decide) (by decide), ?_⟩
    conv => whnf
    rw [xor32, add32, and32, not32s, and32, xor32, add32]
    repeat (refine And.intro (by first | omega) ?_; conv => whnf)
    rw [k_w32]
    refine ⟨_, w32_d (l := K32) (by omega), ?_⟩
    conv => whnf
    rw [add32, add32]
    refine (c_right _ 2 (by decide) (by decide)).mono fun r st e => ?_
    obtain ⟨rfl, rfl⟩ := e
    conv => whnf
    refine (c_right _ 13 (by decide) (by decide)).mono fun r st e => ?_
    obtain ⟨rfl, rfl⟩ := e
    conv => whnf
    rw [xor32]
    refine (c_right _ 22 (by decide) (by decide)).mono fun r st e => ?_
    obtain ⟨rfl, rfl⟩ := e
    conv => whnf
    rw [xor32, and32, and32, xor32, and32, xor32, add32, add32, add32, w64 (x := (i : Int) + 1) (by omega) (by omega)]
    refine ⟨⟨i + 1, rnd v (K32.getD i 0#32) (ws.getD i 0#32), by omega, ?_, rfl⟩, ?_⟩
    · rw [hv]
      rfl
    · show 64 - ((i : Int) + 1).toNat < 64 - (i : Int).toNat
      omega
  · simp only [decide_eq_false_iff_not] at h1
    have e : i = 64 := by omega
    subst e
    rw [← hv]
    clear hv
    conv => whnf
    have hvl : v.l.length = 8 := rfl
    refine ⟨false, [2, 4, 107, 108], fun τ => ∃ (j : Nat) (z : List AV), j ≤ 8 ∧ z = w32 (mix s v.l j) ∧ τ = ⟨120, [(2, .pt 0 []), (4, .pt 2 []), (107, .ar 8 .lf (w32 v.l)), (108, (AV.sc (.int .i64 ((j : Int)))))], ⟨[(.ar 8 .lf z, false), (.ar 64 .lf (by8 b), false), (.ar 8 .lf (List.replicate 8 (.sc (.int .u32 0))), false)], [], 0⟩⟩, fun τ => 8 - (slotI τ 108).toNat, ?_, ?_⟩
    · conv => whnf
      exact ⟨0, _, by omega, by simp [mix], rfl⟩
    rintro τ ⟨j, z, hj, hz, rfl⟩
    conv => whnf
    refine Branch.of (fun h2 => ?_) (fun h2 => ?_) <;> rw [h2] <;> conv => whnf
    · simp only [decide_eq_true_eq] at h2
      have hj8 : j < 8 := by omega
      repeat (refine And.intro (by first | omega) ?_; conv => whnf)
      refine ⟨_, w32_d (l := v.l) (by omega), ?_⟩
      conv => whnf
      have hg : z[((j : Nat) : Int).toNat]? = some (.sc (.int .u32 (n32 (s.getD j 0#32)))) := by
        rw [hz, w32_d (by rw [mix_len s v.l j hs hvl hj]; omega), mix_at s v.l j hs hvl hj8]
      repeat (refine And.intro (by first | omega) ?_; conv => whnf)
      refine ⟨_, hg, ?_⟩
      conv => whnf
      rw [add32]
      repeat (refine And.intro (by first | omega) ?_; conv => whnf)
      refine ⟨_, hg, ?_⟩
      conv => whnf
      rw [w64 (x := (j : Int) + 1) (by omega) (by omega)]
      refine ⟨⟨j + 1, _, by omega, ?_, rfl⟩, ?_⟩
      · rw [hz, w32_set, Int.toNat_natCast, mix_set s v.l j hs hvl hj8]
      · show 8 - ((j : Int) + 1).toNat < 8 - (j : Int).toNat
        omega
    · simp only [decide_eq_false_iff_not] at h2
      have e : j = 8 := by omega
      subst e
      conv => whnf
      refine ⟨false, [], ?_⟩
      conv => whnf
      refine ⟨?_, rfl⟩
      rw [hz]
      congr 2
      rw [mix, List.take_of_length_le (by simp [hs, hvl]), List.drop_of_length_le (by omega), List.append_nil]
end Go.WL.T7
namespace Go.WL.T7
open Go.WL Go.Proofs
set_option maxRecDepth 20000
set_option maxHeartbeats 4000000
theorem len8 (b : List UInt8) : (by8 b).length = b.length := by simp [by8]
theorem at8 {b : List UInt8} {i : Nat} (h : i < b.length) : (by8 b)[((i : Nat) : Int).toNat]? = some ((AV.sc (.int .u8 ((b[i].toNat : Int))))) := by simp [by8, h]
theorem ne8 (x y : UInt8) : (((x.toNat : Nat) : Int) != ((y.toNat : Nat) : Int)) = (x != y) := by
  by_cases h : x = y
  · subst h; simp
  · have : ((x.toNat : Nat) : Int) ≠ ((y.toNat : Nat) : Int) := fun e => h (UInt8.toNat_inj.1 (by omega))
    rw [bne_iff_ne .. |>.2 this, bne_iff_ne .. |>.2 h]
theorem c_same0 (a b : List UInt8) (ha : a.length < 9223372036854775807) : FnOK Tryd.prog D 79 [(AV.sl .lf (by8 (a)) .ro), (AV.sl .lf (by8 (b)) .ro)] [] (fun r st => r = (AV.sc (.bool (a == b))) ∧ st = []) := by
  refine fnok_of_W hmix tabOK Tryd.func79 rfl rfl (Nat.le_of_ble_eq_true rfl) ?_
  conv => whnf
  rw [len8, len8]
  refine Branch.of (fun h => ?_) (fun h => ?_) <;> rw [h] <;> conv => whnf
  · refine ⟨false, [], ?_⟩
    conv => whnf
    refine ⟨?_, rfl⟩
    have hne : a.length ≠ b.length := by
      simp only [bne_iff_ne, ne_eq] at h
      omega
    rw [show (a == b) = false from beq_eq_false_iff_ne.2 fun e => hne (by rw [e])]
  have hl : a.length = b.length := by
    simp only [bne_eq_false_iff_eq] at h
    omega
  refine ⟨false, [0, 1, 5], fun τ => ∃ i : Nat, i ≤ a.length ∧ a.take i = b.take i ∧ τ = ⟨26, [(0, (AV.sl .lf (by8 (a)) .ro)), (1, (AV.sl .lf (by8 (b)) .ro)), (5, (AV.sc (.int .i64 ((i : Int)))))], ⟨[], [], 0⟩⟩, fun τ => a.length - (slotI τ 5).toNat, ?_, ?_⟩
  · conv => whnf
    exact ⟨0, Nat.zero_le _, by simp, rfl⟩
  · rintro τ ⟨i, i1, i2, rfl⟩
    conv => whnf
    rw [len8]
    refine Branch.of (fun h2 => ?_) (fun h2 => ?_) <;> rw [h2] <;> conv => whnf
    · simp only [decide_eq_true_eq] at h2
      have ia : i < a.length := by omega
      have ib : i < b.length := by omega
      refine ⟨tabF79R6, by decide +kernel, ?_⟩
      conv => whnf
      refine ⟨by omega, _, at8 ia, ?_⟩
      conv => whnf
      refine ⟨by omega, _, at8 ib, ?_⟩
      conv => whnf
      rw [ne8]
      generalize hx : a[i] = x
      generalize hy : b[i] = y
      refine Branch.of (fun h3 => ?_) (fun h3 => ?_) <;> rw [h3] <;> conv => whnf
      · refine ⟨false, [], ?_⟩
        conv => whnf
        refine ⟨?_, rfl⟩
        have hne : a ≠ b := by
          intro e
          subst e
          rw [hx] at hy
          subst hy
          simp at h3
        rw [show (a == b) = false from beq_eq_false_iff_ne.2 hne]
      · rw [w64 (x := (i : Int) + 1) (by omega) (by omega)]
        refine ⟨⟨i + 1, by omega, ?_, rfl⟩, ?_⟩
        · rw [List.take_succ_eq_append_getElem ia, List.take_succ_eq_append_getElem ib, i2, hx, hy]
          simp only [bne_eq_false_iff_eq] at h3
          rw [h3]
        · show a.length - ((i : Int) + 1).toNat < a.length - (i : Int).toNat
          omega
    · simp only [decide_eq_false_iff_not] at h2
      refine ⟨false, [], ?_⟩
      conv => whnf
      refine ⟨?_, rfl⟩
      have e : i = a.length := by omega
      subst e
      rw [List.take_length, hl, List.take_length] at i2
      rw [i2, beq_self_eq_true]
theorem c_same (a b : List UInt8) (ha : a.length < 9223372036854775807) {m1 m2 : Mark} (h1 : m1 = .ex ∨ m1 = .ro) (h2 : m2 = .ex ∨ m2 = .ro) : FnOK Tryd.prog D 79 [.sl .lf (by8 a) m1, .sl .lf (by8 b) m2] [] (fun r st => r = (AV.sc (.bool (a == b))) ∧ st = []) :=
  (c_same0 a b ha).weak (.cons (.sl h1 (Weaks.refl _)) (.cons (.sl h2 (Weaks.refl _)) .nil))
theorem c_clone0 (b : List UInt8) (hb : b.length < 4294967296) : FnOK Tryd.prog D 159 [(AV.sl .lf (by8 (b)) .ro)] [] (fun r st => r = (AV.sl .lf (by8 (b)) (.own 0)) ∧ st = []) := by
  refine fnok_of_W hmix tabOK Tryd.func159 rfl rfl (Nat.le_of_ble_eq_true rfl) ?_
  conv => whnf
  intro nl hnl
  conv => whnf
  refine Branch.of (fun h => ?_) (fun h => ?_) <;> rw [h] <;> conv => whnf
  · have hb0 : b = [] := by
      by_cases c : by8 b = []
      · simpa [by8] using c
      · rw [hnl c] at h; exact absurd h (by simp)
    subst hb0
    refine ⟨true, [], ?_⟩
    conv => whnf
    exact ⟨rfl, rfl⟩
  · refine ⟨by rw [len8]; simp; omega, ?_⟩
    conv => whnf
    refine ⟨false, [], ?_⟩
    conv => whnf
    exact ⟨rfl, rfl⟩
end Go.WL.T7
