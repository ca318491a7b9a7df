/- Sums with a key: the program's, whole. No condition. -/
import Derived.Test.YtmpnboonjpcmpaaDoorPart08
import Derived.Test.YtmpnboonjpcmpaaDoorWordsD
set_option linter.unusedVariables false
set_option linter.unusedSimpArgs false
namespace Go.WL.T7
open Go.WL Go.Proofs
set_option maxRecDepth 20000
set_option maxHeartbeats 8000000
theorem of8 (a : UInt8) : BitVec.ofInt 8 (a.toNat : Int) = a.toBitVec := by
  apply BitVec.eq_of_toNat_eq
  simp
theorem w8u (a : UInt8) : IntKind.u8.wrap (a.toNat : Int) = (a.toNat : Int) := wu8 (by omega) (by have := a.toNat_lt; omega)
theorem xor8 (a b : UInt8) : IntKind.u8.wrap ((BitVec.ofInt IntKind.u8.bits (a.toNat : Int) ^^^ BitVec.ofInt IntKind.u8.bits (b.toNat : Int)).toNat : Int) = ((a ^^^ b).toNat : Int) := by
  show IntKind.u8.wrap ((BitVec.ofInt 8 (a.toNat : Int) ^^^ BitVec.ofInt 8 (b.toNat : Int)).toNat : Int) = _
  rw [of8, of8]
  exact w8u _
theorem or8u (a b : UInt8) : IntKind.u8.wrap ((BitVec.ofInt IntKind.u8.bits (a.toNat : Int) ||| BitVec.ofInt IntKind.u8.bits (b.toNat : Int)).toNat : Int) = ((a ||| b).toNat : Int) := by
  show IntKind.u8.wrap ((BitVec.ofInt 8 (a.toNat : Int) ||| BitVec.ofInt 8 (b.toNat : Int)).toNat : Int) = _
  rw [of8, of8]
  exact w8u _
/-- A text, each byte of which is turned. -/
def tw (x : UInt8) (b : List UInt8) : List UInt8 := b.map (· ^^^ x)
theorem tw_len (x : UInt8) (b : List UInt8) : (tw x b).length = b.length := by simp [tw]
theorem tw_at (x : UInt8) (b : List UInt8) (i : Nat) (h : i < b.length) : (tw x (b.take i) ++ b.drop i).set i (b[i] ^^^ x) = tw x (b.take (i + 1)) ++ b.drop (i + 1) := by
  rw [List.set_append_right _ _ (by rw [tw_len, List.length_take]; omega), tw_len, List.length_take, show i - min i b.length = 0 by omega, List.drop_eq_getElem_cons h, List.set_cons_zero, List.take_succ_eq_append_getElem h]
  simp only [tw, List.map_append, List.map_cons, List.map_nil, List.append_assoc, List.singleton_append]
theorem c_turned (b : List UInt8) (hb : b.length = 64) (x : UInt8) : FnOK Tryd.prog D 196 [.ar 64 .lf (by8 b), (AV.sc (.int .u8 ((x.toNat : Int))))] [] (fun r st => r = (AV.sl .lf (by8 (tw x b)) .ro) ∧ st = []) := by
  refine fnok_of_W hmix tabOK Tryd.func196 rfl rfl (Nat.le_of_ble_eq_true rfl) ?_
  conv => whnf
  refine ⟨false, [1, 2, 6], fun τ => ∃ (i : Nat) (y : List AV), i ≤ 64 ∧ y = by8 (tw x (b.take i) ++ b.drop i) ∧ τ = ⟨17, [(1, (AV.sc (.int .u8 ((x.toNat : Int))))), (2, .pt 0 []), (6, (AV.sc (.int .i64 ((i : Int)))))], ⟨[(.ar 64 .lf y, false)], [], 0⟩⟩, fun τ => 64 - (slotI τ 6).toNat, ?_, ?_⟩
  · conv => whnf
    exact ⟨0, _, by omega, rfl, rfl⟩
  rintro τ ⟨i, y, hi, hy, rfl⟩
  conv => whnf
  refine Branch.of (fun h1 => ?_) (fun h1 => ?_) <;> rw [h1] <;> conv => whnf
  · simp only [decide_eq_true_eq] at h1
    have hi64 : i < 64 := by omega
    have hl : i < (tw x (b.take i) ++ b.drop i).length := by simp [tw]; omega
    have hg : (tw x (b.take i) ++ b.drop i)[i] = b[i] := by
      rw [List.getElem_append_right (by rw [tw_len, List.length_take]; omega), List.getElem_drop]
      congr 1
      rw [tw_len, List.length_take]
      omega
    repeat (refine And.intro (by first | omega) ?_; conv => whnf)
    rw [hy, Int.toNat_natCast]
    refine ⟨_, at8n hl, ?_⟩
    conv => whnf
    rw [hg, xor8]
    repeat (refine And.intro (by first | omega) ?_; conv => whnf)
    refine ⟨_, at8n hl, ?_⟩
    conv => whnf
    rw [by8_set, Int.toNat_natCast, tw_at x b i (by omega), w64 (x := (i : Int) + 1) (by omega) (by omega)]
    refine ⟨⟨i + 1, _, by omega, rfl, rfl⟩, ?_⟩
    show 64 - ((i : Int) + 1).toNat < 64 - (i : Int).toNat
    omega
  · simp only [decide_eq_false_iff_not] at h1
    have e : i = 64 := by omega
    subst e
    rw [List.take_of_length_le (by omega), List.drop_of_length_le (by omega), List.append_nil] at hy
    subst hy
    conv => whnf
    repeat (refine And.intro (by first | omega) ?_; conv => whnf)
    refine ⟨false, [999], ?_⟩
    conv => whnf
    refine ⟨?_, rfl⟩
    congr 1
    exact List.take_of_length_le (by rw [List.drop_zero, len8, tw_len]; omega)
/-- A key's block. -/
def hk (key : List UInt8) : List UInt8 := if 64 < key.length then shaB key else key
def blk (key : List UInt8) : List UInt8 := hk key ++ List.replicate (64 - (hk key).length) 0
def macB (key t : List UInt8) : List UInt8 := shaB (tw 92 (blk key) ++ shaB (tw 54 (blk key) ++ t))
theorem hk_len (key : List UInt8) : (hk key).length ≤ 64 := by
  unfold hk
  split
  · rw [shaB_len]; omega
  · omega
theorem blk_len (key : List UInt8) : (blk key).length = 64 := by
  have := hk_len key
  simp [blk]
  omega
theorem blk8 (K : List UInt8) : by8 K ++ List.drop K.length (List.replicate 64 (AV.sc (Value.int IntKind.u8 0))) = by8 (K ++ List.replicate (64 - K.length) 0) := by
  rw [← by8_ap, List.drop_replicate]
  simp [by8]
theorem c_block_aux (key H : List UInt8) (hk : key.length < 1000000) (hH : H.length = 32) (cs : FnOK Tryd.prog D 100 [.sl .lf [(AV.sl .lf (by8 (key)) .ro)] .ex] [] (fun r st => r = .ar 32 .lf (by8 H) ∧ st = [])) (K : List UInt8) (hK : K = if 64 < key.length then H else key) :
    FnOK Tryd.prog D 195 [(AV.sl .lf (by8 (key)) .ro)] [] (fun r st => r = .ar 64 .lf (by8 (K ++ List.replicate (64 - K.length) 0)) ∧ st = []) := by
  refine fnok_of_W hmix tabOK Tryd.func195 rfl rfl (Nat.le_of_ble_eq_true rfl) ?_
  conv => whnf
  rw [len8]
  refine Branch.of (fun h1 => ?_) (fun h1 => ?_) <;> rw [h1] <;> conv => whnf
  · simp only [gt_iff_lt, decide_eq_true_eq] at h1
    rw [if_pos (by omega)] at hK
    subst hK
    refine cs.mono fun r st e => ?_
    obtain ⟨rfl, rfl⟩ := e
    conv => whnf
    repeat (refine And.intro (by first | omega) ?_; conv => whnf)
    refine ⟨false, [], ?_⟩
    conv => whnf
    refine ⟨?_, rfl⟩
    congr 1
    have e1 : List.take (32 - 0) (List.drop 0 (by8 K)) = by8 K := List.take_of_length_le (by rw [List.drop_zero, len8]; omega)
    rw [e1, len8, List.take_zero, List.nil_append, List.take_of_length_le (by rw [len8]; omega), show 0 + min K.length (64 - 0) = K.length by omega]
    exact blk8 K
  · simp only [gt_iff_lt, decide_eq_false_iff_not] at h1
    rw [if_neg (by omega)] at hK
    subst hK
    repeat (refine And.intro (by first | omega) ?_; conv => whnf)
    refine ⟨false, [], ?_⟩
    conv => whnf
    refine ⟨?_, rfl⟩
    congr 1
    rw [len8, List.take_zero, List.nil_append, List.take_of_length_le (by rw [len8]; omega), show 0 + min K.length (64 - 0) = K.length by omega]
    exact blk8 K
theorem weak1 (key : List UInt8) : Weaks [(AV.sl .lf (by8 (key)) .ro)] ([key].map fun b => (AV.sl .lf (by8 (b)) .ro)) := Weaks.refl _
theorem c_block (key : List UInt8) (hkl : key.length < 1000000) : FnOK Tryd.prog D 195 [(AV.sl .lf (by8 (key)) .ro)] [] (fun r st => r = .ar 64 .lf (by8 (blk key)) ∧ st = []) := by
  have h := c_sha [key] (by simp) (by simp; omega) (.inl rfl) (weak1 key)
  rw [show [key].flatten = key by simp] at h
  exact c_block_aux key (shaB key) hkl (shaB_len key) h (hk key) rfl
/-- Are two alike? -/
theorem orx (a b c : UInt8) : (a ||| (b ^^^ c) = 0) ↔ (a = 0 ∧ b = c) := by
  constructor
  · intro h
    have h2 : ∀ i, i < 8 → (a.toBitVec.getLsbD i = false ∧ b.toBitVec.getLsbD i = c.toBitVec.getLsbD i) := by
      intro i hi
      have := congrArg (fun x : UInt8 => x.toBitVec.getLsbD i) h
      simp at this
      obtain ⟨h3, h4⟩ := this
      exact ⟨by simpa using h3, by simpa using h4⟩
    constructor
    · apply UInt8.toBitVec_inj.1
      apply BitVec.eq_of_getLsbD_eq
      intro i hi
      rw [(h2 i hi).1]
      simp
    · apply UInt8.toBitVec_inj.1
      apply BitVec.eq_of_getLsbD_eq
      intro i hi
      exact (h2 i hi).2
  · rintro ⟨rfl, rfl⟩
    simp
theorem c_samehash (a b : List UInt8) (ha : a.length = 32) (hb : b.length = 32) : FnOK Tryd.prog D 183 [.ar 32 .lf (by8 a), .ar 32 .lf (by8 b)] [] (fun r st => r = (AV.sc (.bool (a == b))) ∧ st = []) := by
  refine fnok_of_W hmix tabOK Tryd.func183 rfl rfl (Nat.le_of_ble_eq_true rfl) ?_
  conv => whnf
  refine ⟨false, [3, 5, 8, 9], fun τ => ∃ (i : Nat) (u : UInt8), i ≤ 32 ∧ (u = 0 ↔ a.take i = b.take i) ∧ τ = ⟨23, [(3, .pt 1 []), (5, (AV.sc (.int .u8 ((u.toNat : Int))))), (8, .ar 32 .lf (by8 a)), (9, (AV.sc (.int .i64 ((i : Int)))))], ⟨[(.ar 32 .lf (by8 a), false), (.ar 32 .lf (by8 b), false)], [], 0⟩⟩, fun τ => 32 - (slotI τ 9).toNat, ?_, ?_⟩
  · conv => whnf
    exact ⟨0, 0, by omega, by simp, rfl⟩
  rintro τ ⟨i, u, hi, hu, rfl⟩
  conv => whnf
  refine Branch.of (fun h1 => ?_) (fun h1 => ?_) <;> rw [h1] <;> conv => whnf
  · simp only [decide_eq_true_eq] at h1
    have hi32 : i < 32 := by omega
    repeat (refine And.intro (by first | omega) ?_; conv => whnf)
    rw [Int.toNat_natCast]
    refine ⟨_, at8n (l := a) (by omega), ?_⟩
    conv => whnf
    repeat (refine And.intro (by first | omega) ?_; conv => whnf)
    refine ⟨_, at8n (l := b) (by omega), ?_⟩
    conv => whnf
    rw [xor8, or8u, w64 (x := (i : Int) + 1) (by omega) (by omega)]
    refine ⟨⟨i + 1, u ||| (a[i] ^^^ b[i]), by omega, ?_, rfl⟩, ?_⟩
    · rw [orx, hu, List.take_succ_eq_append_getElem (by omega), List.take_succ_eq_append_getElem (by omega)]
      constructor
      · rintro ⟨h2, h3⟩
        rw [h2, h3]
      · intro h2
        have := List.append_inj h2 (by simp; omega)
        exact ⟨this.1, by simpa using this.2⟩
    · show 32 - ((i : Int) + 1).toNat < 32 - (i : Int).toNat
      omega
  · simp only [decide_eq_false_iff_not] at h1
    have e : i = 32 := by omega
    subst e
    rw [List.take_of_length_le (by omega), List.take_of_length_le (by omega)] at hu
    refine ⟨false, [], ?_⟩
    conv => whnf
    refine ⟨?_, rfl⟩
    congr 2
    rw [Bool.eq_iff_iff, beq_iff_eq, beq_iff_eq, ← hu]
    constructor
    · intro h
      apply UInt8.toNat_inj.1
      have : u.toNat = 0 := by omega
      simpa using this
    · rintro rfl
      rfl
end Go.WL.T7
namespace Go.WL.T7
open Go.WL Go.Proofs
set_option maxRecDepth 20000
set_option maxHeartbeats 8000000
theorem c_mac_aux (key : List UInt8) (ps : List (List UInt8)) (B I O M R : List UInt8) (hB : B.length = 64)
    (cb : FnOK Tryd.prog D 195 [(AV.sl .lf (by8 (key)) .ro)] [] (fun r st => r = .ar 64 .lf (by8 B) ∧ st = []))
    (ct : FnOK Tryd.prog D 196 [.ar 64 .lf (by8 B), (AV.sc (.int .u8 (54)))] [] (fun r st => r = (AV.sl .lf (by8 (I)) .ro) ∧ st = [])) (cu : FnOK Tryd.prog D 196 [.ar 64 .lf (by8 B), (AV.sc (.int .u8 (92)))] [] (fun r st => r = (AV.sl .lf (by8 (O)) .ro) ∧ st = [])) (hM : M.length = 32)
    (cc : FnOK Tryd.prog D 192 [.sl .lf [.sl .lf [(AV.sl .lf (by8 (I)) .ro)] .ex, .sl .lf (ps.map fun b => (AV.sl .lf (by8 (b)) .ro)) .ro] .ex] [] (fun r st => r = .sl .lf ((I :: ps).map fun b => (AV.sl .lf (by8 (b)) .ro)) .ro ∧ st = []))
    (ci : FnOK Tryd.prog D 100 [.sl .lf ((I :: ps).map fun b => (AV.sl .lf (by8 (b)) .ro)) .ro] [] (fun r st => r = .ar 32 .lf (by8 M) ∧ st = []))
    (co : FnOK Tryd.prog D 100 [.sl .lf [(AV.sl .lf (by8 (O)) .ro), (AV.sl .lf (by8 (M)) .ro)] .ex] [] (fun r st => r = .ar 32 .lf (by8 R) ∧ st = [])) :
    FnOK Tryd.prog D 191 [(AV.sl .lf (by8 (key)) .ro), .sl .lf (ps.map fun b => (AV.sl .lf (by8 (b)) .ro)) .ro] [] (fun r st => r = .ar 32 .lf (by8 R) ∧ st = []) := by
  refine fnok_of_Ws [1003006] hmix tabOK Tryd.func191 rfl rfl (Nat.le_of_ble_eq_true rfl) ?_
  conv => whnf
  refine (cb).mono fun r st e => ?_
  obtain ⟨rfl, rfl⟩ := e
  conv => whnf
  refine (ct).mono fun r st e => ?_
  obtain ⟨rfl, rfl⟩ := e
  conv => whnf
  refine (cc).mono fun r st e => ?_
  obtain ⟨rfl, rfl⟩ := e
  conv => whnf
  refine (ci).mono fun r st e => ?_
  obtain ⟨rfl, rfl⟩ := e
  conv => whnf
  refine ⟨tabF191R3, by decide +kernel, ?_⟩
  conv => whnf
  refine ⟨_, _, cu, ?_⟩
  conv => whnf
  repeat (refine And.intro (by first | omega) ?_; conv => whnf)
  have e1 : List.take (32 - 0) (List.drop 0 (by8 M)) = by8 M := List.take_of_length_le (by rw [List.drop_zero, len8]; omega)
  rw [e1]
  refine ⟨_, _, co, ?_⟩
  conv => whnf
  refine ⟨false, [], ?_⟩
  conv => whnf
  exact ⟨rfl, rfl⟩
theorem hk_flat (key : List UInt8) : [key].flatten = key := by simp
theorem c_mac0 (key : List UInt8) (ps : List (List UInt8)) (hk : key.length < 1000000) (hl : ps.length < 900000) (ht : ps.flatten.length < 90000000) :
    FnOK Tryd.prog D 191 [(AV.sl .lf (by8 (key)) .ro), .sl .lf (ps.map fun b => (AV.sl .lf (by8 (b)) .ro)) .ro] [] (fun r st => r = .ar 32 .lf (by8 (macB key ps.flatten)) ∧ st = []) := by
  have hB := blk_len key
  have e1 : (tw 54 (blk key) :: ps).flatten = tw 54 (blk key) ++ ps.flatten := rfl
  have e2 : [tw 92 (blk key), shaB (tw 54 (blk key) ++ ps.flatten)].flatten = tw 92 (blk key) ++ shaB (tw 54 (blk key) ++ ps.flatten) := by simp
  have ci := c_sha (tw 54 (blk key) :: ps) (by simp; omega) (by rw [e1, List.length_append, tw_len]; omega) (.inr rfl) (Weaks.refl _)
  rw [e1] at ci
  have co := c_sha [tw 92 (blk key), shaB (tw 54 (blk key) ++ ps.flatten)] (by simp) (by rw [e2, List.length_append, tw_len, shaB_len]; omega) (.inl rfl) (Weaks.refl _)
  rw [e2] at co
  have cc := c_concatL [[(AV.sl .lf (by8 (tw 54 (blk key))) .ro)], ps.map fun b => (AV.sl .lf (by8 (b)) .ro)] (by simp) (by simp [totL]; omega)
  have e3 : [[(AV.sl .lf (by8 (tw 54 (blk key))) .ro)], ps.map fun b => (AV.sl .lf (by8 (b)) .ro)].flatten = (tw 54 (blk key) :: ps).map fun b => (AV.sl .lf (by8 (b)) .ro) := by simp
  rw [e3] at cc
  exact c_mac_aux key ps (blk key) (tw 54 (blk key)) (tw 92 (blk key)) (shaB (tw 54 (blk key) ++ ps.flatten)) (macB key ps.flatten) hB (c_block key hk) (c_turned _ hB 54) (c_turned _ hB 92) (shaB_len _)
    (cc.weak (.cons (.sl (.inl rfl) (.cons (.sl (.inl rfl) (Weaks.refl _)) (.cons (.sl (.inr rfl) (Weaks.refl _)) .nil))) .nil)) ci co
theorem c_mac (key : List UInt8) (ps : List (List UInt8)) (hk : key.length < 1000000) (hl : ps.length < 900000) (ht : ps.flatten.length < 90000000) {xs : List AV} {m : Mark} (hm : m = .ex ∨ m = .ro) (h : Weaks xs (ps.map (fun b => (AV.sl .lf (by8 (b)) .ro)))) {k : Mark} (hk2 : k = .ex ∨ k = .ro) :
    FnOK Tryd.prog D 191 [.sl .lf (by8 key) k, .sl .lf xs m] [] (fun r st => r = .ar 32 .lf (by8 (macB key ps.flatten)) ∧ st = []) :=
  (c_mac0 key ps hk hl ht).weak (.cons (.sl hk2 (Weaks.refl _)) (.cons (.sl hm h) .nil))
end Go.WL.T7
