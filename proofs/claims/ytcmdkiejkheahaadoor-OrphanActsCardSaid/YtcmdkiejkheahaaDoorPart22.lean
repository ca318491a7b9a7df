/- A state behind a block: the reference's. No condition. -/
import Derived.Test.YtcmdkiejkheahaaDoorPart21
set_option linter.unusedVariables false
set_option linter.unusedSimpArgs false
namespace Go.WL.T6d
open Go.WL Go.Proofs
set_option maxRecDepth 20000
set_option maxHeartbeats 8000000
theorem step8 (x : BitVec 32) (c : UInt8) (h : x.toNat < 16777216) : ((x <<< 8) ||| c.toBitVec.setWidth 32).toNat = x.toNat * 256 + c.toNat := by
  have hc := c.toNat_lt
  rw [BitVec.toNat_or, BitVec.toNat_shiftLeft, Nat.shiftLeft_eq, Nat.mod_eq_of_lt (by omega), show (c.toBitVec.setWidth 32).toNat = c.toNat by simp, Nat.mul_comm, ← Nat.two_pow_add_eq_or_of_lt (by omega : c.toNat < 2 ^ 8), Nat.mul_comm]
theorem acc4 (a b c d : UInt8) : (acc [a, b, c, d]).toNat = a.toNat * 16777216 + b.toNat * 65536 + c.toNat * 256 + d.toNat := by
  have h1 := a.toNat_lt
  have h2 := b.toNat_lt
  have h3 := c.toNat_lt
  have h4 := d.toNat_lt
  have e0 : (0#32 : BitVec 32).toNat = 0 := rfl
  have e1 := step8 0#32 a (by omega)
  have e2 := step8 (0#32 <<< 8 ||| a.toBitVec.setWidth 32) b (by omega)
  have e3 := step8 ((0#32 <<< 8 ||| a.toBitVec.setWidth 32) <<< 8 ||| b.toBitVec.setWidth 32) c (by omega)
  have e4 := step8 (((0#32 <<< 8 ||| a.toBitVec.setWidth 32) <<< 8 ||| b.toBitVec.setWidth 32) <<< 8 ||| c.toBitVec.setWidth 32) d (by omega)
  show ((((0#32 <<< 8 ||| a.toBitVec.setWidth 32) <<< 8 ||| b.toBitVec.setWidth 32) <<< 8 ||| c.toBitVec.setWidth 32) <<< 8 ||| d.toBitVec.setWidth 32).toNat = _
  omega
theorem ch_is (e f g : BitVec 32) : (e &&& f) ||| (~~~e &&& g) = (e &&& f) ^^^ (~~~e &&& g) := by
  apply BitVec.eq_of_getLsbD_eq
  intro i hi
  simp only [BitVec.getLsbD_or, BitVec.getLsbD_and, BitVec.getLsbD_xor, BitVec.getLsbD_not, hi, decide_true, Bool.true_and]
  cases e.getLsbD i <;> cases f.getLsbD i <;> cases g.getLsbD i <;> rfl
theorem maj_is (a b c : BitVec 32) : (a &&& b) ||| (a &&& c) ||| (b &&& c) = (a &&& b) ^^^ (a &&& c) ^^^ (b &&& c) := by
  apply BitVec.eq_of_getLsbD_eq
  intro i hi
  simp only [BitVec.getLsbD_or, BitVec.getLsbD_and, BitVec.getLsbD_xor]
  cases a.getLsbD i <;> cases b.getLsbD i <;> cases c.getLsbD i <;> rfl
theorem max_sub (a : BitVec 32) : IntKind.u32.wrap (4294967295 - n32 a) = n32 (~~~a) := by
  have h := a.isLt
  rw [wu32 (by show 0 ≤ 4294967295 - ((a.toNat : Nat) : Int); omega) (by show 4294967295 - ((a.toNat : Nat) : Int) < 4294967296; omega)]
  show _ = (((~~~a).toNat : Nat) : Int)
  rw [BitVec.toNat_not]
  show 4294967295 - ((a.toNat : Nat) : Int) = ((4294967295 - a.toNat : Nat) : Int)
  omega
theorem kr_w32 : ints .u32 gk1 = w32 K32 := by
  have : (K32.map n32) = gk1 := by decide +kernel
  unfold ints w32
  rw [← this]
  simp
def wp (b : List UInt8) (i : Nat) : List (BitVec 32) := (schd b (i - 16)).take i
theorem wp_low (b : List UInt8) (i : Nat) (h : i < 16) : wp b (i + 1) = wp b i ++ [acc ((b.drop (4 * i)).take 4)] := by
  unfold wp
  rw [show i + 1 - 16 = 0 by omega, show i - 16 = 0 by omega]
  exact words_at b i h
theorem wp_high (b : List UInt8) (i : Nat) (h : 16 ≤ i) : wp b i = schd b (i - 16) := by
  unfold wp
  rw [List.take_of_length_le]
  rw [schd_len]
  omega
theorem wp_len (b : List UInt8) (i : Nat) : (wp b i).length = i := by
  unfold wp
  rw [List.length_take, schd_len]
  omega
theorem wp_next (b : List UInt8) (i : Nat) (h : 16 ≤ i) : wp b (i + 1) = wp b i ++ [more1 (wp b i)] := by
  rw [wp_high b i h, wp_high b (i + 1) (by omega), show i + 1 - 16 = (i - 16) + 1 by omega, schd]
theorem more_is (w : List (BitVec 32)) (i : Nat) (h : w.length = i) (h16 : 16 ≤ i) : (ror 17 (w.getD (i - 2) 0#32) ^^^ ror 19 (w.getD (i - 2) 0#32) ^^^ w.getD (i - 2) 0#32 >>> 10) + w.getD (i - 7) 0#32 + (ror 7 (w.getD (i - 15) 0#32) ^^^ ror 18 (w.getD (i - 15) 0#32) ^^^ w.getD (i - 15) 0#32 >>> 3) + w.getD (i - 16) 0#32 = more1 w := by
  unfold more1 sg0 sg1
  rw [h]
  ac_rfl
theorem zip_comm (s v : List (BitVec 32)) : List.zipWith (· + ·) v s = List.zipWith (· + ·) s v := by
  rw [List.zipWith_comm]
  congr 1
  funext a b
  exact BitVec.add_comm _ _
theorem sumw (a b c d : UInt8) : IntKind.u32.wrap (IntKind.u32.wrap (IntKind.u32.wrap (IntKind.u32.wrap (IntKind.u32.wrap (a.toNat : Int) * 16777216) + IntKind.u32.wrap (IntKind.u32.wrap (b.toNat : Int) * 65536)) + IntKind.u32.wrap (IntKind.u32.wrap (c.toNat : Int) * 256)) + IntKind.u32.wrap (d.toNat : Int)) = n32 (acc [a, b, c, d]) := by
  have h1 := a.toNat_lt
  have h2 := b.toNat_lt
  have h3 := c.toNat_lt
  have h4 := d.toNat_lt
  have h := acc4 a b c d
  rw [wu32 (x := (a.toNat : Int)) (by omega) (by omega), wu32 (x := (b.toNat : Int)) (by omega) (by omega), wu32 (x := (c.toNat : Int)) (by omega) (by omega), wu32 (x := (d.toNat : Int)) (by omega) (by omega),
    wu32 (x := (a.toNat : Int) * 16777216) (by omega) (by omega), wu32 (x := (b.toNat : Int) * 65536) (by omega) (by omega), wu32 (x := (c.toNat : Int) * 256) (by omega) (by omega),
    wu32 (x := (a.toNat : Int) * 16777216 + (b.toNat : Int) * 65536) (by omega) (by omega), wu32 (x := (a.toNat : Int) * 16777216 + (b.toNat : Int) * 65536 + (c.toNat : Int) * 256) (by omega) (by omega), wu32 (x := (a.toNat : Int) * 16777216 + (b.toNat : Int) * 65536 + (c.toNat : Int) * 256 + (d.toNat : Int)) (by omega) (by omega)]
  show _ = (((acc [a, b, c, d]).toNat : Nat) : Int)
  omega
theorem take4 (b : List UInt8) (i : Nat) (h : i + 3 < b.length) : (b.drop i).take 4 = [b[i], b[i + 1], b[i + 2], b[i + 3]] := by
  rw [List.drop_eq_getElem_cons (by omega), List.drop_eq_getElem_cons (by omega : i + 1 < b.length), List.drop_eq_getElem_cons (by omega : i + 1 + 1 < b.length), List.drop_eq_getElem_cons (by omega : i + 1 + 1 + 1 < b.length)]
  rfl
theorem rnd_or (v : St) (k w : BitVec 32) : (rnd v k w).l = [v.h + (ror 6 v.e ^^^ ror 11 v.e ^^^ ror 25 v.e) + ((v.e &&& v.f) ||| (~~~v.e &&& v.g)) + k + w + ((ror 2 v.a ^^^ ror 13 v.a ^^^ ror 22 v.a) + ((v.a &&& v.b) ||| (v.a &&& v.c) ||| (v.b &&& v.c))), v.a, v.b, v.c,
    v.d + (v.h + (ror 6 v.e ^^^ ror 11 v.e ^^^ ror 25 v.e) + ((v.e &&& v.f) ||| (~~~v.e &&& v.g)) + k + w), v.e, v.f, v.g] := by
  rw [ch_is, maj_is]
  rfl
theorem c_turnR (s : List (BitVec 32)) (b : List UInt8) (hs : s.length = 8) (hb : b.length = 64) : FnOK Tryd.prog D 112 [.ar 8 .lf (w32 s), .ar 64 .lf (by8 b)] [] (fun r st => r = .ar 8 .lf (w32 (turnS s b)) ∧ st = []) := by
  refine fnok_of_W hmix tabOK Tryd.func112 rfl rfl (Nat.le_of_ble_eq_true rfl) ?_
  conv => whnf
  refine ⟨false, [2, 3, 4, 5, 6], fun τ => ∃ (i : Nat) (z : List AV), i ≤ 64 ∧ z = w32 (wp b i ++ zs (64 - i)) ∧ τ = ⟨197, [(2, .pt 0 []), (3, .pt 1 []), (4, .pt 2 []), (5, .pt 3 []), (6, (AV.sc (.int .i64 ((i : Int)))))], ⟨[(.ar 8 .lf (w32 s), false), (.ar 64 .lf (by8 b), false), (.ar 8 .lf (List.replicate 8 (.sc (.int .u32 0))), false), (.ar 64 .lf z, false)], [], 0⟩⟩, fun τ => 64 - (slotI τ 6).toNat, ?_, ?_⟩
  · conv => whnf
    exact ⟨0, _, by omega, by simp [w32, zs, wp]; rfl, rfl⟩
  rintro τ ⟨i, z, hi, hz, rfl⟩
  have hl := wp_len b i
  conv => whnf
  refine Branch.of (fun h1 => ?_) (fun h1 => ?_) <;> rw [h1] <;> conv => whnf
  · simp only [decide_eq_true_eq] at h1
    have hi64 : i < 64 := by omega
    have hnew : z[((i : Nat) : Int).toNat]? = some (.sc (.int .u32 (n32 0#32))) := by
      rw [hz, show ((i : Nat) : Int) = (((wp b i).length : Nat) : Int) by rw [hl]]
      exact w32_new (by omega)
    have hset : ∀ a : BitVec 32, z.set ((i : Nat) : Int).toNat (.sc (.int .u32 (n32 a))) = w32 ((wp b i ++ [a]) ++ zs (64 - (i + 1))) := by
      intro a
      rw [hz, w32_set, Int.toNat_natCast]
      have := set_new (wp b i) (64 - i) (by omega) a
      rw [hl] at this
      rw [this, show 64 - i - 1 = 64 - (i + 1) by omega]
    refine Branch.of (fun h2 => ?_) (fun h2 => ?_) <;> rw [h2] <;> conv => whnf
    · simp only [decide_eq_true_eq] at h2
      have hi16 : i < 16 := by omega
      refine ⟨tabF112R6, by decide +kernel, ?_⟩
      conv => whnf
      rw [w64 (x := 4 * (i : Int)) (by omega) (by omega)]
      repeat (refine And.intro (by first | omega) ?_; conv => whnf)
      rw [show (4 * (i : Int)).toNat = 4 * i by omega]
      refine ⟨_, at8n (by omega), ?_⟩
      conv => whnf
      rw [w64 (x := 4 * (i : Int)) (by omega) (by omega), w64 (x := 4 * (i : Int) + 1) (by omega) (by omega)]
      repeat (refine And.intro (by first | omega) ?_; conv => whnf)
      rw [show (4 * (i : Int) + 1).toNat = 4 * i + 1 by omega]
      refine ⟨_, at8n (by omega), ?_⟩
      conv => whnf
      rw [w64 (x := 4 * (i : Int)) (by omega) (by omega), w64 (x := 4 * (i : Int) + 2) (by omega) (by omega)]
      repeat (refine And.intro (by first | omega) ?_; conv => whnf)
      rw [show (4 * (i : Int) + 2).toNat = 4 * i + 2 by omega]
      refine ⟨_, at8n (by omega), ?_⟩
      conv => whnf
      rw [w64 (x := 4 * (i : Int)) (by omega) (by omega), w64 (x := 4 * (i : Int) + 3) (by omega) (by omega)]
      repeat (refine And.intro (by first | omega) ?_; conv => whnf)
      rw [show (4 * (i : Int) + 3).toNat = 4 * i + 3 by omega]
      refine ⟨_, at8n (by omega), ?_⟩
      conv => whnf
      rw [sumw, ← take4 b (4 * i) (by omega)]
      repeat (refine And.intro (by first | omega) ?_; conv => whnf)
      refine ⟨_, hnew, ?_⟩
      conv => whnf
      rw [hset, ← wp_low b i hi16, w64 (x := (i : Int) + 1) (by omega) (by omega)]
      refine ⟨⟨i + 1, _, by omega, rfl, rfl⟩, ?_⟩
      show 64 - ((i : Int) + 1).toNat < 64 - (i : Int).toNat
      omega
    · simp only [decide_eq_false_iff_not] at h2
      have hi16 : 16 ≤ i := by omega
      have hget : ∀ k, k < i → z[((k : Nat) : Int).toNat]? = some (.sc (.int .u32 (n32 ((wp b i).getD k 0#32)))) := by
        intro k hk
        rw [hz]
        exact w32_get (by omega)
      have hget2 : ∀ (k : Nat) (a : BitVec 32), k < i → (w32 ((wp b i ++ [a]) ++ zs (64 - (i + 1))))[((k : Nat) : Int).toNat]? = some (.sc (.int .u32 (n32 ((wp b i).getD k 0#32)))) := by
        intro k a hk
        rw [List.append_assoc]
        exact w32_get (by omega)
      have hget3 : ∀ (a : BitVec 32), (w32 ((wp b i ++ [a]) ++ zs (64 - (i + 1))))[((i : Nat) : Int).toNat]? = some (.sc (.int .u32 (n32 a))) := by
        intro a
        rw [w32_get (by rw [List.length_append, hl]; simp)]
        congr 4
        rw [List.getD_eq_getElem?_getD, List.getElem?_append_right (by omega), hl, Nat.sub_self]
        rfl
      have hset2 : ∀ a c : BitVec 32, (w32 ((wp b i ++ [a]) ++ zs (64 - (i + 1)))).set ((i : Nat) : Int).toNat (.sc (.int .u32 (n32 c))) = w32 ((wp b i ++ [c]) ++ zs (64 - (i + 1))) := by
        intro a c
        rw [w32_set, Int.toNat_natCast, List.append_assoc, List.set_append_right _ _ (by omega), hl, Nat.sub_self, List.append_assoc]
        rfl
      have hnext := wp_next b i hi16
      have hmore := more_is (wp b i) i hl hi16
      generalize wp b i = W at hz hget hset hnew hget2 hget3 hset2 hnext hmore
      refine ⟨tabF112R7, by decide +kernel, ?_⟩
      conv => whnf
      rw [w64 (x := (i : Int) - 15) (by omega) (by omega), show (i : Int) - 15 = ((i - 15 : Nat) : Int) by omega]
      repeat (refine And.intro (by first | omega) ?_; conv => whnf)
      refine ⟨_, hget (i - 15) (by omega), ?_⟩
      conv => whnf
      rw [w64 (x := (i : Int) - 2) (by omega) (by omega), show (i : Int) - 2 = ((i - 2 : Nat) : Int) by omega]
      repeat (refine And.intro (by first | omega) ?_; conv => whnf)
      refine ⟨_, hget (i - 2) (by omega), ?_⟩
      conv => whnf
      refine (c_turn _ 17 (by decide)).mono fun r st e => ?_
      obtain ⟨rfl, rfl⟩ := e
      conv => whnf
      refine (c_turn _ 19 (by decide)).mono fun r st e => ?_
      obtain ⟨rfl, rfl⟩ := e
      conv => whnf
      rw [xor32]
      refine (c_shift _ 10 (by decide)).mono fun r st e => ?_
      obtain ⟨rfl, rfl⟩ := e
      conv => whnf
      rw [xor32]
      repeat (refine And.intro (by first | omega) ?_; conv => whnf)
      refine ⟨_, hnew, ?_⟩
      conv => whnf
      rw [hset]
      refine ⟨tabF112R9, by decide +kernel, ?_⟩
      conv => whnf
      repeat (refine And.intro (by first | omega) ?_; conv => whnf)
      refine ⟨_, hget3 _, ?_⟩
      conv => whnf
      rw [w64 (x := (i : Int) - 7) (by omega) (by omega), show (i : Int) - 7 = ((i - 7 : Nat) : Int) by omega]
      repeat (refine And.intro (by first | omega) ?_; conv => whnf)
      refine ⟨_, hget2 (i - 7) _ (by omega), ?_⟩
      conv => whnf
      rw [add32]
      refine ⟨_, _, c_turn _ 7 (by decide), ?_⟩
      conv => whnf
      refine ⟨_, _, c_turn _ 18 (by decide), ?_⟩
      conv => whnf
      rw [xor32]
      refine ⟨_, _, c_shift _ 3 (by decide), ?_⟩
      conv => whnf
      rw [xor32, add32, w64 (x := (i : Int) - 16) (by omega) (by omega), show (i : Int) - 16 = ((i - 16 : Nat) : Int) by omega]
      repeat (refine And.intro (by first | omega) ?_; conv => whnf)
      refine ⟨_, hget2 (i - 16) _ (by omega), ?_⟩
      conv => whnf
      rw [add32]
      repeat (refine And.intro (by first | omega) ?_; conv => whnf)
      refine ⟨_, hget3 _, ?_⟩
      conv => whnf
      rw [hset2, w64 (x := (i : Int) + 1) (by omega) (by omega), hmore, ← hnext]
      refine ⟨⟨i + 1, _, by omega, rfl, rfl⟩, ?_⟩
      show 64 - ((i : Int) + 1).toNat < 64 - (i : Int).toNat
      omega
  · simp only [decide_eq_false_iff_not] at h1
    have e : i = 64 := by omega
    subst e
    have hW : z = w32 (schd b 48) := by
      rw [hz, wp_high b 64 (by decide)]
      simp [zs]
    have hwl := schd_len b 48
    have hfin : turnS s b = List.zipWith (· + ·) s (rounds (schd b 48) (st0 s) 64).l := rfl
    have hst : w32 s = w32 (st0 s).l := by
      rcases s with _ | ⟨s0, _ | ⟨s1, _ | ⟨s2, _ | ⟨s3, _ | ⟨s4, _ | ⟨s5, _ | ⟨s6, _ | ⟨s7, _ | ⟨s8, s⟩⟩⟩⟩⟩⟩⟩⟩⟩ <;> first | rfl | (simp at hs; done)
    generalize schd b 48 = ws at hW hwl hfin
    generalize turnS s b = T at hfin
    have hK := K32_len
    refine ⟨false, [2, 4, 5, 9, 10], fun τ => ∃ (i : Nat) (v : St) (y : List AV), i ≤ 64 ∧ v = rounds ws (st0 s) i ∧ y = w32 v.l ∧ τ = ⟨197, [(2, .pt 0 []), (4, .pt 2 []), (5, .pt 3 []), (9, .pt 4 []), (10, (AV.sc (.int .i64 ((i : Int)))))], ⟨[(.ar 8 .lf (w32 s), false), (.ar 64 .lf (by8 b), false), (.ar 8 .lf (List.replicate 8 (.sc (.int .u32 0))), false), (.ar 64 .lf z, false), (.ar 8 .lf y, false)], [], 0⟩⟩, fun τ => 64 - (slotI τ 10).toNat, ?_, ?_⟩
    · conv => whnf
      exact ⟨0, st0 s, _, by omega, rfl, hst, rfl⟩
    rintro τ ⟨i, v, y, hi, hv, hy, rfl⟩
    have hv8 : v.l.length = 8 := rfl
    have hat : ∀ k, k < 8 → y[((k : Nat) : Int).toNat]? = some (.sc (.int .u32 (n32 (v.l.getD k 0#32)))) := by
      intro k hk
      rw [hy]
      exact w32_d (by rw [hv8]; exact hk)
    have a0 : y[(0 : Int).toNat]? = some (.sc (.int .u32 (n32 v.a))) := hat 0 (by decide)
    have a1 : y[(1 : Int).toNat]? = some (.sc (.int .u32 (n32 v.b))) := hat 1 (by decide)
    have a2 : y[(2 : Int).toNat]? = some (.sc (.int .u32 (n32 v.c))) := hat 2 (by decide)
    have a3 : y[(3 : Int).toNat]? = some (.sc (.int .u32 (n32 v.d))) := hat 3 (by decide)
    have a4 : y[(4 : Int).toNat]? = some (.sc (.int .u32 (n32 v.e))) := hat 4 (by decide)
    have a5 : y[(5 : Int).toNat]? = some (.sc (.int .u32 (n32 v.f))) := hat 5 (by decide)
    have a6 : y[(6 : Int).toNat]? = some (.sc (.int .u32 (n32 v.g))) := hat 6 (by decide)
    have a7 : y[(7 : Int).toNat]? = some (.sc (.int .u32 (n32 v.h))) := hat 7 (by decide)
    conv => whnf
    refine Branch.of (fun h2 => ?_) (fun h2 => ?_) <;> rw [h2] <;> conv => whnf
    · simp only [decide_eq_true_eq] at h2
      have hi64 : i < 64 := by omega
      refine ⟨tabF112R14, by decide +kernel, ?_⟩
      conv => whnf
      repeat (refine And.intro (by first | omega) ?_; conv => whnf)
      refine ⟨_, a4, ?_⟩
      conv => whnf
      repeat (refine And.intro (by first | omega) ?_; conv => whnf)
      refine ⟨_, a0, ?_⟩
      conv => whnf
      repeat (refine And.intro (by first | omega) ?_; conv => whnf)
      refine ⟨_, a5, ?_⟩
      conv => whnf
      rw [and32, max_sub]
      repeat (refine And.intro (by first | omega) ?_; conv => whnf)
      refine ⟨_, a6, ?_⟩
      conv => whnf
      rw [and32, or32]
      repeat (refine And.intro (by first | omega) ?_; conv => whnf)
      refine ⟨_, a1, ?_⟩
      conv => whnf
      rw [and32]
      repeat (refine And.intro (by first | omega) ?_; conv => whnf)
      refine ⟨_, a2, ?_⟩
      conv => whnf
      rw [and32, or32]
      repeat (refine And.intro (by first | omega) ?_; conv => whnf)
      refine ⟨_, a1, ?_⟩
      conv => whnf
      repeat (refine And.intro (by first | omega) ?_; conv => whnf)
      refine ⟨_, a2, ?_⟩
      conv => whnf
      rw [and32, or32]
      refine ⟨tabF112R17, by decide +kernel, ?_⟩
      conv => whnf
      repeat (refine And.intro (by first | omega) ?_; conv => whnf)
      refine ⟨_, a7, ?_⟩
      conv => whnf
      refine ⟨_, _, c_turn _ 6 (by decide), ?_⟩
      conv => whnf
      refine ⟨_, _, c_turn _ 11 (by decide), ?_⟩
      conv => whnf
      rw [xor32]
      refine ⟨_, _, c_turn _ 25 (by decide), ?_⟩
      conv => whnf
      rw [xor32, add32, add32]
      repeat (refine And.intro (by first | omega) ?_; conv => whnf)
      rw [kr_w32]
      refine ⟨_, w32_d (l := K32) (by omega), ?_⟩
      conv => whnf
      rw [add32]
      repeat (refine And.intro (by first | omega) ?_; conv => whnf)
      rw [hW]
      refine ⟨_, w32_d (l := ws) (by omega), ?_⟩
      conv => whnf
      rw [add32]
      refine (c_turn _ 2 (by decide)).mono fun r st e => ?_
      obtain ⟨rfl, rfl⟩ := e
      conv => whnf
      refine (c_turn _ 13 (by decide)).mono fun r st e => ?_
      obtain ⟨rfl, rfl⟩ := e
      conv => whnf
      rw [xor32]
      refine (c_turn _ 22 (by decide)).mono fun r st e => ?_
      obtain ⟨rfl, rfl⟩ := e
      conv => whnf
      rw [xor32, add32, add32]
      repeat (refine And.intro (by first | omega) ?_; conv => whnf)
      refine ⟨_, a0, ?_⟩
      conv => whnf
      repeat (refine And.intro (by first | omega) ?_; conv => whnf)
      refine ⟨_, a1, ?_⟩
      conv => whnf
      repeat (refine And.intro (by first | omega) ?_; conv => whnf)
      refine ⟨_, a2, ?_⟩
      conv => whnf
      repeat (refine And.intro (by first | omega) ?_; conv => whnf)
      refine ⟨_, a3, ?_⟩
      conv => whnf
      rw [add32]
      repeat (refine And.intro (by first | omega) ?_; conv => whnf)
      refine ⟨_, a4, ?_⟩
      conv => whnf
      repeat (refine And.intro (by first | omega) ?_; conv => whnf)
      refine ⟨_, a5, ?_⟩
      conv => whnf
      repeat (refine And.intro (by first | omega) ?_; conv => whnf)
      refine ⟨_, a6, ?_⟩
      conv => whnf
      rw [w64 (x := (i : Int) + 1) (by omega) (by omega)]
      refine ⟨⟨i + 1, rnd v (K32.getD i 0#32) (ws.getD i 0#32), _, by omega, by rw [hv]; rfl, ?_, rfl⟩, ?_⟩
      · rw [rnd_or]
        rfl
      · show 64 - ((i : Int) + 1).toNat < 64 - (i : Int).toNat
        omega
    · simp only [decide_eq_false_iff_not] at h2
      have e : i = 64 := by omega
      subst e
      rw [← hv] at hfin
      clear hv a0 a1 a2 a3 a4 a5 a6 a7 hat
      conv => whnf
      refine ⟨false, [2, 4, 9, 17], fun τ => ∃ (j : Nat) (y : List AV), j ≤ 8 ∧ y = w32 (mix v.l s j) ∧ τ = ⟨197, [(2, .pt 0 []), (4, .pt 2 []), (9, .pt 4 []), (17, (AV.sc (.int .i64 ((j : Int)))))], ⟨[(.ar 8 .lf (w32 s), false), (.ar 64 .lf (by8 b), false), (.ar 8 .lf (List.replicate 8 (.sc (.int .u32 0))), false), (.ar 64 .lf z, false), (.ar 8 .lf y, false)], [], 0⟩⟩, fun τ => 8 - (slotI τ 17).toNat, ?_, ?_⟩
      · conv => whnf
        exact ⟨0, y, by omega, by rw [hy]; simp [mix], rfl⟩
      rintro τ ⟨j, y, hj, hy, rfl⟩
      conv => whnf
      refine Branch.of (fun h3 => ?_) (fun h3 => ?_) <;> rw [h3] <;> conv => whnf
      · simp only [decide_eq_true_eq] at h3
        have hj8 : j < 8 := by omega
        have hg : y[((j : Nat) : Int).toNat]? = some (.sc (.int .u32 (n32 (v.l.getD j 0#32)))) := by
          rw [hy, w32_d (by rw [mix_len v.l s j hv8 hs hj]; omega), mix_at v.l s j hv8 hs hj8]
        refine ⟨tabF112R23, by decide +kernel, ?_⟩
        conv => whnf
        repeat (refine And.intro (by first | omega) ?_; conv => whnf)
        refine ⟨_, hg, ?_⟩
        conv => whnf
        repeat (refine And.intro (by first | omega) ?_; conv => whnf)
        refine ⟨_, w32_d (l := s) (by omega), ?_⟩
        conv => whnf
        rw [add32]
        repeat (refine And.intro (by first | omega) ?_; conv => whnf)
        refine ⟨_, hg, ?_⟩
        conv => whnf
        rw [w64 (x := (j : Int) + 1) (by omega) (by omega)]
        refine ⟨⟨j + 1, _, by omega, ?_, rfl⟩, ?_⟩
        · rw [hy, w32_set, Int.toNat_natCast, mix_set v.l s j hv8 hs hj8]
        · show 8 - ((j : Int) + 1).toNat < 8 - (j : Int).toNat
          omega
      · simp only [decide_eq_false_iff_not] at h3
        have e : j = 8 := by omega
        subst e
        conv => whnf
        refine ⟨false, [], ?_⟩
        conv => whnf
        refine ⟨?_, rfl⟩
        rw [hy, hfin, mix, List.take_of_length_le (by simp [hs, hv8]), List.drop_of_length_le (by omega), List.append_nil, zip_comm]
end Go.WL.T6d
