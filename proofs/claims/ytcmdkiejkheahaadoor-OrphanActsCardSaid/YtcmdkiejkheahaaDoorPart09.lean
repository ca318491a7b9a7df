/- A transaction's bytes. No condition. -/
import Derived.Test.YtcmdkiejkheahaaDoorPart05
import Derived.Test.YtcmdkiejkheahaaDoorPart08
set_option linter.unusedVariables false
set_option linter.unusedSimpArgs false
namespace Go.WL.T6d
open Go.WL Go.Proofs
set_option maxRecDepth 20000
set_option maxHeartbeats 8000000
def txB (t : Tx) : List UInt8 := num t.f.toNat ++ num t.n.toNat ++ num t.k.toNat ++
  (if t.k = 1 then num t.to.toNat ++ num t.am.toNat else if t.k = 2 then num t.key.length ++ t.key ++ (num t.val.length ++ t.val) else num t.key.length ++ t.key)
theorem may_facts {t : Tx} (h : mayT t = true) : (1 ≤ t.f ∧ t.f ≤ 40) ∧ (1 ≤ t.n ∧ t.n ≤ 1099511627776) ∧ (1 ≤ t.k ∧ t.k ≤ 3) ∧ t.key.length ≤ 16 ∧ t.val.length ≤ 200 ∧ (0 ≤ t.to ∧ t.to ≤ 40) ∧ (0 ≤ t.am ∧ t.am ≤ 1099511627776) := by
  have hk : okKey t.key = true → t.key.length ≤ 16 := by
    intro h
    unfold okKey at h
    simp only [Bool.and_eq_true, decide_eq_true_eq] at h
    exact h.2.2
  rw [mayT_eq] at h
  simp only [Bool.and_eq_true, decide_eq_true_eq] at h
  obtain ⟨⟨h1, h2⟩, h3⟩ := h
  split at h3
  · simp only [Bool.and_eq_true, decide_eq_true_eq, beq_iff_eq] at h3
    obtain ⟨⟨⟨a, b⟩, c⟩, d⟩ := h3
    rw [c, d]
    simp
    omega
  · split at h3
    · simp only [Bool.and_eq_true, decide_eq_true_eq, beq_iff_eq] at h3
      obtain ⟨⟨⟨a, b⟩, c⟩, d⟩ := h3
      have := hk c
      omega
    · split at h3
      · simp only [Bool.and_eq_true, decide_eq_true_eq, beq_iff_eq] at h3
        obtain ⟨⟨⟨a, b⟩, c⟩, d⟩ := h3
        have := hk c
        rw [d]
        simp
        omega
      · cases h3
theorem c_textm (b t : List UInt8) (hb : b.length < 3000000000) (ht : t.length ≤ 65536) {m1 m2 : Mark} (h1 : m1 = .ex ∨ m1 = .ro) (h2 : m2 = .ex ∨ m2 = .ro) : FnOK Tryd.prog D 69 [.sl .lf (by8 b) m1, .sl .lf (by8 t) m2] [] (fun r st => r = (AV.sl .lf (by8 (b ++ (num t.length ++ t))) (.own 0)) ∧ st = []) := by
  have h := c_text0 b t hb (by omega)
  rw [List.take_of_length_le (by omega)] at h
  exact h.weak (.cons (.sl h1 (Weaks.refl _)) (.cons (.sl h2 (Weaks.refl _)) .nil))
theorem c_txput_no (b : List UInt8) (t : Tx) (hb : b.length < 1000000000) (hk : t.key.length < 4294967296) (hm : mayT t = false) : FnOK Tryd.prog D 14 [(AV.sl .lf (by8 (b)) .ro), (AV.st [.sc (.int .i64 (t).f), .sc (.int .i64 (t).n), .sc (.int .i64 (t).k), .sc (.int .i64 (t).to), .sc (.int .i64 (t).am), .sc (.string (strB (t).key)), .sc (.string (strB (t).val))])] [] (fun r st => r = (AV.sl .lf (by8 (b)) (.own 0)) ∧ st = []) := by
  have ck := c_txcheck t hk
  rw [hm] at ck
  refine fnok_of_W hmix tabOK Tryd.func14 rfl rfl (Nat.le_of_ble_eq_true rfl) ?_
  conv => whnf
  refine (ck).mono fun r st e => ?_
  obtain ⟨rfl, rfl⟩ := e
  conv => whnf
  refine (c_clone b (by omega) (.inr rfl)).mono fun r st e => ?_
  obtain ⟨rfl, rfl⟩ := e
  conv => whnf
  refine ⟨false, [], ?_⟩
  conv => whnf
  exact ⟨rfl, rfl⟩
def pf (f n k : Nat) : Nat → List UInt8
  | 0 => []
  | 1 => num f
  | 2 => num f ++ num n
  | _ => num f ++ num n ++ num k
theorem c_txput_aux (b : List UInt8) (t : Tx) (hb : b.length < 1000000000) (hk : t.key.length < 4294967296) (f n k to am : Nat) (ef : t.f = f) (en : t.n = n) (ek : t.k = k) (eto : t.to = to) (eam : t.am = am) (hf : f ≤ 40) (hn : n ≤ 1099511627776) (hk3 : 1 ≤ k ∧ k ≤ 3) (hto : to ≤ 40) (ham : am ≤ 1099511627776) (hkl : t.key.length ≤ 16) (hvl : t.val.length ≤ 200)
    (ck : FnOK Tryd.prog D 15 [(AV.st [.sc (.int .i64 (t).f), .sc (.int .i64 (t).n), .sc (.int .i64 (t).k), .sc (.int .i64 (t).to), .sc (.int .i64 (t).am), .sc (.string (strB (t).key)), .sc (.string (strB (t).val))])] [] (fun r st => r = (AV.sc (.int .i64 (0))) ∧ st = [])) : FnOK Tryd.prog D 14 [(AV.sl .lf (by8 (b)) .ro), (AV.st [.sc (.int .i64 (t).f), .sc (.int .i64 (t).n), .sc (.int .i64 (t).k), .sc (.int .i64 (t).to), .sc (.int .i64 (t).am), .sc (.string (strB (t).key)), .sc (.string (strB (t).val))])] [] (fun r st => r = (AV.sl .lf (by8 (b ++ txB t)) (.own 0)) ∧ st = []) := by
  have l1 := num_len 6 f (by have : (128 : Nat) ^ 6 = 4398046511104 := by decide
                             omega) (by decide)
  have l2 := num_len 6 n (by have : (128 : Nat) ^ 6 = 4398046511104 := by decide
                             omega) (by decide)
  have l3 := num_len 6 k (by have : (128 : Nat) ^ 6 = 4398046511104 := by decide
                             omega) (by decide)
  have l4 := num_len 6 to (by have : (128 : Nat) ^ 6 = 4398046511104 := by decide
                              omega) (by decide)
  have l5 := num_len 6 am (by have : (128 : Nat) ^ 6 = 4398046511104 := by decide
                              omega) (by decide)
  have l6 := num_len 6 t.key.length (by have : (128 : Nat) ^ 6 = 4398046511104 := by decide
                                        omega) (by decide)
  have e0 : t = ⟨f, n, k, to, am, t.key, t.val⟩ := by
    cases t
    simp_all
  obtain ⟨tf, tn, tk, tto, tam, key, val⟩ := t
  simp only at ef en ek eto eam hkl hvl l6 ck hk
  subst ef en ek eto eam
  clear e0
  refine fnok_of_W hmix tabOK Tryd.func14 rfl rfl (Nat.le_of_ble_eq_true rfl) ?_
  conv => whnf
  refine (ck).mono fun r st e => ?_
  obtain ⟨rfl, rfl⟩ := e
  conv => whnf
  have low : ∀ m : Nat, m ≤ 1099511627776 → IntKind.u64.wrap (m : Int) = (m : Int) := fun m h => wu64 (by omega) (by omega)
  refine ⟨false, [0, 3, 18, 19, 20], fun τ => (τ = ⟨58, [(0, (AV.sl .lf (by8 (b)) .ro)), (3, .pt 0 []), (18, .sl .lf [(AV.sc (.int .i64 ((f : Int)))), (AV.sc (.int .i64 ((n : Int)))), (AV.sc (.int .i64 ((k : Int))))] .ex), (19, (AV.sc (.int .i64 (3)))), (20, (AV.sc (.int .i64 (0))))], ⟨[(.st [(AV.sc (.int .i64 ((f : Int)))), (AV.sc (.int .i64 ((n : Int)))), (AV.sc (.int .i64 ((k : Int)))), (AV.sc (.int .i64 ((to : Int)))), (AV.sc (.int .i64 ((am : Int)))), (AV.sc (.string (strB (key)))), (AV.sc (.string (strB (val))))], false)], [], 0⟩⟩) ∨ ∃ (i : Nat) (c : List UInt8), 1 ≤ i ∧ i ≤ 3 ∧ c = b ++ pf f n k i ∧ τ = ⟨58, [(0, (AV.sl .lf (by8 (c)) (.own 0))), (3, .pt 0 []), (18, .sl .lf [(AV.sc (.int .i64 ((f : Int)))), (AV.sc (.int .i64 ((n : Int)))), (AV.sc (.int .i64 ((k : Int))))] .ex), (19, (AV.sc (.int .i64 (3)))), (20, (AV.sc (.int .i64 ((i : Int)))))], ⟨[(.st [(AV.sc (.int .i64 ((f : Int)))), (AV.sc (.int .i64 ((n : Int)))), (AV.sc (.int .i64 ((k : Int)))), (AV.sc (.int .i64 ((to : Int)))), (AV.sc (.int .i64 ((am : Int)))), (AV.sc (.string (strB (key)))), (AV.sc (.string (strB (val))))], false)], [0], 1⟩⟩, fun τ => 3 - (slotI τ 20).toNat, ?_, ?_⟩
  · conv => whnf
    exact .inl rfl
  rintro τ (rfl | ⟨i, c, h0i, hi, hc, rfl⟩)
  · conv => whnf
    repeat (refine And.intro (by first | omega) ?_; conv => whnf)
    refine ⟨_, (show [(AV.sc (.int .i64 ((f : Int)))), (AV.sc (.int .i64 ((n : Int)))), (AV.sc (.int .i64 ((k : Int))))][((0 : Nat) : Int).toNat]? = some (AV.sc (.int .i64 ((f : Int)))) from rfl), ?_⟩
    conv => whnf
    rw [low f (by omega)]
    refine (c_num b f (by omega) (by omega) (.inr rfl)).mono fun r st e => ?_
    obtain ⟨rfl, rfl⟩ := e
    conv => whnf
    exact ⟨.inr ⟨1, _, by omega, by omega, rfl, rfl⟩, (by show (2 : Nat) < 3; decide)⟩
  conv => whnf
  refine Branch.of (fun h1 => ?_) (fun h1 => ?_) <;> rw [h1] <;> conv => whnf
  · simp only [decide_eq_true_eq] at h1
    have hi3 : i = 1 ∨ i = 2 := by omega
    have hcl : c.length ≤ b.length + 18 := by rw [hc]; unfold pf; split <;> simp <;> omega
    rcases hi3 with rfl | rfl
    · repeat (refine And.intro (by first | omega) ?_; conv => whnf)
      refine ⟨_, (show [(AV.sc (.int .i64 ((f : Int)))), (AV.sc (.int .i64 ((n : Int)))), (AV.sc (.int .i64 ((k : Int))))][((1 : Nat) : Int).toNat]? = some (AV.sc (.int .i64 ((n : Int)))) from rfl), ?_⟩
      conv => whnf
      rw [low n (by omega)]
      refine (c_num c n (by omega) (by omega) (.inr rfl)).mono fun r st e => ?_
      obtain ⟨rfl, rfl⟩ := e
      conv => whnf
      refine ⟨.inr ⟨2, _, by omega, by omega, ?_, rfl⟩, (by show (1 : Nat) < 2; decide)⟩
      rw [hc]; simp [pf]
    · repeat (refine And.intro (by first | omega) ?_; conv => whnf)
      refine ⟨_, (show [(AV.sc (.int .i64 ((f : Int)))), (AV.sc (.int .i64 ((n : Int)))), (AV.sc (.int .i64 ((k : Int))))][((2 : Nat) : Int).toNat]? = some (AV.sc (.int .i64 ((k : Int)))) from rfl), ?_⟩
      conv => whnf
      rw [low k (by omega)]
      refine (c_num c k (by omega) (by omega) (.inr rfl)).mono fun r st e => ?_
      obtain ⟨rfl, rfl⟩ := e
      conv => whnf
      refine ⟨.inr ⟨3, _, by omega, by omega, ?_, rfl⟩, (by show (0 : Nat) < 1; decide)⟩
      rw [hc]; simp [pf]
  simp only [decide_eq_false_iff_not] at h1
  obtain rfl : i = 3 := by omega
  have hcl : c.length ≤ b.length + 18 := by rw [hc]; simp [pf]; omega
  have key1 : ∀ x : List UInt8, b ++ txB ⟨f, n, k, to, am, key, val⟩ = c ++ x ↔ x = (if (k : Int) = 1 then num to ++ num am else if (k : Int) = 2 then num key.length ++ key ++ (num val.length ++ val) else num key.length ++ key) := by
    intro x
    rw [hc]
    simp only [txB, pf, Int.toNat_natCast, List.append_assoc, List.append_cancel_left_eq]
    exact ⟨fun h => h.symm, fun h => h.symm⟩
  have hk4 : k = 1 ∨ k = 2 ∨ k = 3 := by omega
  rcases hk4 with rfl | rfl | rfl
  · conv => whnf
    refine ⟨tabF14R10, by decide +kernel, ?_⟩
    conv => whnf
    rw [low to (by omega)]
    refine ⟨_, _, c_num c to (by omega) (by omega) (.inr rfl), ?_⟩
    conv => whnf
    rw [low am (by omega)]
    refine ⟨_, _, c_num (c ++ num to) am (by simp; omega) (by omega) (.inr rfl), ?_⟩
    conv => whnf
    refine ⟨false, [], ?_⟩
    conv => whnf
    rw [(key1 (num to ++ num am)).2 rfl, List.append_assoc]
    exact ⟨rfl, rfl⟩
  · conv => whnf
    refine ⟨tabF14R12, by decide +kernel, ?_⟩
    conv => whnf
    refine And.intro (by rw [strB_size]; omega) ?_
    conv => whnf
    rw [bytes_strB]
    refine ⟨_, _, c_textm c key (by omega) (by omega) (.inr rfl) (.inr rfl), ?_⟩
    conv => whnf
    refine And.intro (by rw [strB_size]; omega) ?_
    conv => whnf
    rw [bytes_strB]
    refine ⟨_, _, c_textm (c ++ (num key.length ++ key)) val (by simp; omega) (by omega) (.inr rfl) (.inr rfl), ?_⟩
    conv => whnf
    refine ⟨false, [], ?_⟩
    conv => whnf
    rw [(key1 (num key.length ++ key ++ (num val.length ++ val))).2 rfl]
    refine ⟨?_, rfl⟩
    simp only [List.append_assoc]
  · conv => whnf
    refine And.intro (by rw [strB_size]; omega) ?_
    conv => whnf
    rw [bytes_strB]
    refine (c_textm c key (by omega) (by omega) (.inr rfl) (.inr rfl)).mono fun r st e => ?_
    obtain ⟨rfl, rfl⟩ := e
    conv => whnf
    refine ⟨false, [], ?_⟩
    conv => whnf
    rw [(key1 (num key.length ++ key)).2 (by rw [if_neg (by decide), if_neg (by decide)])]
    exact ⟨rfl, rfl⟩
theorem c_txput (b : List UInt8) (t : Tx) (hb : b.length < 1000000000) (hk : t.key.length < 4294967296) {m : Mark} (hm : m = .ex ∨ m = .ro) : FnOK Tryd.prog D 14 [.sl .lf (by8 b) m, (AV.st [.sc (.int .i64 (t).f), .sc (.int .i64 (t).n), .sc (.int .i64 (t).k), .sc (.int .i64 (t).to), .sc (.int .i64 (t).am), .sc (.string (strB (t).key)), .sc (.string (strB (t).val))])] [] (fun r st => r = (AV.sl .lf (by8 (if mayT t = true then b ++ txB t else b)) (.own 0)) ∧ st = []) := by
  have key : FnOK Tryd.prog D 14 [(AV.sl .lf (by8 (b)) .ro), (AV.st [.sc (.int .i64 (t).f), .sc (.int .i64 (t).n), .sc (.int .i64 (t).k), .sc (.int .i64 (t).to), .sc (.int .i64 (t).am), .sc (.string (strB (t).key)), .sc (.string (strB (t).val))])] [] (fun r st => r = (AV.sl .lf (by8 (if mayT t = true then b ++ txB t else b)) (.own 0)) ∧ st = []) := by
    cases h : mayT t
    · exact c_txput_no b t hb hk h
    · obtain ⟨h1, h2, h3, h4, h5, h6, h7⟩ := may_facts h
      have ck := c_txcheck t hk
      rw [h] at ck
      exact c_txput_aux b t hb hk t.f.toNat t.n.toNat t.k.toNat t.to.toNat t.am.toNat (by omega) (by omega) (by omega) (by omega) (by omega) (by omega) (by omega) (by omega) (by omega) (by omega) h4 h5 ck
  exact key.weak (.cons (.sl hm (Weaks.refl _)) (.cons (Weak.refl _) .nil))
end Go.WL.T6d
