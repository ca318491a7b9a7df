/- The disk: a byte is spoilt; nobody's disk; awake. No condition. -/
import Derived.Test.YtdlgmddegldcjaaPart11
set_option linter.unusedVariables false
set_option linter.unusedSimpArgs false
namespace Go.WL.T5
open Go.WL Go.Proofs
set_option maxRecDepth 20000
set_option maxHeartbeats 4000000
def spoilP (k : Pk) (at_ : Int) (y : UInt8) : Pk × Int := if k.dead = true then (k, 6) else if at_ < 0 ∨ (k.b.length : Int) ≤ at_ then (k, 1) else ({k with b := k.b.set at_.toNat (k.b.getD at_.toNat 0 ^^^ y)}, 0)
theorem ofn8 (a : UInt8) : BitVec.ofInt 8 (a.toNat : Int) = a.toBitVec := by
  apply BitVec.eq_of_toNat_eq
  rw [BitVec.toNat_ofInt]
  have := a.toNat_lt
  show ((a.toNat : Int) % 256).toNat = a.toNat
  omega
theorem okl_set {b : List UInt8} {cap c2 : Nat} {L : List AV} (h : OKL b cap c2 L) (j : Nat) (v : UInt8) : OKL (b.set j v) cap c2 (L.set j (AV.sc (.int .u8 ((v.toNat : Int))))) := by
  obtain ⟨h1, h2, h3, h4⟩ := h
  refine ⟨by rw [List.length_set]; exact h1, h2, by rw [List.length_set]; exact h3, ?_⟩
  rw [List.length_set, List.take_set, h4]
  simp [by8]
theorem xor8 (a c : UInt8) : IntKind.u8.wrap ((BitVec.ofInt IntKind.u8.bits (a.toNat : Int) ^^^ BitVec.ofInt IntKind.u8.bits (c.toNat : Int)).toNat : Int) = ((a ^^^ c).toNat : Int) := by
  show IntKind.u8.wrap ((BitVec.ofInt 8 (a.toNat : Int) ^^^ BitVec.ofInt 8 (c.toNat : Int)).toNat : Int) = _
  rw [ofn8, ofn8, ← UInt8.toBitVec_xor]
  have := (a ^^^ c).toNat_lt
  show IntKind.u8.wrap (((a ^^^ c).toNat : Nat) : Int) = _
  rw [wu8 (by omega) (by omega)]
theorem c_spoil0 (k : Pk) (n : Int) (y : UInt8) (hb0 : k.b = []) : FnOK Try.prog D 26 [.pt 0 [], (AV.sc (.int .i64 (n))), (AV.sc (.int .u8 ((y.toNat : Int))))] [(AV.st [.sl .lf [] .ex, .sc (.int .i64 (k).sf), .sc (.int .i64 (k).room), .sc (.bool true), .sc (.int .i64 (k).armed), .sc (.bool (k).dead), .sl .lf (by8 (k).h) .ro])] (fun r st => r = (AV.sc (.int .i64 ((spoilP k n y).2))) ∧ st = [(AV.st [.sl .lf [] .ex, .sc (.int .i64 ((spoilP k n y).1).sf), .sc (.int .i64 ((spoilP k n y).1).room), .sc (.bool true), .sc (.int .i64 ((spoilP k n y).1).armed), .sc (.bool ((spoilP k n y).1).dead), .sl .lf (by8 ((spoilP k n y).1).h) .ro])]) := by
  obtain ⟨b, sf, room, armed, dead, h⟩ := k
  simp only at hb0
  subst hb0
  cases dead with
  | true =>
    refine fnok_of_W hmix tabOK Try.func26 rfl rfl (Nat.le_of_ble_eq_true rfl) ?_
    conv => whnf
    refine (c_off0 ⟨_, sf, room, armed, true, h⟩).mono fun r st e => ?_
    obtain ⟨rfl, rfl⟩ := e
    conv => whnf
    refine ⟨false, [], ?_⟩
    conv => whnf
    exact ⟨rfl, rfl⟩
  | false =>
    have e : spoilP ⟨[], sf, room, armed, false, h⟩ n y = (⟨[], sf, room, armed, false, h⟩, 1) := by
      unfold spoilP
      rw [if_neg (by simp), if_pos (by simp only [List.length_nil]; omega)]
    rw [e]
    refine fnok_of_W hmix tabOK Try.func26 rfl rfl (Nat.le_of_ble_eq_true rfl) ?_
    conv => whnf
    refine (c_off0 ⟨_, sf, room, armed, false, h⟩).mono fun r st e => ?_
    obtain ⟨rfl, rfl⟩ := e
    conv => whnf
    by_cases hn : n < 0
    · refine Branch.of (fun hh => ?_) (fun hh => ?_)
      rotate_left
      · exfalso; simp only [gt_iff_lt, ge_iff_le, decide_eq_true_eq, decide_eq_false_iff_not, beq_iff_eq, beq_eq_false_iff_ne, bne_iff_ne, bne_eq_false_iff_eq, ne_eq] at hh; first | done | omega | (simp at hh; done)
      try rw [hh]
      clear hh
      conv => whnf
      refine ⟨false, [], ?_⟩
      conv => whnf
      exact ⟨rfl, rfl⟩
    · refine Branch.of (fun hh => ?_) (fun hh => ?_)
      · exfalso; simp only [gt_iff_lt, ge_iff_le, decide_eq_true_eq, decide_eq_false_iff_not, beq_iff_eq, beq_eq_false_iff_ne, bne_iff_ne, bne_eq_false_iff_eq, ne_eq] at hh; first | done | omega | (simp at hh; done)
      try rw [hh]
      clear hh
      conv => whnf
      refine Branch.yes (decide_eq_true (by show n ≥ (0 : Int); omega)) ?_
      conv => whnf
      refine ⟨false, [], ?_⟩
      conv => whnf
      exact ⟨rfl, rfl⟩
theorem c_spoil1 (k : Pk) (n : Int) (y : UInt8) (cap c2 : Nat) (L : List AV) (hL : OKL k.b cap c2 L) (hk : (k.b.length : Int) < 9223372036854775808) : FnOK Try.prog D 26 [.pt 0 [], (AV.sc (.int .i64 (n))), (AV.sc (.int .u8 ((y.toNat : Int))))] [(AV.st [.bs 1 [] .lf 0 (k).b.length cap, .sc (.int .i64 (k).sf), .sc (.int .i64 (k).room), .sc (.bool true), .sc (.int .i64 (k).armed), .sc (.bool (k).dead), .sl .lf (by8 (k).h) .ro]), .ar c2 .lf L] (fun r st => r = (AV.sc (.int .i64 ((spoilP k n y).2))) ∧ ∃ L', OKL (spoilP k n y).1.b cap c2 L' ∧ st = [(AV.st [.bs 1 [] .lf 0 ((spoilP k n y).1).b.length cap, .sc (.int .i64 ((spoilP k n y).1).sf), .sc (.int .i64 ((spoilP k n y).1).room), .sc (.bool true), .sc (.int .i64 ((spoilP k n y).1).armed), .sc (.bool ((spoilP k n y).1).dead), .sl .lf (by8 ((spoilP k n y).1).h) .ro]), .ar c2 .lf L']) := by
  obtain ⟨b, sf, room, armed, dead, h⟩ := k
  have hL0 := hL
  obtain ⟨l1, l2, l3, l4⟩ := hL
  simp only at l1 l4 hL0 hk
  cases dead with
  | true =>
    refine fnok_of_W hmix tabOK Try.func26 rfl rfl (Nat.le_of_ble_eq_true rfl) ?_
    conv => whnf
    refine (c_off1 ⟨_, sf, room, armed, true, h⟩ cap c2 L).mono fun r st e => ?_
    obtain ⟨rfl, rfl⟩ := e
    conv => whnf
    refine ⟨false, [], ?_⟩
    conv => whnf
    exact ⟨rfl, L, hL0, rfl⟩
  | false =>
    rw [show spoilP ⟨b, sf, room, armed, false, h⟩ n y = if n < 0 ∨ (b.length : Int) ≤ n then (⟨b, sf, room, armed, false, h⟩, 1) else (⟨b.set n.toNat (b.getD n.toNat 0 ^^^ y), sf, room, armed, false, h⟩, 0) from rfl]
    by_cases h4 : n < 0 ∨ (b.length : Int) ≤ n
    · rw [if_pos h4]
      refine fnok_of_W hmix tabOK Try.func26 rfl rfl (Nat.le_of_ble_eq_true rfl) ?_
      conv => whnf
      refine (c_off1 ⟨_, sf, room, armed, false, h⟩ cap c2 L).mono fun r st e => ?_
      obtain ⟨rfl, rfl⟩ := e
      conv => whnf
      by_cases hn : n < 0
      · refine Branch.of (fun hh => ?_) (fun hh => ?_)
        rotate_left
        · exfalso; simp only [gt_iff_lt, ge_iff_le, decide_eq_true_eq, decide_eq_false_iff_not, beq_iff_eq, beq_eq_false_iff_ne, bne_iff_ne, bne_eq_false_iff_eq, ne_eq] at hh; first | done | omega | (simp at hh; done)
        try rw [hh]
        clear hh
        conv => whnf
        refine ⟨false, [], ?_⟩
        conv => whnf
        exact ⟨rfl, L, hL0, rfl⟩
      · refine Branch.of (fun hh => ?_) (fun hh => ?_)
        · exfalso; simp only [gt_iff_lt, ge_iff_le, decide_eq_true_eq, decide_eq_false_iff_not, beq_iff_eq, beq_eq_false_iff_ne, bne_iff_ne, bne_eq_false_iff_eq, ne_eq] at hh; first | done | omega | (simp at hh; done)
        try rw [hh]
        clear hh
        conv => whnf
        refine Branch.yes (decide_eq_true (by show n ≥ (b.length : Int); omega)) ?_
        conv => whnf
        refine ⟨false, [], ?_⟩
        conv => whnf
        exact ⟨rfl, L, hL0, rfl⟩
    · rw [if_neg h4]
      obtain ⟨j, rfl⟩ : ∃ j : Nat, n = (j : Int) := ⟨n.toNat, by omega⟩
      have hj : j < b.length := by omega
      refine fnok_of_W hmix tabOK Try.func26 rfl rfl (Nat.le_of_ble_eq_true rfl) ?_
      conv => whnf
      refine (c_off1 ⟨_, sf, room, armed, false, h⟩ cap c2 L).mono fun r st e => ?_
      obtain ⟨rfl, rfl⟩ := e
      conv => whnf
      refine Branch.no (decide_eq_false (by show ¬ (j : Int) ≥ (b.length : Int); omega)) ?_
      conv => whnf
      refine ⟨by omega, by show (j : Int) < b.length; omega, ?_⟩
      conv => whnf
      have hat := at_take l4 hj
      rw [by8_at hj] at hat
      refine ⟨_, (show L[0 + (j : Int).toNat]? = _ by rw [Nat.zero_add]; exact hat), ?_⟩
      conv => whnf
      rw [xor8]
      refine ⟨by omega, by show (j : Int) < b.length; omega, ?_⟩
      conv => whnf
      refine ⟨_, (show L[0 + (j : Int).toNat]? = _ by rw [Nat.zero_add]; exact hat), ?_⟩
      conv => whnf
      have hset := okl_set hL0 j (b[j] ^^^ y)
      have hg : b.getD (j : Int).toNat 0 = b[j] := by
        rw [List.getD_eq_getElem?_getD]
        show (b[j]?).getD 0 = b[j]
        rw [List.getElem?_eq_getElem hj]
        rfl
      refine ⟨false, [], ?_⟩
      conv => whnf
      refine ⟨rfl, L.set j (AV.sc (.int .u8 (((b[j] ^^^ y).toNat : Int)))), ?_, ?_⟩
      · rw [hg]
        exact hset
      · rw [hg, List.length_set, Nat.zero_add]
        rfl
theorem c_armN : FnOK Try.prog D 27 [.sc (.pointer none), (AV.sc (.int .i64 (1)))] [] (fun r st => r = .tup [] ∧ st = []) := by
  refine fnok_of_W hmix tabOK Try.func27 rfl rfl (Nat.le_of_ble_eq_true rfl) ?_
  conv => whnf
  refine ⟨false, [], ?_⟩
  conv => whnf
  exact ⟨rfl, rfl⟩
theorem c_crashN : FnOK Try.prog D 28 [.sc (.pointer none), (AV.sc (.int .i64 (1)))] [] (fun r st => r = .tup [] ∧ st = []) := by
  refine fnok_of_W hmix tabOK Try.func28 rfl rfl (Nat.le_of_ble_eq_true rfl) ?_
  conv => whnf
  refine ⟨false, [], ?_⟩
  conv => whnf
  exact ⟨rfl, rfl⟩
theorem c_offN : FnOK Try.prog D 77 [.sc (.pointer none)] [] (fun r st => r = (AV.sc (.int .i64 (5))) ∧ st = []) := by
  refine fnok_of_W hmix tabOK Try.func77 rfl rfl (Nat.le_of_ble_eq_true rfl) ?_
  conv => whnf
  refine ⟨false, [], ?_⟩
  conv => whnf
  exact ⟨rfl, rfl⟩
theorem c_allN : FnOK Try.prog D 22 [.sc (.pointer none)] [] (fun r st => r = .tup [(AV.sl .lf (by8 ([])) .ro), (AV.sc (.int .i64 (5)))] ∧ st = []) := by
  refine fnok_of_W hmix tabOK Try.func22 rfl rfl (Nat.le_of_ble_eq_true rfl) ?_
  conv => whnf
  refine (c_offN).mono fun r st e => ?_
  obtain ⟨rfl, rfl⟩ := e
  conv => whnf
  refine ⟨false, [999], ?_⟩
  conv => whnf
  exact ⟨rfl, rfl⟩
theorem c_appN (b : List UInt8) : FnOK Try.prog D 25 [.sc (.pointer none), (AV.sl .lf (by8 (b)) .ro)] [] (fun r st => r = (AV.sc (.int .i64 (5))) ∧ st = []) := by
  refine fnok_of_W hmix tabOK Try.func25 rfl rfl (Nat.le_of_ble_eq_true rfl) ?_
  conv => whnf
  refine (c_offN).mono fun r st e => ?_
  obtain ⟨rfl, rfl⟩ := e
  conv => whnf
  refine ⟨false, [], ?_⟩
  conv => whnf
  exact ⟨rfl, rfl⟩
theorem c_syncN : FnOK Try.prog D 29 [.sc (.pointer none)] [] (fun r st => r = (AV.sc (.int .i64 (5))) ∧ st = []) := by
  refine fnok_of_W hmix tabOK Try.func29 rfl rfl (Nat.le_of_ble_eq_true rfl) ?_
  conv => whnf
  refine (c_offN).mono fun r st e => ?_
  obtain ⟨rfl, rfl⟩ := e
  conv => whnf
  refine ⟨false, [], ?_⟩
  conv => whnf
  exact ⟨rfl, rfl⟩
theorem c_cutN : FnOK Try.prog D 30 [.sc (.pointer none), (AV.sc (.int .i64 (0)))] [] (fun r st => r = (AV.sc (.int .i64 (5))) ∧ st = []) := by
  refine fnok_of_W hmix tabOK Try.func30 rfl rfl (Nat.le_of_ble_eq_true rfl) ?_
  conv => whnf
  refine (c_offN).mono fun r st e => ?_
  obtain ⟨rfl, rfl⟩ := e
  conv => whnf
  refine ⟨false, [], ?_⟩
  conv => whnf
  exact ⟨rfl, rfl⟩
theorem c_spoilN : FnOK Try.prog D 26 [.sc (.pointer none), (AV.sc (.int .i64 (0))), (AV.sc (.int .u8 (1)))] [] (fun r st => r = (AV.sc (.int .i64 (5))) ∧ st = []) := by
  refine fnok_of_W hmix tabOK Try.func26 rfl rfl (Nat.le_of_ble_eq_true rfl) ?_
  conv => whnf
  refine (c_offN).mono fun r st e => ?_
  obtain ⟨rfl, rfl⟩ := e
  conv => whnf
  refine ⟨false, [], ?_⟩
  conv => whnf
  exact ⟨rfl, rfl⟩
theorem c_deadN : FnOK Try.prog D 21 [.sc (.pointer none)] [] (fun r st => r = (AV.sc (.bool (true))) ∧ st = []) := by
  refine fnok_of_W hmix tabOK Try.func21 rfl rfl (Nat.le_of_ble_eq_true rfl) ?_
  conv => whnf
  refine ⟨false, [], ?_⟩
  conv => whnf
  exact ⟨rfl, rfl⟩
theorem c_safeN : FnOK Try.prog D 24 [.sc (.pointer none)] [] (fun r st => r = (AV.sc (.int .i64 (0))) ∧ st = []) := by
  refine fnok_of_W hmix tabOK Try.func24 rfl rfl (Nat.le_of_ble_eq_true rfl) ?_
  conv => whnf
  refine ⟨false, [], ?_⟩
  conv => whnf
  exact ⟨rfl, rfl⟩
theorem c_armZ : FnOK Try.prog D 27 [.pt 0 [], (AV.sc (.int .i64 (1)))] [.st [.sl .lf [] .ex, (AV.sc (.int .i64 (0))), (AV.sc (.int .i64 (0))), (AV.sc (.bool (false))), (AV.sc (.int .i64 (0))), (AV.sc (.bool (false))), .sl .lf [] .ex]] (fun r st => r = .tup [] ∧ st = [.st [.sl .lf [] .ex, (AV.sc (.int .i64 (0))), (AV.sc (.int .i64 (0))), (AV.sc (.bool (false))), (AV.sc (.int .i64 (0))), (AV.sc (.bool (false))), .sl .lf [] .ex]]) := by
  refine fnok_of_W hmix tabOK Try.func27 rfl rfl (Nat.le_of_ble_eq_true rfl) ?_
  conv => whnf
  refine ⟨false, [], ?_⟩
  conv => whnf
  exact ⟨rfl, rfl⟩
theorem c_crashZ : FnOK Try.prog D 28 [.pt 0 [], (AV.sc (.int .i64 (1)))] [.st [.sl .lf [] .ex, (AV.sc (.int .i64 (0))), (AV.sc (.int .i64 (0))), (AV.sc (.bool (false))), (AV.sc (.int .i64 (0))), (AV.sc (.bool (false))), .sl .lf [] .ex]] (fun r st => r = .tup [] ∧ st = [.st [.sl .lf [] .ex, (AV.sc (.int .i64 (0))), (AV.sc (.int .i64 (0))), (AV.sc (.bool (false))), (AV.sc (.int .i64 (0))), (AV.sc (.bool (false))), .sl .lf [] .ex]]) := by
  refine fnok_of_W hmix tabOK Try.func28 rfl rfl (Nat.le_of_ble_eq_true rfl) ?_
  conv => whnf
  refine ⟨false, [], ?_⟩
  conv => whnf
  exact ⟨rfl, rfl⟩
theorem c_offZ : FnOK Try.prog D 77 [.pt 0 []] [.st [.sl .lf [] .ex, (AV.sc (.int .i64 (0))), (AV.sc (.int .i64 (0))), (AV.sc (.bool (false))), (AV.sc (.int .i64 (0))), (AV.sc (.bool (false))), .sl .lf [] .ex]] (fun r st => r = (AV.sc (.int .i64 (5))) ∧ st = [.st [.sl .lf [] .ex, (AV.sc (.int .i64 (0))), (AV.sc (.int .i64 (0))), (AV.sc (.bool (false))), (AV.sc (.int .i64 (0))), (AV.sc (.bool (false))), .sl .lf [] .ex]]) := by
  refine fnok_of_W hmix tabOK Try.func77 rfl rfl (Nat.le_of_ble_eq_true rfl) ?_
  conv => whnf
  refine ⟨false, [], ?_⟩
  conv => whnf
  exact ⟨rfl, rfl⟩
theorem c_allZ : FnOK Try.prog D 22 [.pt 0 []] [.st [.sl .lf [] .ex, (AV.sc (.int .i64 (0))), (AV.sc (.int .i64 (0))), (AV.sc (.bool (false))), (AV.sc (.int .i64 (0))), (AV.sc (.bool (false))), .sl .lf [] .ex]] (fun r st => r = .tup [(AV.sl .lf (by8 ([])) .ro), (AV.sc (.int .i64 (5)))] ∧ st = [.st [.sl .lf [] .ex, (AV.sc (.int .i64 (0))), (AV.sc (.int .i64 (0))), (AV.sc (.bool (false))), (AV.sc (.int .i64 (0))), (AV.sc (.bool (false))), .sl .lf [] .ex]]) := by
  refine fnok_of_W hmix tabOK Try.func22 rfl rfl (Nat.le_of_ble_eq_true rfl) ?_
  conv => whnf
  refine (c_offZ).mono fun r st e => ?_
  obtain ⟨rfl, rfl⟩ := e
  conv => whnf
  refine ⟨false, [999], ?_⟩
  conv => whnf
  exact ⟨rfl, rfl⟩
theorem c_appZ (b : List UInt8) : FnOK Try.prog D 25 [.pt 0 [], (AV.sl .lf (by8 (b)) .ro)] [.st [.sl .lf [] .ex, (AV.sc (.int .i64 (0))), (AV.sc (.int .i64 (0))), (AV.sc (.bool (false))), (AV.sc (.int .i64 (0))), (AV.sc (.bool (false))), .sl .lf [] .ex]] (fun r st => r = (AV.sc (.int .i64 (5))) ∧ st = [.st [.sl .lf [] .ex, (AV.sc (.int .i64 (0))), (AV.sc (.int .i64 (0))), (AV.sc (.bool (false))), (AV.sc (.int .i64 (0))), (AV.sc (.bool (false))), .sl .lf [] .ex]]) := by
  refine fnok_of_W hmix tabOK Try.func25 rfl rfl (Nat.le_of_ble_eq_true rfl) ?_
  conv => whnf
  refine (c_offZ).mono fun r st e => ?_
  obtain ⟨rfl, rfl⟩ := e
  conv => whnf
  refine ⟨false, [], ?_⟩
  conv => whnf
  exact ⟨rfl, rfl⟩
theorem c_syncZ : FnOK Try.prog D 29 [.pt 0 []] [.st [.sl .lf [] .ex, (AV.sc (.int .i64 (0))), (AV.sc (.int .i64 (0))), (AV.sc (.bool (false))), (AV.sc (.int .i64 (0))), (AV.sc (.bool (false))), .sl .lf [] .ex]] (fun r st => r = (AV.sc (.int .i64 (5))) ∧ st = [.st [.sl .lf [] .ex, (AV.sc (.int .i64 (0))), (AV.sc (.int .i64 (0))), (AV.sc (.bool (false))), (AV.sc (.int .i64 (0))), (AV.sc (.bool (false))), .sl .lf [] .ex]]) := by
  refine fnok_of_W hmix tabOK Try.func29 rfl rfl (Nat.le_of_ble_eq_true rfl) ?_
  conv => whnf
  refine (c_offZ).mono fun r st e => ?_
  obtain ⟨rfl, rfl⟩ := e
  conv => whnf
  refine ⟨false, [], ?_⟩
  conv => whnf
  exact ⟨rfl, rfl⟩
theorem c_cutZ : FnOK Try.prog D 30 [.pt 0 [], (AV.sc (.int .i64 (0)))] [.st [.sl .lf [] .ex, (AV.sc (.int .i64 (0))), (AV.sc (.int .i64 (0))), (AV.sc (.bool (false))), (AV.sc (.int .i64 (0))), (AV.sc (.bool (false))), .sl .lf [] .ex]] (fun r st => r = (AV.sc (.int .i64 (5))) ∧ st = [.st [.sl .lf [] .ex, (AV.sc (.int .i64 (0))), (AV.sc (.int .i64 (0))), (AV.sc (.bool (false))), (AV.sc (.int .i64 (0))), (AV.sc (.bool (false))), .sl .lf [] .ex]]) := by
  refine fnok_of_W hmix tabOK Try.func30 rfl rfl (Nat.le_of_ble_eq_true rfl) ?_
  conv => whnf
  refine (c_offZ).mono fun r st e => ?_
  obtain ⟨rfl, rfl⟩ := e
  conv => whnf
  refine ⟨false, [], ?_⟩
  conv => whnf
  exact ⟨rfl, rfl⟩
theorem c_spoilZ : FnOK Try.prog D 26 [.pt 0 [], (AV.sc (.int .i64 (0))), (AV.sc (.int .u8 (1)))] [.st [.sl .lf [] .ex, (AV.sc (.int .i64 (0))), (AV.sc (.int .i64 (0))), (AV.sc (.bool (false))), (AV.sc (.int .i64 (0))), (AV.sc (.bool (false))), .sl .lf [] .ex]] (fun r st => r = (AV.sc (.int .i64 (5))) ∧ st = [.st [.sl .lf [] .ex, (AV.sc (.int .i64 (0))), (AV.sc (.int .i64 (0))), (AV.sc (.bool (false))), (AV.sc (.int .i64 (0))), (AV.sc (.bool (false))), .sl .lf [] .ex]]) := by
  refine fnok_of_W hmix tabOK Try.func26 rfl rfl (Nat.le_of_ble_eq_true rfl) ?_
  conv => whnf
  refine (c_offZ).mono fun r st e => ?_
  obtain ⟨rfl, rfl⟩ := e
  conv => whnf
  refine ⟨false, [], ?_⟩
  conv => whnf
  exact ⟨rfl, rfl⟩
theorem c_deadZ : FnOK Try.prog D 21 [.pt 0 []] [.st [.sl .lf [] .ex, (AV.sc (.int .i64 (0))), (AV.sc (.int .i64 (0))), (AV.sc (.bool (false))), (AV.sc (.int .i64 (0))), (AV.sc (.bool (false))), .sl .lf [] .ex]] (fun r st => r = (AV.sc (.bool (true))) ∧ st = [.st [.sl .lf [] .ex, (AV.sc (.int .i64 (0))), (AV.sc (.int .i64 (0))), (AV.sc (.bool (false))), (AV.sc (.int .i64 (0))), (AV.sc (.bool (false))), .sl .lf [] .ex]]) := by
  refine fnok_of_W hmix tabOK Try.func21 rfl rfl (Nat.le_of_ble_eq_true rfl) ?_
  conv => whnf
  refine ⟨false, [], ?_⟩
  conv => whnf
  exact ⟨rfl, rfl⟩
theorem c_safeZ : FnOK Try.prog D 24 [.pt 0 []] [.st [.sl .lf [] .ex, (AV.sc (.int .i64 (0))), (AV.sc (.int .i64 (0))), (AV.sc (.bool (false))), (AV.sc (.int .i64 (0))), (AV.sc (.bool (false))), .sl .lf [] .ex]] (fun r st => r = (AV.sc (.int .i64 (0))) ∧ st = [.st [.sl .lf [] .ex, (AV.sc (.int .i64 (0))), (AV.sc (.int .i64 (0))), (AV.sc (.bool (false))), (AV.sc (.int .i64 (0))), (AV.sc (.bool (false))), .sl .lf [] .ex]]) := by
  refine fnok_of_W hmix tabOK Try.func24 rfl rfl (Nat.le_of_ble_eq_true rfl) ?_
  conv => whnf
  refine ⟨false, [], ?_⟩
  conv => whnf
  exact ⟨rfl, rfl⟩
end Go.WL.T5
