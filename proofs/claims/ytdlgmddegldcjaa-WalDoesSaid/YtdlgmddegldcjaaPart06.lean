/- What the check of any bytes comes to, by the program. No condition. -/
import Derived.Test.YtdlgmddegldcjaaPart05
set_option linter.unusedVariables false
set_option linter.unusedSimpArgs false
namespace Go.WL.T5
open Go.WL Go.Proofs
set_option maxRecDepth 20000
set_option maxHeartbeats 4000000
theorem by8_at {b : List UInt8} {i : Nat} (h : i < b.length) : (by8 b)[i]? = some (.sc (.int .u8 (b[i].toNat : Int))) := by
  simp [by8, h]
theorem shl24 (a : BitVec 32) : IntKind.u32.wrap (n32 a * 2 ^ min (Int.toNat 24) IntKind.u32.bits) = n32 (a <<< 24) := shl32 a 24
theorem shl1 (a : BitVec 32) : IntKind.u32.wrap (n32 a * 2 ^ min (Int.toNat 1) IntKind.u32.bits) = n32 (a <<< 1) := shl32 a 1
theorem by8_len (b : List UInt8) : (by8 b).length = b.length := by simp [by8]
theorem c_crc (ps : List (List UInt8)) (hl : ps.length < 1000000) (hp : ∀ p ∈ ps, p.length < 1000000000) : FnOK Try.prog D 110 [.sl .lf (ps.map (fun b => (AV.sl .lf (by8 (b)) .ro))) .ro] [] (fun r st => r = (AV.sc (.int .u32 (n32 (crc 0#32 ps.flatten)))) ∧ st = []) := by
  refine fnok_of_W hmix tabOK Try.func110 rfl rfl (Nat.le_of_ble_eq_true rfl) ?_
  conv => whnf
  refine ⟨false, [3, 9, 10, 11], fun τ => ∃ i : Nat, i ≤ ps.length ∧ τ = ⟨40, [(3, (AV.sc (.int .u32 (n32 (crc 0#32 (ps.take i).flatten))))), (9, .sl .lf (ps.map (fun b => (AV.sl .lf (by8 (b)) .ro))) .ro), (10, .sc (.int .i64 (ps.length : Int))), (11, .sc (.int .i64 (i : Int)))], ⟨[], [], 0⟩⟩, fun τ => ps.length - (slotI τ 11).toNat, ?_, ?_⟩
  · conv => whnf
    exact ⟨0, Nat.zero_le _, by rw [List.length_map]; rfl⟩
  · rintro τ ⟨i, hi, rfl⟩
    conv => whnf
    refine Branch.of (fun h => ?_) (fun h => ?_) <;> rw [h] <;> conv => whnf
    · simp only [decide_eq_true_eq] at h
      have hi' : i < ps.length := by omega
      refine ⟨by omega, (AV.sl .lf (by8 (ps[i])) .ro), by simp [hi'], ?_⟩
      conv => whnf
      have hpi := hp ps[i] (List.getElem_mem hi')
      generalize hq : ps[i] = q at hpi
      generalize hn : crc 0#32 (ps.take i).flatten = n0
      refine ⟨false, [3, 9, 10, 11, 15, 16, 17], fun τ => ∃ j : Nat, j ≤ q.length ∧ τ = ⟨40, [(3, (AV.sc (.int .u32 (n32 (crc n0 (q.take j)))))), (9, .sl .lf (ps.map (fun b => (AV.sl .lf (by8 (b)) .ro))) .ro), (10, .sc (.int .i64 (ps.length : Int))), (11, .sc (.int .i64 (i : Int))), (15, (AV.sl .lf (by8 (q)) .ro)), (16, .sc (.int .i64 (q.length : Int))), (17, .sc (.int .i64 (j : Int)))], ⟨[], [], 0⟩⟩, fun τ => q.length - (slotI τ 17).toNat, ?_, ?_⟩
      · conv => whnf
        exact ⟨0, Nat.zero_le _, by rw [by8_len]; rfl⟩
      · rintro τ ⟨j, hj, rfl⟩
        conv => whnf
        refine Branch.of (fun h2 => ?_) (fun h2 => ?_) <;> rw [h2] <;> conv => whnf
        · simp only [decide_eq_true_eq] at h2
          have hj' : j < q.length := by omega
          refine ⟨by omega, .sc (.int .u8 (q[j].toNat : Int)), by simp [by8, hj'], ?_⟩
          conv => whnf
          refine ⟨by omega, ?_⟩
          conv => whnf
          rw [c32 q[j], shl24 (q[j].toBitVec.setWidth 32), xor32 (crc n0 (q.take j)) (q[j].toBitVec.setWidth 32 <<< 24)]
          refine ⟨false, [3, 9, 10, 11, 15, 16, 17, 26], fun τ => ∃ k : Nat, k ≤ 8 ∧ τ = ⟨40, [(3, (AV.sc (.int .u32 (n32 (its k (crc n0 (q.take j) ^^^ (q[j].toBitVec.setWidth 32 <<< 24))))))), (9, .sl .lf (ps.map (fun b => (AV.sl .lf (by8 (b)) .ro))) .ro), (10, .sc (.int .i64 (ps.length : Int))), (11, .sc (.int .i64 (i : Int))), (15, (AV.sl .lf (by8 (q)) .ro)), (16, .sc (.int .i64 (q.length : Int))), (17, .sc (.int .i64 (j : Int))), (26, .sc (.int .i64 (k : Int)))], ⟨[], [], 0⟩⟩, fun τ => 8 - (slotI τ 26).toNat, ?_, ?_⟩
          · conv => whnf
            exact ⟨0, Nat.zero_le _, rfl⟩
          · rintro τ ⟨k, hk, rfl⟩
            generalize hx : its k (crc n0 (q.take j) ^^^ (q[j].toBitVec.setWidth 32 <<< 24)) = x
            conv => whnf
            refine Branch.of (fun h3 => ?_) (fun h3 => ?_) <;> rw [h3] <;> conv => whnf
            · simp only [decide_eq_true_eq] at h3
              refine ⟨by omega, ?_⟩
              conv => whnf
              have ht : (IntKind.u32.wrap ((BitVec.ofInt IntKind.u32.bits (n32 x) &&& BitVec.ofInt IntKind.u32.bits 2147483648).toNat : Int) != 0) = x.msb := by
                have := and32 x 0x80000000#32
                rw [show (n32 0x80000000#32) = 2147483648 from rfl] at this
                rw [this, msb32]
              have hs : its (k + 1) (crc n0 (q.take j) ^^^ (q[j].toBitVec.setWidth 32 <<< 24)) = (x <<< 1) ^^^ (if x.msb then poly else 0#32) := by
                rw [its, hx]; rfl
              refine Branch.of (fun h4 => ?_) (fun h4 => ?_)
              · have hmsb : x.msb = true := ht.symm.trans h4
                clear h4 ht
                rw [hmsb] at hs
                conv => whnf
                rw [shl1 x, show IntKind.u32.wrap ((BitVec.ofInt IntKind.u32.bits (n32 (x <<< 1)) ^^^ BitVec.ofInt IntKind.u32.bits 2168537515).toNat : Int) = n32 (x <<< 1 ^^^ poly) from xor32 (x <<< 1) poly, w64 (x := (k : Int) + 1) (by omega) (by omega)]
                refine ⟨⟨k + 1, by omega, by rw [hs]; rfl⟩, ?_⟩
                show 8 - ((k : Int) + 1).toNat < 8 - (k : Int).toNat
                omega
              · have hmsb : x.msb = false := ht.symm.trans h4
                clear h4 ht
                rw [hmsb] at hs
                conv => whnf
                rw [shl1 x, w64 (x := (k : Int) + 1) (by omega) (by omega)]
                refine ⟨⟨k + 1, by omega, by rw [hs, show (x <<< 1 ^^^ if false = true then poly else 0#32) = x <<< 1 from BitVec.xor_zero]; rfl⟩, ?_⟩
                show 8 - ((k : Int) + 1).toNat < 8 - (k : Int).toNat
                omega
            · simp only [decide_eq_false_iff_not] at h3
              have hk8 : k = 8 := by omega
              subst hk8
              rw [w64 (x := (j : Int) + 1) (by omega) (by omega)]
              refine ⟨⟨j + 1, by omega, ?_⟩, ?_⟩
              · have : crc n0 (q.take (j + 1)) = x := by
                  rw [List.take_succ_eq_append_getElem hj', crc_append, ← hx]
                  rfl
                rw [this]
                rfl
              · show q.length - ((j : Int) + 1).toNat < q.length - (j : Int).toNat
                omega
        · simp only [decide_eq_false_iff_not] at h2
          have hjq : j = q.length := by omega
          subst hjq
          rw [w64 (x := (i : Int) + 1) (by omega) (by omega)]
          refine ⟨⟨i + 1, by omega, ?_⟩, ?_⟩
          · have : crc 0#32 (ps.take (i + 1)).flatten = crc n0 (q.take q.length) := by
              rw [List.take_succ_eq_append_getElem hi', List.flatten_append, crc_append, hn, hq, List.take_length]
              simp
            rw [this]
            rfl
          · show ps.length - ((i : Int) + 1).toNat < ps.length - (i : Int).toNat
            omega
    · simp only [decide_eq_false_iff_not] at h
      have hip : i = ps.length := by omega
      subst hip
      refine ⟨false, [], ?_⟩
      conv => whnf
      refine ⟨?_, rfl⟩
      congr 2
      rw [List.take_length]
end Go.WL.T5
