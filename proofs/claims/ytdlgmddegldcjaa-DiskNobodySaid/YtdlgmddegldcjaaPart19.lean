/- Nobody's disk: whatever the input. No condition. -/
import Derived.Test.YtdlgmddegldcjaaPart14
import Derived.Test.YtdlgmddegldcjaaPart15
import Derived.Test.YtdlgmddegldcjaaPart16
import Derived.Test.YtdlgmddegldcjaaPart17
import Derived.Test.YtdlgmddegldcjaaPart18
set_option linter.unusedVariables false
set_option linter.unusedSimpArgs false
namespace Go.WL.T5
open Go.WL Go.Proofs
set_option maxRecDepth 20000
set_option maxHeartbeats 8000000
theorem c_disknobody (b : List UInt8) (n : Int) (y : UInt8) : FnOK Try.prog D 5 [(AV.sl .lf (by8 (b)) .ro), (AV.sc (.int .i64 (n))), (AV.sc (.int .u8 ((y.toNat : Int))))] [] (fun r st => r = (AV.sc (.bool (true))) ∧ st = []) := by
  by_cases hb : b.length ≤ 200
  · by_cases h0 : b = []
    · subst h0
      by_cases hn : n < 0
      · exact c_dn1 n y hn
      · exact c_dn2 n y (by omega)
    · by_cases hn : n < 0
      · exact c_dn3 b n y hb h0 hn
      · by_cases hm : (b.length : Int) ≤ n
        · exact c_dn4 b n y hb h0 hm
        · obtain ⟨j, rfl⟩ : ∃ j : Nat, n = (j : Int) := ⟨n.toNat, by omega⟩
          exact c_dn5 b j y hb h0 (by omega)
  · refine fnok_of_W hmix tabOK Try.func5 rfl rfl (Nat.le_of_ble_eq_true rfl) ?_
    conv => whnf
    rw [len8]
    refine Branch.of (fun hh => ?_) (fun hh => ?_)
    rotate_left
    · exfalso; simp only [gt_iff_lt, ge_iff_le, decide_eq_true_eq, decide_eq_false_iff_not, beq_iff_eq, beq_eq_false_iff_ne, bne_iff_ne, bne_eq_false_iff_eq, ne_eq] at hh; first | done | omega | (simp at hh; done)
    try rw [hh]
    clear hh
    conv => whnf
    refine (c_awake18).mono fun r st e => ?_
    obtain ⟨rfl, rfl⟩ := e
    conv => whnf
    refine ⟨false, [], ?_⟩
    conv => whnf
    exact ⟨rfl, rfl⟩
end Go.WL.T5
