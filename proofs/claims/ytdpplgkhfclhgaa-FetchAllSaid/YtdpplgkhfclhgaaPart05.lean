/- Slices of one type: copies, what is taken out, what is put in, what is found. No condition. -/
import Derived.Test.YtdpplgkhfclhgaaPart04
import Derived.Test.YtdpplgkhfclhgaaWordsD
set_option linter.unusedVariables false
set_option linter.unusedSimpArgs false
namespace Go.WL.T8
open Go.WL Go.Proofs
set_option maxRecDepth 20000
set_option maxHeartbeats 8000000
theorem c_delWan (cap n i : Nat) (L : List AV) (hL : L.length = cap) (hn : n ≤ cap) (hi : i < n) (hb : n < 4294967296) : FnOK Try.prog D 27 [.bs 0 [] (.nd [.ar 32 .lf, .lf, .lf]) 0 n cap, (AV.sc (.int .i64 ((i : Int)))), (AV.sc (.int .i64 ((i : Int) + 1)))] [.ar cap (.nd [.ar 32 .lf, .lf, .lf]) L] (fun r st => r = .bs 0 [] (.nd [.ar 32 .lf, .lf, .lf]) 0 (n - 1) cap ∧ st = [.ar cap (.nd [.ar 32 .lf, .lf, .lf]) (del1 L i n (AV.st [.ar 32 .lf (List.replicate 32 (.sc (.int .u8 0))), .sc (.int .i64 0), .sc (.int .i64 0)]))]) := by
  refine fnok_of_W hmix tabOK Try.func27 rfl rfl (Nat.le_of_ble_eq_true rfl) ?_
  conv => whnf
  repeat (refine And.intro (by first | omega) ?_; conv => whnf)
  refine Branch.of (fun hh => ?_) (fun hh => ?_)
  · exfalso; simp only [gt_iff_lt, ge_iff_le, decide_eq_true_eq, decide_eq_false_iff_not, beq_iff_eq, beq_eq_false_iff_ne, bne_iff_ne, bne_eq_false_iff_eq, ne_eq] at hh; first | done | omega | (simp at hh; done)
  try rw [hh]
  clear hh
  conv => whnf
  refine ⟨tabF27R5, by decide +kernel, ?_⟩
  conv => whnf
  repeat (refine And.intro (by first | omega) ?_; conv => whnf)
  have e1 : ((i : Int) + 1).toNat = i + 1 := by omega
  have hl : (List.take (n - (i + 1)) (List.drop (i + 1) L)).length = n - (i + 1) := by rw [List.length_take, List.length_drop]; omega
  simp only [Int.toNat_natCast, Nat.sub_zero, Nat.zero_add, Nat.add_zero, e1]
  refine ⟨by omega, ?_⟩
  conv => whnf
  simp only [hl, show i + (n - (i + 1)) = n - 1 by omega]
  repeat (refine And.intro (by first | omega) ?_; conv => whnf)
  refine ⟨false, [], ?_⟩
  conv => whnf
  refine ⟨rfl, ?_⟩
  congr 2
  simp only [Int.toNat_natCast, Nat.zero_add, List.length_replicate, show n - (n - 1) = 1 by omega]
  exact del1_of hi (by omega)
end Go.WL.T8
