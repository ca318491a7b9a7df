/- Nobody's disk: the law. No condition. -/
import Derived.Test.YtdlgmddegldcjaaPart16
import Derived.Test.YtdlgmddegldcjaaPart17
import Derived.Test.YtdlgmddegldcjaaPart12
set_option linter.unusedVariables false
set_option linter.unusedSimpArgs false
namespace Go.WL.T5
open Go.WL Go.Proofs
set_option maxRecDepth 20000
set_option maxHeartbeats 8000000
structure Ac where
  d : Int
  b : List UInt8
  n : Int
def acA (l : List Ac) : List AV := l.map fun a => (AV.st [.sc (.int .i64 (a).d), .sl .lf (by8 (a).b) .ro, .sc (.int .i64 (a).n)])
theorem ac_len (l : List Ac) : (acA l).length = l.length := List.length_map ..
theorem ac_at {l : List Ac} {i : Nat} (h : i < l.length) : (acA l)[((i : Nat) : Int).toNat]? = some (AV.st [.sc (.int .i64 (l[i]).d), .sl .lf (by8 (l[i]).b) .ro, .sc (.int .i64 (l[i]).n)]) := by simp [acA, h]
def lightB (l : List Ac) : Bool := decide (l.length ≤ 60) && (l.take 61).all fun a => decide (a.b.length ≤ 200)
theorem c_light18 (l : List Ac) (hl : l.length ≤ 9223372036854775807) : FnOK Try.prog D 15 [(AV.sl (.nd [.lf, .lf, .lf]) (acA (l)) .ro)] [] (fun r st => r = (AV.sc (.bool (lightB l))) ∧ st = []) := by
  refine fnok_of_W hmix tabOK Try.func15 rfl rfl (Nat.le_of_ble_eq_true rfl) ?_
  conv => whnf
  refine ⟨false, [0, 3], fun τ => ∃ i : Nat, i ≤ l.length ∧ i ≤ 61 ∧ ((l.take i).all fun a => decide (a.b.length ≤ 200)) = true ∧ τ = ⟨24, [(0, (AV.sl (.nd [.lf, .lf, .lf]) (acA (l)) .ro)), (3, (AV.sc (.int .i64 ((i : Int)))))], ⟨[], [], 0⟩⟩, fun τ => l.length - (slotI τ 3).toNat, ?_, ?_⟩
  · conv => whnf
    exact ⟨0, by omega, by omega, by simp, rfl⟩
  rintro τ ⟨i, hi, hi2, ha, rfl⟩
  conv => whnf
  rw [ac_len]
  have out : ∀ b : Bool, (decide ((i : Int) < l.length) = false ∨ i = 61) → lightB l = decide (l.length ≤ 60) := by
    intro _ h
    unfold lightB
    have e : (l.take 61).all (fun a => decide (a.b.length ≤ 200)) = true := by
      rcases h with h | rfl
      · have : i = l.length := by
          have := of_decide_eq_false h
          omega
        rw [this, List.take_length] at ha
        rw [List.all_eq_true] at ha ⊢
        exact fun x hx => ha x (List.mem_of_mem_take hx)
      · exact ha
    rw [e, Bool.and_true]
  refine Branch.of (fun h1 => ?_) (fun h1 => ?_) <;> rw [h1] <;> conv => whnf
  · have h1' := of_decide_eq_true h1
    have ih : i < l.length := by omega
    by_cases h61 : i = 61
    · refine Branch.of (fun hh => ?_) (fun hh => ?_)
      · exfalso; simp only [gt_iff_lt, ge_iff_le, decide_eq_true_eq, decide_eq_false_iff_not, beq_iff_eq, beq_eq_false_iff_ne, bne_iff_ne, bne_eq_false_iff_eq, ne_eq] at hh; first | done | omega | (simp at hh; done)
      try rw [hh]
      clear hh
      conv => whnf
      rw [ac_len]
      rw [out true (.inr h61)]
      refine ⟨false, [], ?_⟩
      conv => whnf
      refine ⟨?_, rfl⟩
      congr 2
      rw [decide_eq_decide]
      omega
    · refine Branch.of (fun hh => ?_) (fun hh => ?_)
      rotate_left
      · exfalso; simp only [gt_iff_lt, ge_iff_le, decide_eq_true_eq, decide_eq_false_iff_not, beq_iff_eq, beq_eq_false_iff_ne, bne_iff_ne, bne_eq_false_iff_eq, ne_eq] at hh; first | done | omega | (simp at hh; done)
      try rw [hh]
      clear hh
      conv => whnf
      refine ⟨by omega, _, ac_at ih, ?_⟩
      conv => whnf
      rw [len8]
      by_cases h2 : l[i].b.length ≤ 200
      · refine Branch.of (fun hh => ?_) (fun hh => ?_)
        · exfalso; simp only [gt_iff_lt, ge_iff_le, decide_eq_true_eq, decide_eq_false_iff_not, beq_iff_eq, beq_eq_false_iff_ne, bne_iff_ne, bne_eq_false_iff_eq, ne_eq] at hh; first | done | omega | (simp at hh; done)
        try rw [hh]
        clear hh
        conv => whnf
        rw [w64 (x := (i : Int) + 1) (by omega) (by omega)]
        refine ⟨⟨i + 1, by omega, by omega, ?_, rfl⟩, ?_⟩
        · rw [List.take_succ_eq_append_getElem ih, List.all_append, ha]
          simp [h2]
        · show l.length - ((i : Int) + 1).toNat < l.length - (i : Int).toNat
          omega
      · refine Branch.of (fun hh => ?_) (fun hh => ?_)
        rotate_left
        · exfalso; simp only [gt_iff_lt, ge_iff_le, decide_eq_true_eq, decide_eq_false_iff_not, beq_iff_eq, beq_eq_false_iff_ne, bne_iff_ne, bne_eq_false_iff_eq, ne_eq] at hh; first | done | omega | (simp at hh; done)
        try rw [hh]
        clear hh
        conv => whnf
        have : lightB l = false := by
          unfold lightB
          rw [Bool.and_eq_false_iff]
          right
          rw [List.all_eq_false]
          refine ⟨l[i], ?_, by simp; omega⟩
          rw [List.mem_take_iff_getElem]
          exact ⟨i, by omega, rfl⟩
        rw [this]
        refine ⟨false, [], ?_⟩
        conv => whnf
        exact ⟨rfl, rfl⟩
  · rw [ac_len]
    rw [out true (.inl h1)]
    refine ⟨false, [], ?_⟩
    conv => whnf
    refine ⟨?_, rfl⟩
    congr 2
    rw [decide_eq_decide]
    omega
end Go.WL.T5
namespace Go.WL.T5
open Go.WL Go.Proofs
set_option maxRecDepth 20000
set_option maxHeartbeats 8000000
theorem c_awake18 : FnOK Try.prog D 16 [] [] (fun r st => r = (AV.sc (.bool (true))) ∧ st = []) := by
  refine fnok_of_Ws [7500005] hmix tabOK Try.func16 rfl rfl (Nat.le_of_ble_eq_true rfl) ?_
  conv => whnf
  refine (c_new 9 (by decide) (by decide)).mono fun r st e => ?_
  obtain ⟨rfl, rfl⟩ := e
  conv => whnf
  refine ((c_append0 ⟨[], 0, 9, -1, false, []⟩ [1, 2, 3] rfl (by simp [WFk]) (by decide)).weak (.cons (Weak.refl _) (.cons (.sl (m := .ex) (.inl rfl) (Weaks.refl _)) .nil))).mono ?_
  rw [show appP ⟨[], 0, 9, -1, false, []⟩ [1, 2, 3] = (⟨[1, 2, 3], 0, 9, -1, false, []⟩, 0) from rfl]
  rintro r st ⟨rfl, ⟨h, _⟩ | ⟨cap, c2, L, hL, rfl⟩⟩
  · cases h
  conv => whnf
  refine ⟨[(0, [0])], ?_⟩
  conv => whnf
  rw [List.drop_zero, hL.2.2.2]
  refine (c_crashR ⟨[1, 2, 3], 0, 9, -1, false, []⟩ 2 (by simp [WFk]) (by decide)).mono ?_
  rw [show crashP ⟨[1, 2, 3], 0, 9, -1, false, []⟩ 2 = ⟨[1, 2], 2, 9, -1, false, []⟩ from rfl]
  rintro r st ⟨rfl, ⟨h, _⟩ | ⟨cap', c2', L', hL', rfl⟩⟩
  · cases h
  conv => whnf
  refine (c_all1 ⟨[1, 2], 2, 9, -1, false, []⟩ cap' c2' L' hL' (by simp [WFk])).mono fun r st e => ?_
  obtain ⟨rfl, rfl⟩ := e
  conv => whnf
  refine (c_safe1 ⟨[1, 2], 2, 9, -1, false, []⟩ cap' c2' L').mono fun r st e => ?_
  obtain ⟨rfl, rfl⟩ := e
  conv => whnf
  refine ⟨false, [], ?_⟩
  conv => whnf
  exact ⟨rfl, rfl⟩
def lay0 (b : List UInt8) (cp : Nat) : List AV := List.replicate 0 (AV.sc (.int .u8 (0))) ++ by8 b ++ List.replicate (cp - ((List.replicate 0 (AV.sc (.int .u8 (0)))).length + b.length)) (AV.sc (.int .u8 (0)))
theorem okl_lay0 (b : List UInt8) (cp : Nat) (h : b.length ≤ cp) : OKL b cp cp (lay0 b cp) := by
  have := okl_app b cp (List.replicate (cp - b.length) (AV.sc (.int .u8 (0)))) h (by rw [List.length_replicate])
  unfold lay0
  rw [show (List.replicate 0 (AV.sc (.int .u8 (0)))).length + b.length = b.length by simp]
  exact this
theorem c_append0e (sf room armed : Int) (h : List UInt8) (w1 : 0 ≤ room) (w2 : room ≤ 1048576) : FnOK Try.prog D 25 [.pt 0 [], (AV.sl .lf (by8 ([])) .ro)] [(AV.st [.sl .lf [] .ex, .sc (.int .i64 ((⟨[], sf, room, armed, false, h⟩ : Pk)).sf), .sc (.int .i64 ((⟨[], sf, room, armed, false, h⟩ : Pk)).room), .sc (.bool true), .sc (.int .i64 ((⟨[], sf, room, armed, false, h⟩ : Pk)).armed), .sc (.bool ((⟨[], sf, room, armed, false, h⟩ : Pk)).dead), .sl .lf (by8 ((⟨[], sf, room, armed, false, h⟩ : Pk)).h) .ro])] (fun r st => r = (AV.sc (.int .i64 (0))) ∧ st = [(AV.st [.sl .lf [] .ex, .sc (.int .i64 ((⟨[], sf, room, armed, false, h⟩ : Pk)).sf), .sc (.int .i64 ((⟨[], sf, room, armed, false, h⟩ : Pk)).room), .sc (.bool true), .sc (.int .i64 ((⟨[], sf, room, armed, false, h⟩ : Pk)).armed), .sc (.bool ((⟨[], sf, room, armed, false, h⟩ : Pk)).dead), .sl .lf (by8 ((⟨[], sf, room, armed, false, h⟩ : Pk)).h) .ro])]) := by
  refine fnok_of_Ws [41] hmix tabOK Try.func25 rfl rfl (Nat.le_of_ble_eq_true rfl) ?_
  conv => whnf
  refine (c_off0 ⟨_, sf, room, armed, false, h⟩).mono fun r st e => ?_
  obtain ⟨rfl, rfl⟩ := e
  conv => whnf
  refine ⟨tabF25R4, by decide +kernel, ?_⟩
  conv => whnf
  rw [decide_eq_false (p := _ > _) (by show ¬ (0 : Int) > IntKind.i64.wrap (room - 0); rw [w64 (by omega) (by omega)]; omega)]
  conv => whnf
  refine ⟨false, [], ?_⟩
  conv => whnf
  exact ⟨rfl, rfl⟩
end Go.WL.T5
