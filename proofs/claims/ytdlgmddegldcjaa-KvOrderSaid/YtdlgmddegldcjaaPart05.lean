/- Keys held against each other. No condition. -/
import Derived.Test.YtdlgmddegldcjaaPart02
import Derived.Test.YtdlgmddegldcjaaPart04
import Derived.Test.YtdlgmddegldcjaaWordsD
import Derived.WalkKit
import Derived.BigCall
import Derived.Laws.RangeAny
set_option linter.unusedVariables false
set_option linter.unusedSimpArgs false
namespace Go.WL.T5
open Go.WL Go.Proofs Go.RowKit
set_option maxHeartbeats 4000000
set_option maxRecDepth 1000000 in
theorem kvright (s : ByteArray) (w : World) :
    Calls Try.prog 87 #[.string s] w fun e w' => e = .returned (.bool (okKey s.data.toList)) ∧ Below w.heap.size w w' := by
  have hsz : s.data.toList.length = s.size := by rw [Array.length_toList]; rfl
  have hbel : ∀ p, Below w.heap.size w (w.iter s p) := fun p => (Below.refl _ w).alloc (Nat.le_refl _) _
  have no : ∀ (pos : Nat) (hp : pos < s.size), keyc (s[pos]'hp) = false → okKey s.data.toList = false := fun pos hp h => by
    unfold okKey
    rw [all_no s.data.toList pos (by omega) keyc (by rw [Array.getElem_toList]; exact h)]
    rfl
  have yes : ∀ (pos : Nat) (hp : pos < s.size), (s.data.toList.take pos).all keyc = true → keyc (s[pos]'hp) = true → (s.data.toList.take (pos + 1)).all keyc = true := fun pos hp ha h =>
    take_all s.data.toList pos (by omega) keyc ha (by rw [Array.getElem_toList]; exact h)
  go_enter Try.func87, Try.ntmps87
  go_wp2
  go_loopw [4] (fun _ wr => ∃ (pos : Nat), wr = w.iter s pos ∧ pos ≤ s.size ∧ (s.data.toList.take pos).all keyc = true) (fun _ wr => s.size - wr.iterPos w.heap.size)
  case atStart => exact ⟨0, rfl, by omega, by simp⟩
  case round =>
    obtain ⟨pos, rfl, hle, hall⟩ := hrel
    by_cases hp : pos < s.size
    · have hnx : ∀ ty, (Instr.next (.pointer (some ⟨w.heap.size, 0, none⟩)) true ty).run Try.prog (w.iter s pos) = _ := fun ty => run_next_any w s pos ty hp
      by_cases ha : (s[pos]'hp).toNat < 128
      · rw [decode_ascii s pos hp ha] at hnx
        have no := no pos hp
        have yes := yes pos hp hall
        go_wp2
        all_goals first
          | (go_ret; exact ⟨by rw [no (keyc_no (by omega))]; rfl, hbel _⟩)
          | exact ⟨⟨pos + 1, rfl, by omega, yes (keyc_yes (by omega))⟩, by simp; omega⟩
      · have hd := decode_high s pos hp (by omega)
        have no := no pos hp
        go_wp2
        all_goals first
          | (go_ret; exact ⟨by rw [no (keyc_no (by omega))]; rfl, hbel _⟩)
          | (exfalso; omega)
    · have hnx : ∀ ty, (Instr.next (.pointer (some ⟨w.heap.size, 0, none⟩)) true ty).run Try.prog (w.iter s pos) = _ := fun ty => run_next_end w s pos ty hp
      have hpe : pos = s.size := by omega
      subst hpe
      rw [List.take_of_length_le (by omega)] at hall
      go_wp2
      · rename_i h0
        go_ret
        refine ⟨?_, hbel _⟩
        rw [ByteArray.toList_eq] at h0
        rw [h0]
        rfl
      · rename_i h0
        go_ret
        refine ⟨?_, hbel _⟩
        rw [ByteArray.toList_eq] at h0
        have h1 : 1 ≤ s.size := by
          rw [← hsz]
          exact List.length_pos_iff.2 h0
        have h2 : s.data.toList.isEmpty = false := by
          cases e : s.data.toList with
          | nil => exact absurd e h0
          | cons _ _ => rfl
        show Ending.returned (Value.bool (!s.toList.isEmpty && decide ((s.size : Int) ≤ 16))) = Ending.returned (Value.bool (okKey s.data.toList))
        congr 2
        unfold okKey
        rw [hall, hsz, ByteArray.toList_eq, h2, Bool.true_and, Bool.not_false, Bool.true_and, decide_eq_decide]
        omega
theorem c_kright (s : List UInt8) : FnOK Try.prog D 87 [(AV.sc (.string (strB (s))))] [] (fun r st => r = (AV.sc (.bool (okKey s))) ∧ st = []) := by
  refine .ofCalls _ Try.func87 (by decide) (by kernel_rfl) (.bool (okKey s)) rfl ⟨rfl, rfl⟩ fun E us hr => ?_
  obtain ⟨vs, rfl, h2⟩ := repL_sc hr
  obtain rfl : vs = [] := h2
  refine (kvright (strB s) E.w).mono fun e w' ⟨h1, h2⟩ => ⟨?_, h2⟩
  rw [h1]
  simp [strB]
end Go.WL.T5
namespace Go.WL.T5
open Go.WL Go.Proofs
set_option maxRecDepth 20000
set_option maxHeartbeats 8000000
theorem cmpS_lt (a b : List UInt8) : decide (Lib.compareBytes a b < 0) = slt a b := by
  rw [Bool.eq_iff_iff, decide_eq_true_eq]
  exact cmp_lt a b
theorem cmpS_eq (a b : List UInt8) : (Lib.compareBytes a b == 0) = decide (a = b) := by
  rw [Bool.eq_iff_iff, beq_iff_eq, decide_eq_true_eq]
  exact cmp_eq0 a b
theorem c_cmpext (a b : List UInt8) : FnOK Try.prog D 136 [(AV.sc (.string (strB (a)))), (AV.sc (.string (strB (b))))] [] (fun r st => r = (AV.sc (.int .i64 (Lib.compareBytes a b))) ∧ st = []) :=
  FnOK.cmpstring Try.func136 (by kernel_rfl) (by kernel_rfl) (by kernel_rfl) (by kernel_rfl) a b
theorem c_cmpstr (a b : List UInt8) : FnOK Try.prog D 128 [(AV.sc (.string (strB (a)))), (AV.sc (.string (strB (b))))] [] (fun r st => r = (AV.sc (.int .i64 (Lib.compareBytes a b))) ∧ st = []) := by
  refine fnok_of_W hmix tabOK Try.func128 rfl rfl (Nat.le_of_ble_eq_true rfl) ?_
  conv => whnf
  refine (c_cmpext a b).mono fun r st e => ?_
  obtain ⟨rfl, rfl⟩ := e
  conv => whnf
  refine ⟨false, [], ?_⟩
  conv => whnf
  exact ⟨rfl, rfl⟩
theorem c_scompare (a b : List UInt8) : FnOK Try.prog D 116 [(AV.sc (.string (strB (a)))), (AV.sc (.string (strB (b))))] [] (fun r st => r = (AV.sc (.int .i64 (Lib.compareBytes a b))) ∧ st = []) := by
  refine fnok_of_W hmix tabOK Try.func116 rfl rfl (Nat.le_of_ble_eq_true rfl) ?_
  conv => whnf
  refine (c_cmpstr a b).mono fun r st e => ?_
  obtain ⟨rfl, rfl⟩ := e
  conv => whnf
  refine ⟨false, [], ?_⟩
  conv => whnf
  exact ⟨rfl, rfl⟩
theorem c_kfind1 (x : Pr) (k : List UInt8) : FnOK Try.prog D 115 [(AV.st [.sc (.string (strB (x).key)), .sc (.string (strB (x).val))]), (AV.sc (.string (strB (k))))] [] (fun r st => r = (AV.sc (.int .i64 (Lib.compareBytes x.key k))) ∧ st = []) := by
  refine fnok_of_W hmix tabOK Try.func115 rfl rfl (Nat.le_of_ble_eq_true rfl) ?_
  conv => whnf
  refine (c_scompare x.key k).mono fun r st e => ?_
  obtain ⟨rfl, rfl⟩ := e
  conv => whnf
  refine ⟨false, [], ?_⟩
  conv => whnf
  exact ⟨rfl, rfl⟩
end Go.WL.T5
