/- Blocks that are asked for: the program's list and the reference's. No condition. -/
import Derived.Test.YtdpplgkhfclhgaaPart09
import Derived.Test.YtdpplgkhfclhgaaPart10
set_option linter.unusedVariables false
set_option linter.unusedSimpArgs false
namespace Go.WL.T8
open Go.WL Go.Proofs
set_option maxRecDepth 20000
def toF (me n : Int) (w : Rw) : Fw := ⟨w.h, whom me n w.of_ w.asked, w.left_⟩
def OKR (me n i : Int) (w : Rw) : Prop := 1 ≤ w.of_ ∧ w.of_ ≤ n ∧ w.of_ ≠ me ∧ 0 ≤ w.left_ ∧ w.left_ ≤ 3 ∧ 0 ≤ w.asked ∧ w.asked ≤ i
theorem tick_to {me n i : Int} (hR : ∀ o, 1 ≤ o → o ≤ n → o ≠ me → RingF me n o) {w : Rw} (h : OKR me n i w) : tick1 me n (toF me n w) = toF me n (rtick1 w) ∧ OKR me n (i + 1) (rtick1 w) := by
  obtain ⟨h1, h2, h3, h4, h5, h6, h7⟩ := h
  have hr := hR w.of_ h1 h2 h3
  unfold tick1 rtick1
  by_cases e : w.left_ = 0
  · rw [if_pos (show (toF me n w).left_ = 0 from e), if_pos e]
    refine ⟨?_, h1, h2, h3, by show (0 : Int) ≤ 3; decide, by show (3 : Int) ≤ 3; decide, by show 0 ≤ w.asked + 1; omega, by show w.asked + 1 ≤ i + 1; omega⟩
    unfold toF
    simp only
    rw [hr.next _ h6]
  · rw [if_neg (show ¬ (toF me n w).left_ = 0 from e), if_neg e]
    exact ⟨rfl, h1, h2, h3, by show 0 ≤ w.left_ - 1; omega, by show w.left_ - 1 ≤ 3; omega, h6, by show w.asked ≤ i + 1; omega⟩
theorem tick_map {me n i : Int} (hR : ∀ o, 1 ≤ o → o ≤ n → o ≠ me → RingF me n o) {W : List Rw} (h : ∀ w ∈ W, OKR me n i w) : (W.map (toF me n)).map (tick1 me n) = (W.map rtick1).map (toF me n) := by
  rw [List.map_map, List.map_map]
  exact List.map_congr_left fun w hw => (tick_to hR (h w hw)).1
theorem tick_msg (me n : Int) (W : List Rw) : tickM me (W.map (toF me n)) = rtickM me n W := by
  unfold tickM rtickM
  rw [List.filter_map, List.map_map]
  rfl
theorem fnd_to (me n : Int) (W : List Rw) (h : List UInt8) : fnd (W.map hF) h = fnd (W.map (toF me n)) h := fnd_congr h (by rw [List.map_map, List.map_map]; rfl)
theorem okw_ex (l : List Fw) : OKW l l.length (wnA l) := ⟨Nat.le_refl _, wn_len l, by rw [List.take_of_length_le (by rw [wn_len]; exact Nat.le_refl _)]⟩
theorem F0_ex (me n : Int) (l : List Fw) : ∃ st, F0 me n l st := ⟨_, .inr ⟨_, _, okw_ex l, rfl⟩⟩
theorem F1_ex (me n : Int) (l : List Fw) : ∃ st, F1 me n l st := ⟨_, _, _, okw_ex l, .inl rfl⟩
theorem map_erase {α β : Type} (f : α → β) : ∀ (l : List α) (k : Nat), (l.map f).eraseIdx k = (l.eraseIdx k).map f
  | [], k => by simp
  | x :: l, 0 => rfl
  | x :: l, k + 1 => by simp only [List.map_cons, List.eraseIdx_cons_succ]; rw [map_erase f l k]
theorem wan_new {me n i : Int} (hR : ∀ o, 1 ≤ o → o ≤ n → o ≠ me → RingF me n o) {W : List Rw} {h : List UInt8} {o : Int} (hi : 0 ≤ i) (e : wanE me n (W.map (toF me n)) h o = 0) : wanL me n (W.map (toF me n)) h o = (W ++ [(⟨h, o, 0, 0⟩ : Rw)]).map (toF me n) ∧ OKR me n i ⟨h, o, 0, 0⟩ ∧ W.length ≠ 32 := by
  unfold wanL
  rw [if_pos e, List.map_append]
  unfold wanE at e
  by_cases h1 : o < 1 ∨ n < o ∨ o = me
  · rw [if_pos h1] at e; cases e
  rw [if_neg h1] at e
  have hr := hR o (by omega) (by omega) (by omega)
  refine ⟨?_, ⟨by show 1 ≤ o; omega, by show o ≤ n; omega, by show o ≠ me; omega, by show (0 : Int) ≤ 0; decide, by show (0 : Int) ≤ 3; decide, by show (0 : Int) ≤ 0; decide, hi⟩, ?_⟩
  · show _ ++ [_] = _ ++ [toF me n ⟨h, o, 0, 0⟩]
    unfold toF
    simp only
    rw [hr.zero]
  · intro e2
    rw [List.length_map] at e
    by_cases h2 : 0 ≤ fnd (W.map (toF me n)) h
    · rw [if_pos h2] at e; cases e
    · rw [if_neg h2, if_pos e2] at e; cases e
theorem wan_old {me n : Int} {W : List Fw} {h : List UInt8} {o : Int} (e : ¬ wanE me n W h o = 0) : wanL me n W h o = W := by
  unfold wanL
  rw [if_neg e]
structure Fc where
  d : Int
  b : UInt8
  of_ : Int
def faA (l : List Fc) : List AV := l.map fun x => (AV.st [.sc (.int .i64 (x).d), .sc (.int .u8 ((x).b.toNat : Int)), .sc (.int .i64 (x).of_)])
theorem fa_len (l : List Fc) : (faA l).length = l.length := List.length_map ..
theorem fa_at {l : List Fc} {i : Nat} (h : i < l.length) : (faA l)[((i : Nat) : Int).toNat]? = some (AV.st [.sc (.int .i64 (l[i]).d), .sc (.int .u8 ((l[i]).b.toNat : Int)), .sc (.int .i64 (l[i]).of_)]) := by simp [faA, h]
def hh (b : UInt8) : List UInt8 := b :: List.replicate 31 0
theorem ms_at {l : List Ms} {i : Nat} (h : i < l.length) : (msA l)[((i : Nat) : Int).toNat]? = some (AV.st [.sc (.int .i64 7), .sc (.int .i64 (l[i]).f), .sc (.int .i64 (l[i]).t), .st [.sc (.int .i64 0), .sc (.int .i64 0), .sc (.int .i64 0), .sc (.int .i64 0), .ar 32 .lf (List.replicate 32 (.sc (.int .u8 0))), .sc (.int .i64 0), .ar 32 .lf (List.replicate 32 (.sc (.int .u8 0))), .ar 32 .lf (List.replicate 32 (.sc (.int .u8 0)))], .st [.st [.sc (.int .i64 0), .sc (.int .i64 0), .sc (.int .i64 0), .sc (.int .i64 0), .ar 32 .lf (List.replicate 32 (.sc (.int .u8 0))), .sc (.int .i64 0), .ar 32 .lf (List.replicate 32 (.sc (.int .u8 0))), .ar 32 .lf (List.replicate 32 (.sc (.int .u8 0)))], .sl (.nd [.lf, .ar 32 .lf]) [] .ex], .st [.sc (.int .i64 0), .sc (.int .i64 0), .sc (.int .i64 0), .ar 32 .lf (List.replicate 32 (.sc (.int .u8 0))), .sl .lf [] .ex, .ar 32 .lf (List.replicate 32 (.sc (.int .u8 0)))], .st [.ar 32 .lf (List.replicate 32 (.sc (.int .u8 0))), .sc (.int .i64 0), .sc (.int .i64 0), .sc (.int .i64 0), .sl (.nd [.lf, .lf, .lf, .lf, .lf, .lf, .lf]) [] .ex], .ar 32 .lf (by8 (l[i]).h), .st [.sc (.int .i64 0), .sc (.int .i64 0), .sc (.int .i64 0), .sc (.int .i64 0), .sc (.int .i64 0), .sc (.string .empty), .sc (.string .empty)]]) := by simp [msA, h]
theorem ms_len (l : List Ms) : (msA l).length = l.length := List.length_map ..
end Go.WL.T8
