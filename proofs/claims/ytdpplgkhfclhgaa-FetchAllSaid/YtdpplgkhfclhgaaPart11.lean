/- Blocks that are asked for: the theorem of asking. No condition. -/
import Derived.Test.YtdpplgkhfclhgaaPart09
import Derived.Test.YtdpplgkhfclhgaaPart10
set_option linter.unusedVariables false
set_option linter.unusedSimpArgs false
namespace Go.WL.T8
open Go.WL Go.Proofs
set_option maxRecDepth 20000
def toF (me n : Int) (w : Rw) : Fw := ⟨w.h, whom me n w.of_ w.asked, w.left_⟩
def OKR (me n i : Int) (w : Rw) : Prop := 1 ≤ w.of_ ∧ w.of_ ≤ n ∧ w.of_ ≠ me ∧ 0 ≤ w.left_ ∧ w.left_ ≤ 3 ∧ 0 ≤ w.asked ∧ w.asked ≤ i
theorem tick_to {me n i : Int} (hR : ∀ o, 1 ≤ o → o ≤ n → o ≠ me → RingF me n o) {w : Rw} (h : OKR me n i w) : tick1 me n (toF me n w) = toF me n (rtick1 w) ∧ OKR me n (i + 1) (rtick1 w) := by
  obtain ⟨h1, h2, h3, h4, h5, h6, h7⟩ := h
  have hr := hR w.of_ h1 h2 h3
  unfold tick1 rtick1
  by_cases e : w.left_ = 0
  · rw [if_pos (show (toF me n w).left_ = 0 from e), if_pos e]
    refine ⟨?_, h1, h2, h3, by show (0 : Int) ≤ 3; decide, by show (3 : Int) ≤ 3; decide, by show 0 ≤ w.asked + 1; omega, by show w.asked + 1 ≤ i + 1; omega⟩
    unfold toF
    simp only
    rw [hr.next _ h6]
  · rw [if_neg (show ¬ (toF me n w).left_ = 0 from e), if_neg e]
    exact ⟨rfl, h1, h2, h3, by show 0 ≤ w.left_ - 1; omega, by show w.left_ - 1 ≤ 3; omega, h6, by show w.asked ≤ i + 1; omega⟩
theorem tick_map {me n i : Int} (hR : ∀ o, 1 ≤ o → o ≤ n → o ≠ me → RingF me n o) {W : List Rw} (h : ∀ w ∈ W, OKR me n i w) : (W.map (toF me n)).map (tick1 me n) = (W.map rtick1).map (toF me n) := by
  rw [List.map_map, List.map_map]
  exact List.map_congr_left fun w hw => (tick_to hR (h w hw)).1
theorem tick_msg (me n : Int) (W : List Rw) : tickM me (W.map (toF me n)) = rtickM me n W := by
  unfold tickM rtickM
  rw [List.filter_map, List.map_map]
  rfl
theorem fnd_to (me n : Int) (W : List Rw) (h : List UInt8) : fnd (W.map hF) h = fnd (W.map (toF me n)) h := fnd_congr h (by rw [List.map_map, List.map_map]; rfl)
theorem okw_ex (l : List Fw) : OKW l l.length (wnA l) := ⟨Nat.le_refl _, wn_len l, by rw [List.take_of_length_le (by rw [wn_len]; exact Nat.le_refl _)]⟩
theorem F0_ex (me n : Int) (l : List Fw) : ∃ st, F0 me n l st := ⟨_, .inr ⟨_, _, okw_ex l, rfl⟩⟩
theorem F1_ex (me n : Int) (l : List Fw) : ∃ st, F1 me n l st := ⟨_, _, _, okw_ex l, .inl rfl⟩
theorem map_erase {α β : Type} (f : α → β) : ∀ (l : List α) (k : Nat), (l.map f).eraseIdx k = (l.eraseIdx k).map f
  | [], k => by simp
  | x :: l, 0 => rfl
  | x :: l, k + 1 => by simp only [List.map_cons, List.eraseIdx_cons_succ]; rw [map_erase f l k]
theorem wan_new {me n i : Int} (hR : ∀ o, 1 ≤ o → o ≤ n → o ≠ me → RingF me n o) {W : List Rw} {h : List UInt8} {o : Int} (hi : 0 ≤ i) (e : wanE me n (W.map (toF me n)) h o = 0) : wanL me n (W.map (toF me n)) h o = (W ++ [(⟨h, o, 0, 0⟩ : Rw)]).map (toF me n) ∧ OKR me n i ⟨h, o, 0, 0⟩ ∧ W.length ≠ 32 := by
  unfold wanL
  rw [if_pos e, List.map_append]
  unfold wanE at e
  by_cases h1 : o < 1 ∨ n < o ∨ o = me
  · rw [if_pos h1] at e; cases e
  rw [if_neg h1] at e
  have hr := hR o (by omega) (by omega) (by omega)
  refine ⟨?_, ⟨by show 1 ≤ o; omega, by show o ≤ n; omega, by show o ≠ me; omega, by show (0 : Int) ≤ 0; decide, by show (0 : Int) ≤ 3; decide, by show (0 : Int) ≤ 0; decide, hi⟩, ?_⟩
  · show _ ++ [_] = _ ++ [toF me n ⟨h, o, 0, 0⟩]
    unfold toF
    simp only
    rw [hr.zero]
  · intro e2
    rw [List.length_map] at e
    by_cases h2 : 0 ≤ fnd (W.map (toF me n)) h
    · rw [if_pos h2] at e; cases e
    · rw [if_neg h2, if_pos e2] at e; cases e
theorem wan_old {me n : Int} {W : List Fw} {h : List UInt8} {o : Int} (e : ¬ wanE me n W h o = 0) : wanL me n W h o = W := by
  unfold wanL
  rw [if_neg e]
structure Fc where
  d : Int
  b : UInt8
  of_ : Int
def faA (l : List Fc) : List AV := l.map fun x => (AV.st [.sc (.int .i64 (x).d), .sc (.int .u8 ((x).b.toNat : Int)), .sc (.int .i64 (x).of_)])
theorem fa_len (l : List Fc) : (faA l).length = l.length := List.length_map ..
theorem fa_at {l : List Fc} {i : Nat} (h : i < l.length) : (faA l)[((i : Nat) : Int).toNat]? = some (AV.st [.sc (.int .i64 (l[i]).d), .sc (.int .u8 ((l[i]).b.toNat : Int)), .sc (.int .i64 (l[i]).of_)]) := by simp [faA, h]
def hh (b : UInt8) : List UInt8 := b :: List.replicate 31 0
theorem ms_at {l : List Ms} {i : Nat} (h : i < l.length) : (msA l)[((i : Nat) : Int).toNat]? = some (AV.st [.sc (.int .i64 7), .sc (.int .i64 (l[i]).f), .sc (.int .i64 (l[i]).t), .st [.sc (.int .i64 0), .sc (.int .i64 0), .sc (.int .i64 0), .sc (.int .i64 0), .ar 32 .lf (List.replicate 32 (.sc (.int .u8 0))), .sc (.int .i64 0), .ar 32 .lf (List.replicate 32 (.sc (.int .u8 0))), .ar 32 .lf (List.replicate 32 (.sc (.int .u8 0)))], .st [.st [.sc (.int .i64 0), .sc (.int .i64 0), .sc (.int .i64 0), .sc (.int .i64 0), .ar 32 .lf (List.replicate 32 (.sc (.int .u8 0))), .sc (.int .i64 0), .ar 32 .lf (List.replicate 32 (.sc (.int .u8 0))), .ar 32 .lf (List.replicate 32 (.sc (.int .u8 0)))], .sl (.nd [.lf, .ar 32 .lf]) [] .ex], .st [.sc (.int .i64 0), .sc (.int .i64 0), .sc (.int .i64 0), .ar 32 .lf (List.replicate 32 (.sc (.int .u8 0))), .sl .lf [] .ex, .ar 32 .lf (List.replicate 32 (.sc (.int .u8 0)))], .st [.ar 32 .lf (List.replicate 32 (.sc (.int .u8 0))), .sc (.int .i64 0), .sc (.int .i64 0), .sc (.int .i64 0), .sl (.nd [.lf, .lf, .lf, .lf, .lf, .lf, .lf]) [] .ex], .ar 32 .lf (by8 (l[i]).h), .st [.sc (.int .i64 0), .sc (.int .i64 0), .sc (.int .i64 0), .sc (.int .i64 0), .sc (.int .i64 0), .sc (.string .empty), .sc (.string .empty)]]) := by simp [msA, h]
theorem ms_len (l : List Ms) : (msA l).length = l.length := List.length_map ..
end Go.WL.T8
namespace Go.WL.T8
open Go.WL Go.Proofs
set_option maxRecDepth 20000
set_option maxHeartbeats 8000000
/-- Which parts are asked within so many ticks. -/
def askA (me n o : Int) (t : Nat) : List AV := (List.range 22).map fun p : Nat => AV.sc (.bool ((List.range ((t + 3) / 4)).any fun k : Nat => whom me n o (k : Int) == (p : Int)))
theorem askA_len (me n o : Int) (t : Nat) : (askA me n o t).length = 22 := by simp [askA]
theorem askA_at (me n o : Int) (t p : Nat) (hp : p < 22) : (askA me n o t)[p]? = some (AV.sc (.bool ((List.range ((t + 3) / 4)).any fun k : Nat => whom me n o (k : Int) == (p : Int)))) := by
  simp [askA, hp]
theorem askA_same (me n o : Int) (t : Nat) (h : ¬ t % 4 = 0) : askA me n o (t + 1) = askA me n o t := by
  unfold askA
  rw [show (t + 1 + 3) / 4 = (t + 3) / 4 by omega]
theorem askA_set (me n o : Int) (k : Nat) (q : Nat) (hq : whom me n o (k : Int) = (q : Int)) : (askA me n o (4 * k)).set q (AV.sc (.bool true)) = askA me n o (4 * k + 1) := by
  apply List.ext_getElem?
  intro p
  by_cases hp : p < 22
  · rw [askA_at _ _ _ _ _ hp, show (4 * k + 1 + 3) / 4 = k + 1 by omega, List.range_succ, List.any_append]
    by_cases e : q = p
    · subst e
      rw [List.getElem?_set_self (by rw [askA_len]; exact hp)]
      simp [hq]
    · rw [List.getElem?_set_ne e, askA_at _ _ _ _ _ hp, show (4 * k + 3) / 4 = k by omega]
      have : ((List.any [k] fun k : Nat => whom me n o (k : Int) == (p : Int))) = false := by
        simp [hq]
        omega
      rw [this, Bool.or_false]
  · rw [List.getElem?_eq_none (by rw [List.length_set, askA_len]; omega), List.getElem?_eq_none (by rw [askA_len]; omega)]
theorem askA_all {me n o : Int} (h : RingF me n o) (p : Nat) (h1 : 1 ≤ p) (h2 : (p : Int) ≤ n) : ((List.range ((4 * (n - 1).toNat + 3) / 4)).any fun k : Nat => whom me n o (k : Int) == (p : Int)) = ((p : Int) != me) := by
  rw [show (4 * (n - 1).toNat + 3) / 4 = (n - 1).toNat by omega, Bool.eq_iff_iff, List.any_eq_true, bne_iff_ne]
  constructor
  · rintro ⟨k, _, e⟩
    rw [beq_iff_eq] at e
    rw [← e]
    exact (h.lo k).2.2
  · intro e
    obtain ⟨k, hk, e⟩ := h.all p (by omega) h2 e
    exact ⟨k, List.mem_range.2 (by omega), by rw [beq_iff_eq]; exact e⟩
/-- What is wanted behind t ticks. -/
def askW (me n o : Int) (h : List UInt8) (t : Nat) : Fw := ⟨h, whom me n o (((t + 3) / 4 : Nat) : Int), ((3 - (t + 3) % 4 : Nat) : Int)⟩
theorem askW_step {me n o : Int} (h : RingF me n o) (b : List UInt8) (t : Nat) : tick1 me n (askW me n o b t) = askW me n o b (t + 1) ∧ ((askW me n o b t).left_ = 0 ↔ t % 4 = 0) := by
  unfold tick1 askW
  simp only
  by_cases e : t % 4 = 0
  · have e2 : (t + 3) % 4 = 3 := by omega
    rw [if_pos (by omega), show (t + 1 + 3) / 4 = (t + 3) / 4 + 1 by omega, show (t + 1 + 3) % 4 = 0 by omega]
    refine ⟨?_, by omega⟩
    rw [← h.next _ (by omega)]
    rfl
  · rw [if_neg (by omega), show (t + 1 + 3) / 4 = (t + 3) / 4 by omega]
    refine ⟨?_, by omega⟩
    congr 1
    omega
end Go.WL.T8
