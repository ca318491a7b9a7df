/- Blocks that are asked for: what is wanted, and where it is. No condition. -/
import Derived.Test.YtdpplgkhfclhgaaPart03
import Derived.Test.YtdpplgkhfclhgaaWordsD
set_option linter.unusedVariables false
set_option linter.unusedSimpArgs false
namespace Go.WL.T8
open Go.WL Go.Proofs
set_option maxRecDepth 20000
set_option maxHeartbeats 8000000
structure Fw where
  h : List UInt8
  of_ : Int
  left_ : Int
structure Rw where
  h : List UInt8
  of_ : Int
  left_ : Int
  asked : Int
def wnA (l : List Fw) : List AV := l.map fun w => (AV.st [.ar 32 .lf (by8 (w).h), .sc (.int .i64 (w).of_), .sc (.int .i64 (w).left_)])
def rwA (l : List Rw) : List AV := l.map fun w => (AV.st [.ar 32 .lf (by8 (w).h), .sc (.int .i64 (w).of_), .sc (.int .i64 (w).left_), .sc (.int .i64 (w).asked)])
theorem wn_len (l : List Fw) : (wnA l).length = l.length := List.length_map ..
theorem rw_len (l : List Rw) : (rwA l).length = l.length := List.length_map ..
theorem wn_at {l : List Fw} {i : Nat} (h : i < l.length) : (wnA l)[i]? = some (AV.st [.ar 32 .lf (by8 (l[i]).h), .sc (.int .i64 (l[i]).of_), .sc (.int .i64 (l[i]).left_)]) := by simp [wnA, h]
theorem rw_at {l : List Rw} {i : Nat} (h : i < l.length) : (rwA l)[((i : Nat) : Int).toNat]? = some (AV.st [.ar 32 .lf (by8 (l[i]).h), .sc (.int .i64 (l[i]).of_), .sc (.int .i64 (l[i]).left_), .sc (.int .i64 (l[i]).asked)]) := by simp [rwA, h]
/-- Wanted ones, in a box of more places. -/
def OKW (l : List Fw) (cap : Nat) (L : List AV) : Prop := l.length ≤ cap ∧ L.length = cap ∧ L.take l.length = wnA l
theorem okw_at {l : List Fw} {cap : Nat} {L : List AV} (h : OKW l cap L) {i : Nat} (hi : i < l.length) : L[i]? = some (AV.st [.ar 32 .lf (by8 (l[i]).h), .sc (.int .i64 (l[i]).of_), .sc (.int .i64 (l[i]).left_)]) := by
  rw [at_take h.2.2 hi]
  exact wn_at hi
def fnd (l : List Fw) (h : List UInt8) : Int := match l.findIdx? (fun x => x.h == h) with
  | some i => i
  | none => -1
theorem fnd_no {l : List Fw} {h : List UInt8} (hn : ∀ x ∈ l, (x.h == h) = false) : fnd l h = -1 := by
  unfold fnd
  rw [List.findIdx?_eq_none_iff.2 hn]
theorem fnd_yes {l : List Fw} {h : List UInt8} {i : Nat} (hi : i < l.length) (hy : (l[i].h == h) = true) (hn : ∀ x ∈ l.take i, (x.h == h) = false) : fnd l h = i := by
  unfold fnd
  rw [List.findIdx?_eq_some_iff_getElem.2 ⟨hi, hy, fun j hj => ?_⟩]
  have := hn l[j] (List.mem_take_iff_getElem.2 ⟨j, by omega, rfl⟩)
  rw [this]
  simp
theorem fnd_cases (l : List Fw) (h : List UInt8) : (fnd l h = -1 ∧ ∀ x ∈ l, (x.h == h) = false) ∨ ∃ (i : Nat) (hi : i < l.length), fnd l h = i ∧ (l[i].h == h) = true := by
  unfold fnd
  cases e : l.findIdx? (fun x => x.h == h) with
  | none => exact .inl ⟨rfl, List.findIdx?_eq_none_iff.1 e⟩
  | some i =>
    obtain ⟨h1, h2, _⟩ := List.findIdx?_eq_some_iff_getElem.1 e
    exact .inr ⟨i, h1, rfl, h2⟩
theorem c_find1 (x : Fw) (h : List UInt8) : FnOK Try.prog D 41 [(AV.st [.ar 32 .lf (by8 (x).h), .sc (.int .i64 (x).of_), .sc (.int .i64 (x).left_)]), .pt 0 []] [(AV.ar 32 .lf (by8 (h)))] (fun r st => r = (AV.sc (.bool (x.h == h))) ∧ st = [(AV.ar 32 .lf (by8 (h)))]) := by
  refine fnok_of_W hmix tabOK Try.func41 rfl rfl (Nat.le_of_ble_eq_true rfl) ?_
  conv => whnf
  refine ⟨x.h, h, rfl, rfl, ?_⟩
  conv => whnf
  refine ⟨false, [], ?_⟩
  conv => whnf
  exact ⟨rfl, rfl⟩
theorem c_idxW0 (h : List UInt8) : FnOK Try.prog D 40 [.sl (.nd [.ar 32 .lf, .lf, .lf]) [] .ex, .fn 41 [.pt 0 []]] [(AV.ar 32 .lf (by8 (h)))] (fun r st => r = (AV.sc (.int .i64 ((-1)))) ∧ st = [(AV.ar 32 .lf (by8 (h)))]) := by
  refine fnok_of_W hmix tabOK Try.func40 rfl rfl (Nat.le_of_ble_eq_true rfl) ?_
  conv => whnf
  refine ⟨false, [0, 1, 7, 8], fun τ => τ = ⟨19, [(0, .sl (.nd [.ar 32 .lf, .lf, .lf]) [] .ex), (1, .fn 41 [.pt 0 []]), (7, (AV.sc (.int .i64 (0)))), (8, (AV.sc (.int .i64 (0))))], ⟨[((AV.ar 32 .lf (by8 (h))), false)], [], 0⟩⟩, fun τ => 0, ?_, ?_⟩
  · conv => whnf
    exact rfl
  rintro τ rfl
  conv => whnf
  refine ⟨false, [], ?_⟩
  conv => whnf
  exact ⟨rfl, rfl⟩
theorem c_idxW1 (l : List Fw) (h : List UInt8) (cap : Nat) (L : List AV) (hL : OKW l cap L) (hb : l.length < 4294967296) : FnOK Try.prog D 40 [.bs 0 [] (.nd [.ar 32 .lf, .lf, .lf]) 0 l.length cap, .fn 41 [.pt 1 []]] [.ar cap (.nd [.ar 32 .lf, .lf, .lf]) L, (AV.ar 32 .lf (by8 (h)))]
    (fun r st => r = (AV.sc (.int .i64 (fnd l h))) ∧ st = [.ar cap (.nd [.ar 32 .lf, .lf, .lf]) L, (AV.ar 32 .lf (by8 (h)))]) := by
  refine fnok_of_W hmix tabOK Try.func40 rfl rfl (Nat.le_of_ble_eq_true rfl) ?_
  conv => whnf
  refine ⟨false, [0, 1, 7, 8], fun τ => ∃ i : Nat, i ≤ l.length ∧ (∀ x ∈ l.take i, (x.h == h) = false) ∧ τ = ⟨19, [(0, .bs 0 [] (.nd [.ar 32 .lf, .lf, .lf]) 0 l.length cap), (1, .fn 41 [.pt 1 []]), (7, (AV.sc (.int .i64 ((l.length : Int))))), (8, (AV.sc (.int .i64 ((i : Int)))))], ⟨[(.ar cap (.nd [.ar 32 .lf, .lf, .lf]) L, false), ((AV.ar 32 .lf (by8 (h))), false)], [], 0⟩⟩, fun τ => l.length - (slotI τ 8).toNat, ?_, ?_⟩
  · conv => whnf
    exact ⟨0, by omega, by simp, rfl⟩
  rintro τ ⟨i, hi, hn, rfl⟩
  apply enter3
  intro kk kK
  conv => whnf
  refine Branch.of (fun h1 => ?_) (fun h1 => ?_) <;> rw [h1] <;> conv => whnf
  rotate_left
  · have h1 := of_decide_eq_false h1
    obtain rfl : i = l.length := by omega
    rw [List.take_length] at hn
    refine kK _ _ ?_
    conv => whnf
    rw [fnd_no hn]
    refine ⟨false, [], ?_⟩
    conv => whnf
    exact ⟨rfl, rfl⟩
  have h1 := of_decide_eq_true h1
  have ih : i < l.length := by omega
  have hat := okw_at hL ih
  refine ⟨by omega, by omega, ?_⟩
  conv => whnf
  refine ⟨_, (show L[0 + ((i : Nat) : Int).toNat]? = some (AV.st [.ar 32 .lf (by8 (l[i]).h), .sc (.int .i64 (l[i]).of_), .sc (.int .i64 (l[i]).left_)]) by rw [Nat.zero_add, Int.toNat_natCast]; exact hat), ?_⟩
  conv => whnf
  refine (c_find1 l[i] h).mono fun r st e => ?_
  obtain ⟨rfl, rfl⟩ := e
  conv => whnf
  cases he : (l[i].h == h) with
  | true =>
    conv => whnf
    refine kK _ _ ?_
    conv => whnf
    rw [fnd_yes ih he hn]
    refine ⟨false, [], ?_⟩
    conv => whnf
    exact ⟨rfl, rfl⟩
  | false =>
    conv => whnf
    rw [w64 (x := (i : Int) + 1) (by omega) (by omega)]
    refine kK _ _ ?_
    conv => whnf
    refine ⟨⟨i + 1, by omega, ?_, rfl⟩, ?_⟩
    · intro x hx
      rw [List.take_succ_eq_append_getElem ih] at hx
      rcases List.mem_append.1 hx with hx | hx
      · exact hn x hx
      · rw [List.mem_singleton.1 hx]
        exact he
    · show l.length - ((i : Int) + 1).toNat < l.length - (i : Int).toNat
      omega
theorem c_find0 (me n : Int) (h : List UInt8) : FnOK Try.prog D 26 [.pt 0 [], (AV.ar 32 .lf (by8 (h)))] [.st [(AV.sc (.int .i64 (me))), (AV.sc (.int .i64 (n))), .sl (.nd [.ar 32 .lf, .lf, .lf]) [] .ex]] (fun r st => r = (AV.sc (.int .i64 ((-1)))) ∧ st = [.st [(AV.sc (.int .i64 (me))), (AV.sc (.int .i64 (n))), .sl (.nd [.ar 32 .lf, .lf, .lf]) [] .ex]]) := by
  refine fnok_of_Ws [10] hmix tabOK Try.func26 rfl rfl (Nat.le_of_ble_eq_true rfl) ?_
  conv => whnf
  refine (c_idxW0 h).mono fun r st e => ?_
  obtain ⟨rfl, rfl⟩ := e
  conv => whnf
  refine ⟨false, [], ?_⟩
  conv => whnf
  exact ⟨rfl, rfl⟩
theorem c_findB (me n : Int) (l : List Fw) (h : List UInt8) (cap : Nat) (L : List AV) (hL : OKW l cap L) (hb : l.length < 4294967296) : FnOK Try.prog D 26 [.pt 0 [], (AV.ar 32 .lf (by8 (h)))] [.st [(AV.sc (.int .i64 (me))), (AV.sc (.int .i64 (n))), .bs 1 [] (.nd [.ar 32 .lf, .lf, .lf]) 0 l.length cap], .ar cap (.nd [.ar 32 .lf, .lf, .lf]) L]
    (fun r st => r = (AV.sc (.int .i64 (fnd l h))) ∧ st = [.st [(AV.sc (.int .i64 (me))), (AV.sc (.int .i64 (n))), .bs 1 [] (.nd [.ar 32 .lf, .lf, .lf]) 0 l.length cap], .ar cap (.nd [.ar 32 .lf, .lf, .lf]) L]) := by
  refine fnok_of_Ws [10] hmix tabOK Try.func26 rfl rfl (Nat.le_of_ble_eq_true rfl) ?_
  conv => whnf
  refine (c_idxW1 l h cap L hL hb).mono fun r st e => ?_
  obtain ⟨rfl, rfl⟩ := e
  conv => whnf
  refine ⟨false, [], ?_⟩
  conv => whnf
  exact ⟨rfl, rfl⟩
end Go.WL.T8
