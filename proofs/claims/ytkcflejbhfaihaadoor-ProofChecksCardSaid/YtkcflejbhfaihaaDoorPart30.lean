/- Proofs of receipts: texts, Root, Prove, Check, Find. No condition. -/
import Derived.Test.YtkcflejbhfaihaaDoorPart23
import Derived.Test.YtkcflejbhfaihaaDoorPart29
set_option linter.unusedVariables false
set_option linter.unusedSimpArgs false
namespace Go.WL.T4
open Go.WL Go.Proofs
set_option maxRecDepth 20000
set_option maxHeartbeats 8000000
/-- A receipt. -/
structure Rc where
  g : List UInt8
  h : Int
  p : Int
  c : Int
/-- Receipts, as cells of a row. -/
def rcsA (l : List Rc) : List AV := l.map fun x => .st [.ar 32 .lf (by8 x.g), .sc (.int .i64 x.h), .sc (.int .i64 x.p), .sc (.int .i64 x.c)]
theorem lenR (l : List Rc) : (rcsA l).length = l.length := by simp [rcsA]
theorem atR {l : List Rc} {i : Nat} (h : i < l.length) : (rcsA l)[((i : Nat) : Int).toNat]? = some (AV.st [.ar 32 .lf (by8 (l[i]).g), .sc (.int .i64 (l[i]).h), .sc (.int .i64 (l[i]).p), .sc (.int .i64 (l[i]).c)]) := by
  rw [Int.toNat_natCast]
  simp [rcsA, h]
/-- A receipt's bytes. -/
def putC (x : Rc) : List UInt8 := putR x.g x.h.toNat x.p.toNat x.c.toNat
theorem c_putC (x : Rc) (hg : x.g.length = 32) (hm : mayR x.h x.p x.c = true) : FnOK Tryd.prog D 87 [(AV.st [.ar 32 .lf (by8 (x).g), .sc (.int .i64 (x).h), .sc (.int .i64 (x).p), .sc (.int .i64 (x).c)])] [] (fun r st => r = .tup [(AV.sl .lf (by8 (putC x)) (.own 0)), (AV.sc (.int .i64 (0)))] ∧ st = []) := by
  have hm' := hm
  rw [mayR_eq, decide_eq_true_eq] at hm'
  have := c_put_yes x.g x.h.toNat x.p.toNat x.c.toNat hg (by rw [Int.toNat_of_nonneg (by omega), Int.toNat_of_nonneg (by omega), Int.toNat_of_nonneg (by omega)]; exact hm)
  rw [Int.toNat_of_nonneg (by omega), Int.toNat_of_nonneg (by omega), Int.toNat_of_nonneg (by omega)] at this
  exact this
theorem c_bytesC (x : Rc) (hg : x.g.length = 32) (hm : mayR x.h x.p x.c = true) : FnOK Tryd.prog D 61 [(AV.st [.ar 32 .lf (by8 (x).g), .sc (.int .i64 (x).h), .sc (.int .i64 (x).p), .sc (.int .i64 (x).c)])] [] (fun r st => r = (AV.sl .lf (by8 (putC x)) (.own 0)) ∧ st = []) := by
  have hm' := hm
  rw [mayR_eq, decide_eq_true_eq] at hm'
  have := c_refbytes x.g x.h.toNat x.p.toNat x.c.toNat hg (by rw [Int.toNat_of_nonneg (by omega), Int.toNat_of_nonneg (by omega), Int.toNat_of_nonneg (by omega)]; exact hm)
  rw [Int.toNat_of_nonneg (by omega), Int.toNat_of_nonneg (by omega), Int.toNat_of_nonneg (by omega)] at this
  exact this
theorem putC_len {x : Rc} (hg : x.g.length = 32) (hm : mayR x.h x.p x.c = true) : (putC x).length ≤ 100 := by
  rw [mayR_eq, decide_eq_true_eq] at hm
  have h1 := num_ten (n := x.h.toNat) (by omega)
  have h2 := num_ten (n := x.p.toNat) (by omega)
  have h3 := num_ten (n := x.c.toNat) (by omega)
  unfold putC putR
  simp only [List.length_append]
  omega
theorem c_pcheck_aux (root : List UInt8) (m : Int) (x : Rc) (pr : List (List UInt8)) (P : List UInt8) (k b : Bool)
    (cn : k = false → FnOK Tryd.prog D 87 [(AV.st [.ar 32 .lf (by8 (x).g), .sc (.int .i64 (x).h), .sc (.int .i64 (x).p), .sc (.int .i64 (x).c)])] [] (fun r st => r = .tup [.sl .lf [] .ex, (AV.sc (.int .i64 (1)))] ∧ st = []))
    (cy : k = true → FnOK Tryd.prog D 87 [(AV.st [.ar 32 .lf (by8 (x).g), .sc (.int .i64 (x).h), .sc (.int .i64 (x).p), .sc (.int .i64 (x).c)])] [] (fun r st => r = .tup [(AV.sl .lf (by8 (P)) (.own 0)), (AV.sc (.int .i64 (0)))] ∧ st = []))
    (cc : k = true → FnOK Tryd.prog D 55 [.ar 32 .lf (by8 root), (AV.sc (.int .i64 (m))), (AV.sc (.int .i64 (x.p))), (AV.sl .lf (by8 (P)) .ro), .sl (.ar 32 .lf) (byH pr) .ro] [] (fun r st => r = (AV.sc (.bool (b))) ∧ st = [])) :
    FnOK Tryd.prog D 59 [.ar 32 .lf (by8 root), (AV.sc (.int .i64 (m))), (AV.st [.ar 32 .lf (by8 (x).g), .sc (.int .i64 (x).h), .sc (.int .i64 (x).p), .sc (.int .i64 (x).c)]), .sl (.ar 32 .lf) (byH pr) .ro] [] (fun r st => r = (AV.sc (.bool (k && b))) ∧ st = []) := by
  refine fnok_of_W hmix tabOK Tryd.func59 rfl rfl (Nat.le_of_ble_eq_true rfl) ?_
  conv => whnf
  cases k
  · refine (cn rfl).mono fun r st e => ?_
    obtain ⟨rfl, rfl⟩ := e
    conv => whnf
    refine ⟨false, [], ?_⟩
    conv => whnf
    exact ⟨rfl, rfl⟩
  · refine (cy rfl).mono fun r st e => ?_
    obtain ⟨rfl, rfl⟩ := e
    conv => whnf
    refine (cc rfl).mono fun r st e => ?_
    obtain ⟨rfl, rfl⟩ := e
    conv => whnf
    refine ⟨false, [], ?_⟩
    conv => whnf
    exact ⟨rfl, rfl⟩
/-- Whether a receipt's proof is right. -/
def chkR (root : List UInt8) (m : Int) (x : Rc) (pr : List (List UInt8)) : Bool := isPlace m x.p && (pr.length == depB m x.p) && (chkF (sidesF m.toNat m.toNat x.p.toNat) pr (leafB (putC x)) == root)
theorem c_pcheck (root : List UInt8) (m : Int) (x : Rc) (pr : List (List UInt8)) (hr : root.length = 32) (hg : x.g.length = 32) (hpl : pr.length < 100000) (hpr : ∀ p ∈ pr, p.length = 32) :
    FnOK Tryd.prog D 59 [.ar 32 .lf (by8 root), (AV.sc (.int .i64 (m))), (AV.st [.ar 32 .lf (by8 (x).g), .sc (.int .i64 (x).h), .sc (.int .i64 (x).p), .sc (.int .i64 (x).c)]), .sl (.ar 32 .lf) (byH pr) .ro] [] (fun r st => r = (AV.sc (.bool (mayR x.h x.p x.c && chkR root m x pr))) ∧ st = []) := by
  refine c_pcheck_aux root m x pr (putC x) (mayR x.h x.p x.c) (chkR root m x pr) (fun h => c_put_no x.g x.h x.p x.c h) (fun h => c_putC x hg h) (fun h => ?_)
  have := putC_len hg h
  exact c_chk root (putC x) m x.p pr hr (by omega) hpl hpr
theorem snocL (l : List (List UInt8)) (b : List UInt8) : byL l ++ [(AV.sl .lf (by8 (b)) .ro)] = byL (l ++ [b]) := by simp [byL]
abbrev okR (l : List Rc) : Prop := ∀ (i : Nat) (hi : i < l.length), l[i].g.length = 32 ∧ mayR l[i].h l[i].p l[i].c = true ∧ l[i].p = i
theorem c_ptexts (l : List Rc) (hl : l.length ≤ 1000) (hok : okR l) :
    FnOK Tryd.prog D 95 [(AV.sl (.nd [.ar 32 .lf, .lf, .lf, .lf]) (rcsA (l)) .ro)] [] (fun r st => r = .tup [.sl .lf (byL (l.map putC)) (.own 0), (AV.sc (.bool (true)))] ∧ st = []) := by
  have hll := lenR l
  refine fnok_of_W hmix tabOK Tryd.func95 rfl rfl (Nat.le_of_ble_eq_true rfl) ?_
  conv => whnf
  rw [hll]
  refine ⟨true, [4, 9, 10, 11], fun τ => ∃ (i : Nat) (T : List (List UInt8)), i ≤ l.length ∧ T = (l.take i).map putC ∧ τ = ⟨35, [(4, .sl .lf (byL T) (.own 0)), (9, (AV.sl (.nd [.ar 32 .lf, .lf, .lf, .lf]) (rcsA (l)) .ro)), (10, (AV.sc (.int .i64 ((l.length : Int))))), (11, (AV.sc (.int .i64 ((i : Int)))))], ⟨[], [0], 1⟩⟩, fun τ => l.length - (slotI τ 11).toNat, ?_, ?_⟩
  · conv => whnf
    exact ⟨0, [], by omega, rfl, rfl⟩
  rintro τ ⟨i, T, hi, hT, rfl⟩
  have hTl : T.length = i := by rw [hT, List.length_map, List.length_take]; omega
  conv => whnf
  refine Branch.of (fun h1 => ?_) (fun h1 => ?_) <;> rw [h1] <;> conv => whnf
  · simp only [decide_eq_true_eq] at h1
    have il : i < l.length := by omega
    obtain ⟨k1, k2, k3⟩ := hok i il
    repeat (refine And.intro (by first | omega) ?_; conv => whnf)
    refine ⟨_, atR il, ?_⟩
    conv => whnf
    refine (c_putC l[i] k1 k2).mono fun r st e => ?_
    obtain ⟨rfl, rfl⟩ := e
    conv => whnf
    refine Branch.of (fun h2 => ?_) (fun h2 => ?_) <;> rw [h2] <;> conv => whnf
    · simp only [bne_iff_ne, ne_eq] at h2
      exact absurd k3 h2
    refine And.intro (by rw [lenL]; show _ + 1 < _; omega) ?_
    conv => whnf
    rw [w64 (x := (i : Int) + 1) (by omega) (by omega), snocL]
    refine ⟨⟨i + 1, _, by omega, ?_, rfl⟩, ?_⟩
    · rw [List.take_succ_eq_append_getElem il, List.map_append, ← hT]
      rfl
    · show l.length - ((i : Int) + 1).toNat < l.length - (i : Int).toNat
      omega
  · simp only [decide_eq_false_iff_not] at h1
    rw [List.take_of_length_le (by omega)] at hT
    refine ⟨false, [], ?_⟩
    conv => whnf
    rw [hT]
    exact ⟨rfl, rfl⟩
theorem c_proot (l : List Rc) (T : List (List UInt8)) (R : List UInt8)
    (ct : FnOK Tryd.prog D 95 [(AV.sl (.nd [.ar 32 .lf, .lf, .lf, .lf]) (rcsA (l)) .ro)] [] (fun r st => r = .tup [.sl .lf (byL T) (.own 0), (AV.sc (.bool (true)))] ∧ st = []))
    (cR : FnOK Tryd.prog D 50 [.sl .lf (byL T) .ro] [] (fun r st => r = .ar 32 .lf (by8 R) ∧ st = [])) :
    FnOK Tryd.prog D 84 [(AV.sl (.nd [.ar 32 .lf, .lf, .lf, .lf]) (rcsA (l)) .ro)] [] (fun r st => r = .tup [.ar 32 .lf (by8 R), (AV.sc (.int .i64 (0)))] ∧ st = []) := by
  refine fnok_of_W hmix tabOK Tryd.func84 rfl rfl (Nat.le_of_ble_eq_true rfl) ?_
  conv => whnf
  refine (ct).mono fun r st e => ?_
  obtain ⟨rfl, rfl⟩ := e
  conv => whnf
  refine (cR).mono fun r st e => ?_
  obtain ⟨rfl, rfl⟩ := e
  conv => whnf
  refine ⟨false, [], ?_⟩
  conv => whnf
  exact ⟨rfl, rfl⟩
theorem c_pprove (l : List Rc) (a : Int) (T X : List (List UInt8))
    (ct : FnOK Tryd.prog D 95 [(AV.sl (.nd [.ar 32 .lf, .lf, .lf, .lf]) (rcsA (l)) .ro)] [] (fun r st => r = .tup [.sl .lf (byL T) (.own 0), (AV.sc (.bool (true)))] ∧ st = []))
    (cP : FnOK Tryd.prog D 49 [.sl .lf (byL T) .ro, (AV.sc (.int .i64 (a)))] [] (fun r st => r = .tup [.sl (.ar 32 .lf) (byH X) (.own 0), (AV.sc (.int .i64 (0)))] ∧ st = [])) :
    FnOK Tryd.prog D 85 [(AV.sl (.nd [.ar 32 .lf, .lf, .lf, .lf]) (rcsA (l)) .ro), (AV.sc (.int .i64 (a)))] [] (fun r st => r = .tup [.sl (.ar 32 .lf) (byH X) (.own 0), (AV.sc (.int .i64 (0)))] ∧ st = []) := by
  refine fnok_of_W hmix tabOK Tryd.func85 rfl rfl (Nat.le_of_ble_eq_true rfl) ?_
  conv => whnf
  refine (ct).mono fun r st e => ?_
  obtain ⟨rfl, rfl⟩ := e
  conv => whnf
  refine (cP).mono fun r st e => ?_
  obtain ⟨rfl, rfl⟩ := e
  conv => whnf
  refine ⟨false, [], ?_⟩
  conv => whnf
  exact ⟨rfl, rfl⟩
theorem c_isR (x : Rc) (id : List UInt8) (hx : x.g.length = 32) (hid : id.length = 32) :
    FnOK Tryd.prog D 97 [(AV.st [.ar 32 .lf (by8 (x).g), .sc (.int .i64 (x).h), .sc (.int .i64 (x).p), .sc (.int .i64 (x).c)]), .pt 0 []] [.ar 32 .lf (by8 id)] (fun r st => r = (AV.sc (.bool (x.g == id))) ∧ st = [.ar 32 .lf (by8 id)]) := by
  refine fnok_of_W hmix tabOK Tryd.func97 rfl rfl (Nat.le_of_ble_eq_true rfl) ?_
  conv => whnf
  refine ⟨x.g, id, rfl, rfl, ?_⟩
  conv => whnf
  refine ⟨false, [], ?_⟩
  conv => whnf
  exact ⟨rfl, rfl⟩
theorem c_indexR (l : List Rc) (id : List UInt8) (hl : l.length ≤ 1000) (hg : ∀ x ∈ l, x.g.length = 32) (hid : id.length = 32) (hno : ∀ x ∈ l, (x.g == id) = false) :
    FnOK Tryd.prog D 96 [(AV.sl (.nd [.ar 32 .lf, .lf, .lf, .lf]) (rcsA (l)) .ro), .fn 97 [.pt 0 []]] [.ar 32 .lf (by8 id)] (fun r st => r = (AV.sc (.int .i64 (-1))) ∧ st = [.ar 32 .lf (by8 id)]) := by
  have hll := lenR l
  refine fnok_of_W hmix tabOK Tryd.func96 rfl rfl (Nat.le_of_ble_eq_true rfl) ?_
  conv => whnf
  rw [hll]
  refine ⟨false, [0, 1, 7, 8], fun τ => ∃ i : Nat, i ≤ l.length ∧ τ = ⟨19, [(0, (AV.sl (.nd [.ar 32 .lf, .lf, .lf, .lf]) (rcsA (l)) .ro)), (1, .fn 97 [.pt 0 []]), (7, (AV.sc (.int .i64 ((l.length : Int))))), (8, (AV.sc (.int .i64 ((i : Int)))))], ⟨[(.ar 32 .lf (by8 id), false)], [], 0⟩⟩, fun τ => l.length - (slotI τ 8).toNat, ?_, ?_⟩
  · conv => whnf
    exact ⟨0, by omega, rfl⟩
  rintro τ ⟨i, hi, rfl⟩
  conv => whnf
  refine Branch.of (fun h1 => ?_) (fun h1 => ?_) <;> rw [h1] <;> conv => whnf
  · simp only [decide_eq_true_eq] at h1
    have il : i < l.length := by omega
    have e := hno l[i] (List.getElem_mem il)
    repeat (refine And.intro (by first | omega) ?_; conv => whnf)
    refine ⟨_, atR il, ?_⟩
    conv => whnf
    refine (c_isR l[i] id (hg _ (List.getElem_mem il)) hid).mono fun r st e => ?_
    obtain ⟨rfl, rfl⟩ := e
    conv => whnf
    rw [e]
    conv => whnf
    rw [w64 (x := (i : Int) + 1) (by omega) (by omega)]
    refine ⟨⟨i + 1, by omega, rfl⟩, ?_⟩
    show l.length - ((i : Int) + 1).toNat < l.length - (i : Int).toNat
    omega
  · refine ⟨false, [], ?_⟩
    conv => whnf
    exact ⟨rfl, rfl⟩
theorem c_pfind_aux (l : List Rc) (id : List UInt8)
    (ci : FnOK Tryd.prog D 96 [(AV.sl (.nd [.ar 32 .lf, .lf, .lf, .lf]) (rcsA (l)) .ro), .fn 97 [.pt 0 []]] [.ar 32 .lf (by8 id)] (fun r st => r = (AV.sc (.int .i64 (-1))) ∧ st = [.ar 32 .lf (by8 id)])) :
    FnOK Tryd.prog D 86 [(AV.sl (.nd [.ar 32 .lf, .lf, .lf, .lf]) (rcsA (l)) .ro), .ar 32 .lf (by8 id)] [] (fun r st => r = (AV.sc (.int .i64 (-1))) ∧ st = []) := by
  refine fnok_of_W hmix tabOK Tryd.func86 rfl rfl (Nat.le_of_ble_eq_true rfl) ?_
  conv => whnf
  refine (ci).mono fun r st e => ?_
  obtain ⟨rfl, rfl⟩ := e
  conv => whnf
  refine ⟨false, [], ?_⟩
  conv => whnf
  exact ⟨rfl, rfl⟩
end Go.WL.T4
