/- Light clients: what fits, which there may be. No condition. -/
import Derived.Test.YtmpnboonjpcmpaaDoorPart33
import Derived.Test.YtmpnboonjpcmpaaDoorPart35
set_option linter.unusedVariables false
set_option linter.unusedSimpArgs false
namespace Go.WL.T7
open Go.WL Go.Proofs
set_option maxRecDepth 20000
set_option maxHeartbeats 8000000
structure Cl where
  n : Int
  g : List UInt8
  v : Int
  h : Int
  deriving DecidableEq
def fitsC (c : Cl) (b : Bl) : Bool := mayB b && decide (c.v < b.v) && decide (b.h - 1 = c.h) && (b.p == c.g)
theorem c_fits_aux (c : Cl) (b : Bl) (m : Bool) (hm : m = true → 0 ≤ b.h ∧ b.h ≤ 1099511627776)
    (ck : FnOK Tryd.prog D 61 [(AV.st [.ar 32 .lf (by8 (b).p), .sc (.int .i64 (b).v), .sc (.int .i64 (b).h), .sc (.int .i64 (b).by_), .sl (.nd [.lf, .lf, .lf, .lf, .lf, .lf, .lf]) (txsA (b).txs) .ro])] [] (fun r st => r = (AV.sc (.int .i64 (if m = true then 0 else 1))) ∧ st = [])) :
    FnOK Tryd.prog D 47 [(AV.st [.sc (.int .i64 (c).n), .ar 32 .lf (by8 (c).g), .sc (.int .i64 (c).v), .sc (.int .i64 (c).h)]), (AV.st [.ar 32 .lf (by8 (b).p), .sc (.int .i64 (b).v), .sc (.int .i64 (b).h), .sc (.int .i64 (b).by_), .sl (.nd [.lf, .lf, .lf, .lf, .lf, .lf, .lf]) (txsA (b).txs) .ro])] [] (fun r st => r = (AV.sc (.bool (m && decide (c.v < b.v) && decide (b.h - 1 = c.h) && (b.p == c.g)))) ∧ st = []) := by
  have hw : m = true → IntKind.i64.wrap (b.h - 1) = b.h - 1 := fun h => by obtain ⟨h1, h2⟩ := hm h; exact w64 (by omega) (by omega)
  refine fnok_of_W hmix tabOK Tryd.func47 rfl rfl (Nat.le_of_ble_eq_true rfl) ?_
  conv => whnf
  refine (ck).mono fun r st e => ?_
  obtain ⟨rfl, rfl⟩ := e
  conv => whnf
  cases m with
  | false =>
    conv => whnf
    refine ⟨false, [], ?_⟩
    conv => whnf
    exact ⟨by simp, rfl⟩
  | true =>
    have hw := hw rfl
    clear hm ck
    conv => whnf
    repeat' (first
      | (refine ⟨b.p, c.g, rfl, rfl, ?_⟩
         conv => whnf)
      | (refine And.intro (by omega) ?_
         conv => whnf)
      | (refine Branch.of (fun h => ?_) (fun h => ?_) <;> (rw [h]; conv => whnf)))
    all_goals refine ⟨false, [], ?_⟩
    all_goals conv => whnf
    all_goals refine ⟨?_, rfl⟩
    all_goals congr 2
    all_goals (try simp_all)
    all_goals first | done | omega | (intros; omega) | (rw [Bool.eq_iff_iff]; simp only [Bool.and_eq_true, Bool.or_eq_true, Bool.not_eq_true', decide_eq_true_eq, decide_eq_false_iff_not, beq_iff_eq]; omega)
theorem c_fits (c : Cl) (b : Bl) (hl : b.txs.length < 4294967296) (hk : shortK b.txs) : FnOK Tryd.prog D 47 [(AV.st [.sc (.int .i64 (c).n), .ar 32 .lf (by8 (c).g), .sc (.int .i64 (c).v), .sc (.int .i64 (c).h)]), (AV.st [.ar 32 .lf (by8 (b).p), .sc (.int .i64 (b).v), .sc (.int .i64 (b).h), .sc (.int .i64 (b).by_), .sl (.nd [.lf, .lf, .lf, .lf, .lf, .lf, .lf]) (txsA (b).txs) .ro])] [] (fun r st => r = (AV.sc (.bool (fitsC c b))) ∧ st = []) :=
  c_fits_aux c b (mayB b) (fun h => (mayB_facts h).2.1) (c_bcheck b hl hk)
theorem c_fitsR_aux (c : Cl) (b : Bl) (m : Bool) (hm : m = true → 0 ≤ b.h ∧ b.h ≤ 1099511627776)
    (ck : FnOK Tryd.prog D 14 [(AV.st [.ar 32 .lf (by8 (b).p), .sc (.int .i64 (b).v), .sc (.int .i64 (b).h), .sc (.int .i64 (b).by_), .sl (.nd [.lf, .lf, .lf, .lf, .lf, .lf, .lf]) (txsA (b).txs) .ro])] [] (fun r st => r = (AV.sc (.bool (m))) ∧ st = [])) :
    FnOK Tryd.prog D 46 [(AV.st [.sc (.int .i64 (c).n), .ar 32 .lf (by8 (c).g), .sc (.int .i64 (c).v), .sc (.int .i64 (c).h)]), (AV.st [.ar 32 .lf (by8 (b).p), .sc (.int .i64 (b).v), .sc (.int .i64 (b).h), .sc (.int .i64 (b).by_), .sl (.nd [.lf, .lf, .lf, .lf, .lf, .lf, .lf]) (txsA (b).txs) .ro])] [] (fun r st => r = (AV.sc (.bool (m && decide (c.v < b.v) && decide (b.h - 1 = c.h) && (b.p == c.g)))) ∧ st = []) := by
  have hw : m = true → IntKind.i64.wrap (b.h - 1) = b.h - 1 := fun h => by obtain ⟨h1, h2⟩ := hm h; exact w64 (by omega) (by omega)
  refine fnok_of_W hmix tabOK Tryd.func46 rfl rfl (Nat.le_of_ble_eq_true rfl) ?_
  conv => whnf
  refine (ck).mono fun r st e => ?_
  obtain ⟨rfl, rfl⟩ := e
  conv => whnf
  cases m with
  | false =>
    conv => whnf
    refine ⟨false, [], ?_⟩
    conv => whnf
    exact ⟨by simp, rfl⟩
  | true =>
    have hw := hw rfl
    clear hm ck
    conv => whnf
    repeat' (first
      | (refine ⟨b.p, c.g, rfl, rfl, ?_⟩
         conv => whnf)
      | (refine And.intro (by omega) ?_
         conv => whnf)
      | (refine Branch.of (fun h => ?_) (fun h => ?_) <;> (rw [h]; conv => whnf)))
    all_goals refine ⟨false, [], ?_⟩
    all_goals conv => whnf
    all_goals refine ⟨?_, rfl⟩
    all_goals congr 2
    all_goals (try simp_all)
    all_goals first | done | omega | (intros; omega) | (rw [Bool.eq_iff_iff]; simp only [Bool.and_eq_true, Bool.or_eq_true, Bool.not_eq_true', decide_eq_true_eq, decide_eq_false_iff_not, beq_iff_eq]; omega)
theorem c_fitsR (c : Cl) (b : Bl) (hl : b.txs.length < 4294967296) (hk : shortK b.txs) : FnOK Tryd.prog D 46 [(AV.st [.sc (.int .i64 (c).n), .ar 32 .lf (by8 (c).g), .sc (.int .i64 (c).v), .sc (.int .i64 (c).h)]), (AV.st [.ar 32 .lf (by8 (b).p), .sc (.int .i64 (b).v), .sc (.int .i64 (b).h), .sc (.int .i64 (b).by_), .sl (.nd [.lf, .lf, .lf, .lf, .lf, .lf, .lf]) (txsA (b).txs) .ro])] [] (fun r st => r = (AV.sc (.bool (fitsC c b))) ∧ st = []) :=
  c_fitsR_aux c b (mayB b) (fun h => (mayB_facts h).2.1) (c_bmayR b hl hk)
def behC (c : Cl) (b : Bl) : Cl := if fitsC c b = true then ⟨c.n, blH b, b.v, b.h⟩ else c
theorem c_behind_aux (c : Cl) (b : Bl) (H : List UInt8) (f : Bool)
    (cf : FnOK Tryd.prog D 47 [(AV.st [.sc (.int .i64 (c).n), .ar 32 .lf (by8 (c).g), .sc (.int .i64 (c).v), .sc (.int .i64 (c).h)]), (AV.st [.ar 32 .lf (by8 (b).p), .sc (.int .i64 (b).v), .sc (.int .i64 (b).h), .sc (.int .i64 (b).by_), .sl (.nd [.lf, .lf, .lf, .lf, .lf, .lf, .lf]) (txsA (b).txs) .ro])] [] (fun r st => r = (AV.sc (.bool (f))) ∧ st = []))
    (ch : FnOK Tryd.prog D 60 [(AV.st [.ar 32 .lf (by8 (b).p), .sc (.int .i64 (b).v), .sc (.int .i64 (b).h), .sc (.int .i64 (b).by_), .sl (.nd [.lf, .lf, .lf, .lf, .lf, .lf, .lf]) (txsA (b).txs) .ro])] [] (fun r st => r = .ar 32 .lf (by8 H) ∧ st = [])) :
    FnOK Tryd.prog D 45 [(AV.st [.sc (.int .i64 (c).n), .ar 32 .lf (by8 (c).g), .sc (.int .i64 (c).v), .sc (.int .i64 (c).h)]), (AV.st [.ar 32 .lf (by8 (b).p), .sc (.int .i64 (b).v), .sc (.int .i64 (b).h), .sc (.int .i64 (b).by_), .sl (.nd [.lf, .lf, .lf, .lf, .lf, .lf, .lf]) (txsA (b).txs) .ro])] [] (fun r st => r = (AV.st [.sc (.int .i64 (if f = true then (⟨c.n, H, b.v, b.h⟩ : Cl) else c).n), .ar 32 .lf (by8 (if f = true then (⟨c.n, H, b.v, b.h⟩ : Cl) else c).g), .sc (.int .i64 (if f = true then (⟨c.n, H, b.v, b.h⟩ : Cl) else c).v), .sc (.int .i64 (if f = true then (⟨c.n, H, b.v, b.h⟩ : Cl) else c).h)]) ∧ st = []) := by
  refine fnok_of_W hmix tabOK Tryd.func45 rfl rfl (Nat.le_of_ble_eq_true rfl) ?_
  conv => whnf
  refine (cf).mono fun r st e => ?_
  obtain ⟨rfl, rfl⟩ := e
  conv => whnf
  cases f with
  | false =>
    conv => whnf
    refine ⟨false, [], ?_⟩
    conv => whnf
    exact ⟨rfl, rfl⟩
  | true =>
    conv => whnf
    refine ⟨tabF45R3, by decide +kernel, ?_⟩
    conv => whnf
    refine ⟨_, _, ch, ?_⟩
    conv => whnf
    refine ⟨false, [], ?_⟩
    conv => whnf
    exact ⟨rfl, rfl⟩
theorem c_behind (c : Cl) (b : Bl) (hl : b.txs.length < 4294967296) (hk : shortK b.txs) (hp : b.p.length = 32) : FnOK Tryd.prog D 45 [(AV.st [.sc (.int .i64 (c).n), .ar 32 .lf (by8 (c).g), .sc (.int .i64 (c).v), .sc (.int .i64 (c).h)]), (AV.st [.ar 32 .lf (by8 (b).p), .sc (.int .i64 (b).v), .sc (.int .i64 (b).h), .sc (.int .i64 (b).by_), .sl (.nd [.lf, .lf, .lf, .lf, .lf, .lf, .lf]) (txsA (b).txs) .ro])] [] (fun r st => r = (AV.st [.sc (.int .i64 (behC c b).n), .ar 32 .lf (by8 (behC c b).g), .sc (.int .i64 (behC c b).v), .sc (.int .i64 (behC c b).h)]) ∧ st = []) :=
  c_behind_aux c b (blH b) (fitsC c b) (c_fits c b hl hk) (c_bhash b hl hk hp)
def mayC (c : Cl) : Bool := decide (quo c.n ≠ 0) && decide (0 ≤ c.v ∧ c.v ≤ 1099511627776) && decide (0 ≤ c.h ∧ c.h ≤ c.v) && (decide (0 < c.v) || (c.g == z32))
theorem quo_pos (n : Int) : 0 ≤ quo n := by
  unfold quo
  split <;> omega
theorem c_lcheck_aux (c : Cl) (q : Int) (cq : FnOK Tryd.prog D 91 [(AV.sc (.int .i64 (c.n)))] [] (fun r st => r = (AV.sc (.int .i64 (q))) ∧ st = [])) :
    FnOK Tryd.prog D 53 [(AV.st [.sc (.int .i64 (c).n), .ar 32 .lf (by8 (c).g), .sc (.int .i64 (c).v), .sc (.int .i64 (c).h)])] [] (fun r st => r = (AV.sc (.int .i64 (if (decide (q ≠ 0) && decide (0 ≤ c.v ∧ c.v ≤ 1099511627776) && decide (0 ≤ c.h ∧ c.h ≤ c.v) && (decide (0 < c.v) || (c.g == z32))) = true then 0 else 1))) ∧ st = []) := by
  refine fnok_of_W hmix tabOK Tryd.func53 rfl rfl (Nat.le_of_ble_eq_true rfl) ?_
  conv => whnf
  repeat' (first
    | (refine (cq).mono fun r st e => ?_
       obtain ⟨rfl, rfl⟩ := e
       conv => whnf)
    | (refine ⟨c.g, z32, rfl, rfl, ?_⟩
       conv => whnf)
    | (refine And.intro (by omega) ?_
       conv => whnf)
    | (refine Branch.of (fun h => ?_) (fun h => ?_) <;> (rw [h]; conv => whnf)))
  all_goals refine ⟨false, [], ?_⟩
  all_goals conv => whnf
  all_goals refine ⟨?_, rfl⟩
  all_goals congr 2
  all_goals (try simp_all)
  all_goals first | done | omega | (intros; omega) | (rw [Bool.eq_iff_iff]; simp only [Bool.and_eq_true, Bool.or_eq_true, Bool.not_eq_true', decide_eq_true_eq, decide_eq_false_iff_not, beq_iff_eq]; omega)
theorem c_lcheck (c : Cl) : FnOK Tryd.prog D 53 [(AV.st [.sc (.int .i64 (c).n), .ar 32 .lf (by8 (c).g), .sc (.int .i64 (c).v), .sc (.int .i64 (c).h)])] [] (fun r st => r = (AV.sc (.int .i64 (if mayC c = true then 0 else 1))) ∧ st = []) := c_lcheck_aux c (quo c.n) (c_quorum c.n)
theorem c_lmayR_aux (c : Cl) (q : Int) (h0 : 0 ≤ q) (cq : FnOK Tryd.prog D 52 [(AV.sc (.int .i64 (c.n)))] [] (fun r st => r = (AV.sc (.int .i64 (q))) ∧ st = [])) :
    FnOK Tryd.prog D 54 [(AV.st [.sc (.int .i64 (c).n), .ar 32 .lf (by8 (c).g), .sc (.int .i64 (c).v), .sc (.int .i64 (c).h)])] [] (fun r st => r = (AV.sc (.bool (decide (q ≠ 0) && decide (0 ≤ c.v ∧ c.v ≤ 1099511627776) && decide (0 ≤ c.h ∧ c.h ≤ c.v) && (decide (0 < c.v) || (c.g == z32))))) ∧ st = []) := by
  refine fnok_of_W hmix tabOK Tryd.func54 rfl rfl (Nat.le_of_ble_eq_true rfl) ?_
  conv => whnf
  repeat' (first
    | (refine (cq).mono fun r st e => ?_
       obtain ⟨rfl, rfl⟩ := e
       conv => whnf)
    | (refine ⟨c.g, z32, rfl, rfl, ?_⟩
       conv => whnf)
    | (refine And.intro (by omega) ?_
       conv => whnf)
    | (refine Branch.of (fun h => ?_) (fun h => ?_) <;> (rw [h]; conv => whnf)))
  all_goals refine ⟨false, [], ?_⟩
  all_goals conv => whnf
  all_goals refine ⟨?_, rfl⟩
  all_goals congr 2
  all_goals (try simp_all)
  all_goals first | done | omega | (intros; omega) | (rw [Bool.eq_iff_iff]; simp only [Bool.and_eq_true, Bool.or_eq_true, Bool.not_eq_true', decide_eq_true_eq, decide_eq_false_iff_not, beq_iff_eq]; omega)
theorem c_lmayR (c : Cl) : FnOK Tryd.prog D 54 [(AV.st [.sc (.int .i64 (c).n), .ar 32 .lf (by8 (c).g), .sc (.int .i64 (c).v), .sc (.int .i64 (c).h)])] [] (fun r st => r = (AV.sc (.bool (mayC c))) ∧ st = []) := c_lmayR_aux c (quo c.n) (quo_pos _) (c_quorumR c.n)
theorem c_lnew (n : Int) : FnOK Tryd.prog D 51 [(AV.sc (.int .i64 (n)))] [] (fun r st => r = .tup [(AV.st [.sc (.int .i64 ((if quo n = 0 then (⟨0, z32, 0, 0⟩ : Cl) else ⟨n, z32, 0, 0⟩)).n), .ar 32 .lf (by8 ((if quo n = 0 then (⟨0, z32, 0, 0⟩ : Cl) else ⟨n, z32, 0, 0⟩)).g), .sc (.int .i64 ((if quo n = 0 then (⟨0, z32, 0, 0⟩ : Cl) else ⟨n, z32, 0, 0⟩)).v), .sc (.int .i64 ((if quo n = 0 then (⟨0, z32, 0, 0⟩ : Cl) else ⟨n, z32, 0, 0⟩)).h)]), (AV.sc (.int .i64 (if quo n = 0 then 1 else 0)))] ∧ st = []) := by
  have cq := c_quorum n
  generalize quo n = q at *
  refine fnok_of_W hmix tabOK Tryd.func51 rfl rfl (Nat.le_of_ble_eq_true rfl) ?_
  conv => whnf
  refine (cq).mono fun r st e => ?_
  obtain ⟨rfl, rfl⟩ := e
  conv => whnf
  refine Branch.of (fun h => ?_) (fun h => ?_) <;> rw [h] <;> conv => whnf
  · simp only [beq_iff_eq] at h
    refine ⟨false, [], ?_⟩
    conv => whnf
    subst h
    exact ⟨rfl, rfl⟩
  · simp only [beq_eq_false_iff_ne, ne_eq] at h
    refine ⟨false, [], ?_⟩
    conv => whnf
    rw [if_neg h, if_neg h]
    exact ⟨rfl, rfl⟩
end Go.WL.T7
