/- Slices of one type: copies, what is taken out, what is put in, what is found. No condition. -/
import Derived.Test.YtdlgmddegldcjaaPart05
import Derived.Test.YtdlgmddegldcjaaWordsD
set_option linter.unusedVariables false
set_option linter.unusedSimpArgs false
namespace Go.WL.T5
open Go.WL Go.Proofs
set_option maxRecDepth 20000
set_option maxHeartbeats 8000000
theorem c_cloneBPair (l : List Pr) (hl : l.length < 4294967296) (h0 : l ≠ []) : FnOK Try.prog D 89 [(AV.sl (.nd [.lf, .lf]) (prA (l)) .ro)] [] (fun r st => ∃ (cap : Nat) (L : List AV), l.length ≤ cap ∧ L.length = cap ∧ L.take l.length = prA l ∧ r = .bs 0 [] (.nd [.lf, .lf]) 0 l.length cap ∧ st = [.ar cap (.nd [.lf, .lf]) L]) := by
  have hll := lenPr l
  have hp : 0 < l.length := List.length_pos_iff.2 h0
  refine fnok_of_Ws [7] hmix tabOK Try.func89 rfl rfl (Nat.le_of_ble_eq_true rfl) ?_
  conv => whnf
  intro b hb
  cases b
  · conv => whnf
    refine Branch.yes (by rw [hll]; simpa [Nat.blt_eq] using hp) ?_
    refine ⟨by rw [hll]; simp; omega, fun cap hc => ?_⟩
    rw [hll] at hc
    conv => whnf
    refine ⟨false, [0], ?_⟩
    conv => whnf
    refine ⟨cap, _, ?_, ?_, ?_, ?_, rfl⟩
    · simp at hc; omega
    · simp only [List.replicate_zero, List.nil_append, List.length_append, List.length_replicate, hll, List.length_nil, Nat.zero_add] at hc ⊢
      omega
    · exact List.take_left' hll
    · rw [hll]; simp
  · exfalso
    have : prA l ≠ [] := fun e => by rw [e] at hll; simp at hll; omega
    exact absurd (hb this) (by decide)
theorem c_clone0Pair : FnOK Try.prog D 89 [.sl (.nd [.lf, .lf]) [] .ro] [] (fun r st => r = .sl (.nd [.lf, .lf]) [] .ex ∧ st = []) := by
  refine fnok_of_Ws [7] hmix tabOK Try.func89 rfl rfl (Nat.le_of_ble_eq_true rfl) ?_
  conv => whnf
  intro b hb
  cases b
  · conv => whnf
    refine ⟨false, [], ?_⟩
    conv => whnf
    exact ⟨rfl, rfl⟩
  · conv => whnf
    refine ⟨false, [], ?_⟩
    conv => whnf
    exact ⟨rfl, rfl⟩
theorem c_delPair (cap n i : Nat) (L : List AV) (hL : L.length = cap) (hn : n ≤ cap) (hi : i < n) (hb : n < 4294967296) : FnOK Try.prog D 91 [.bs 0 [] (.nd [.lf, .lf]) 0 n cap, (AV.sc (.int .i64 ((i : Int)))), (AV.sc (.int .i64 ((i : Int) + 1)))] [.ar cap (.nd [.lf, .lf]) L] (fun r st => r = .bs 0 [] (.nd [.lf, .lf]) 0 (n - 1) cap ∧ st = [.ar cap (.nd [.lf, .lf]) (del1 L i n (AV.st [.sc (.string .empty), .sc (.string .empty)]))]) := by
  refine fnok_of_W hmix tabOK Try.func91 rfl rfl (Nat.le_of_ble_eq_true rfl) ?_
  conv => whnf
  repeat (refine And.intro (by first | omega) ?_; conv => whnf)
  refine Branch.of (fun hh => ?_) (fun hh => ?_)
  · exfalso; simp only [gt_iff_lt, ge_iff_le, decide_eq_true_eq, decide_eq_false_iff_not, beq_iff_eq, beq_eq_false_iff_ne, bne_iff_ne, bne_eq_false_iff_eq, ne_eq] at hh; first | done | omega | (simp at hh; done)
  try rw [hh]
  clear hh
  conv => whnf
  refine ⟨tabF91R5, by decide +kernel, ?_⟩
  conv => whnf
  repeat (refine And.intro (by first | omega) ?_; conv => whnf)
  have e1 : ((i : Int) + 1).toNat = i + 1 := by omega
  have hl : (List.take (n - (i + 1)) (List.drop (i + 1) L)).length = n - (i + 1) := by rw [List.length_take, List.length_drop]; omega
  simp only [Int.toNat_natCast, Nat.sub_zero, Nat.zero_add, Nat.add_zero, e1]
  refine ⟨by omega, ?_⟩
  conv => whnf
  simp only [hl, show i + (n - (i + 1)) = n - 1 by omega]
  repeat (refine And.intro (by first | omega) ?_; conv => whnf)
  refine ⟨false, [], ?_⟩
  conv => whnf
  refine ⟨rfl, ?_⟩
  congr 2
  simp only [Int.toNat_natCast, Nat.zero_add, List.length_replicate, show n - (n - 1) = 1 by omega]
  exact del1_of hi (by omega)
theorem szPair : (Try.prog.info? 78).map (·.size) = some 2 := by kernel_rfl
theorem c_ovPair (x : Pr) (X : List AV) (hX : X = [(AV.st [.sc (.string (strB (x).key)), .sc (.string (strB (x).val))])]) (off len cap n : Nat) (L : List AV) : FnOK Try.prog D 117 [.sl (.nd [.lf, .lf]) X .ex, .bs 0 [] (.nd [.lf, .lf]) off len cap] [.ar n (.nd [.lf, .lf]) L] (fun r st => r = (AV.sc (.bool (false))) ∧ st = [.ar n (.nd [.lf, .lf]) L]) := by
  obtain ⟨j, hj, hs⟩ := Option.map_eq_some_iff.1 szPair
  subst hX
  exact FnOK.overlaps (tS := 76) (tR := 4) (e := 78) Try.func117 (by kernel_rfl) (by kernel_rfl) (by kernel_rfl) (by kernel_rfl) (by kernel_rfl) (by decide) (fun w => by rw [run_sizeOf' hj, hs]; rfl) (.inl rfl)
theorem c_insPair_aux (cap n i : Nat) (L : List AV) (x : Pr) (X : List AV) (hX : X = [(AV.st [.sc (.string (strB (x).key)), .sc (.string (strB (x).val))])]) (hL : L.length = cap) (hn : n ≤ cap) (hi : i ≤ n) (hb : n + 1 < 4294967296) : FnOK Try.prog D 90 [.bs 0 [] (.nd [.lf, .lf]) 0 n cap, (AV.sc (.int .i64 ((i : Int)))), .sl (.nd [.lf, .lf]) X .ex] [.ar cap (.nd [.lf, .lf]) L]
    (fun r st => ∃ (cap' : Nat) (L' : List AV), n + 1 ≤ cap' ∧ L'.length = cap' ∧ L'.take (n + 1) = L.take i ++ X ++ (L.drop i).take (n - i) ∧
      ((r = .bs 0 [] (.nd [.lf, .lf]) 0 (n + 1) cap' ∧ st = [.ar cap' (.nd [.lf, .lf]) L']) ∨ (r = .bs 1 [] (.nd [.lf, .lf]) 0 (n + 1) cap' ∧ st = [.ar cap (.nd [.lf, .lf]) L, .ar cap' (.nd [.lf, .lf]) L']))) := by
  have hx1 : X.length = 1 := by rw [hX]; rfl
  refine fnok_of_Ws [25, 40, 67] hmix tabOK Try.func90 rfl rfl (Nat.le_of_ble_eq_true rfl) ?_
  conv => whnf
  repeat (refine And.intro (by first | omega) ?_; conv => whnf)
  rw [hx1]
  conv => whnf
  refine Branch.of (fun h1 => ?_) (fun h1 => ?_) <;> rw [h1] <;> conv => whnf
  · simp only [beq_iff_eq] at h1
    obtain rfl : i = n := by omega
    rw [hx1]
    refine Branch.of (fun h2 => ?_) (fun h2 => ?_)
    · rw [Nat.ble_eq] at h2
      conv => whnf
      refine ⟨false, [], ?_⟩
      conv => whnf
      refine ⟨cap, _, h2, ?_, ?_, .inl ⟨rfl, rfl⟩⟩
      · simp only [List.length_append, List.length_take, List.length_drop, hx1]
        omega
      · rw [hx1, Nat.zero_add, Nat.sub_self, List.take_zero, List.append_nil, List.take_append_of_le_length (by simp [hx1]; omega), List.take_of_length_le (by simp [hx1]; omega)]
    · have h2 := ble_no h2
      conv => whnf
      rw [hx1]
      refine ⟨by omega, fun cap' hc => ?_⟩
      conv => whnf
      refine ⟨false, [1], ?_⟩
      conv => whnf
      refine ⟨cap', _, hc, ?_, ?_, .inr ⟨rfl, rfl⟩⟩
      · simp only [List.length_append, List.length_take, List.length_drop, hx1, List.length_replicate]
        omega
      · rw [Nat.sub_self, List.take_zero, List.append_nil, List.drop_zero, List.take_append_of_le_length (by simp [hx1]; omega), List.take_of_length_le (by simp [hx1]; omega)]
  simp only [beq_eq_false_iff_ne, ne_eq] at h1
  have hin : i < n := by omega
  rw [w64 (x := (n : Int) + ((1 : Nat) : Int)) (by omega) (by omega)]
  refine Branch.of (fun h2 => ?_) (fun h2 => ?_) <;> rw [h2] <;> conv => whnf
  · simp only [gt_iff_lt, decide_eq_true_eq] at h2
    repeat (refine And.intro (by first | omega) ?_; conv => whnf)
    rw [w64 (x := (n : Int) + ((1 : Nat) : Int)) (by omega) (by omega), w64 (x := (n : Int) + ((1 : Nat) : Int) - (i : Int)) (by omega) (by omega)]
    repeat (refine And.intro (by first | omega) ?_; conv => whnf)
    rw [show ((n : Int) + ((1 : Nat) : Int) - (i : Int)).toNat = n + 1 - i by omega, Int.toNat_natCast, Nat.sub_zero]
    conv => whnf
    rw [List.length_replicate]
    refine Branch.no (by cases e : Nat.ble (i + (n + 1 - i)) cap with | false => rfl | true => rw [Nat.ble_eq] at e; omega) ?_
    conv => whnf
    rw [List.length_replicate]
    refine ⟨by omega, fun cap' hc => ?_⟩
    conv => whnf
    repeat (refine And.intro (by first | omega) ?_; conv => whnf)
    have hni : i + (n + 1 - i) = n + 1 := by omega
    rw [hni] at hc
    simp only [Int.toNat_natCast, Nat.add_zero, Nat.zero_add, Nat.sub_zero, List.drop_zero, hni]
    generalize hA : List.take i L ++ List.replicate (n + 1 - i) (AV.st [.sc (.string .empty), .sc (.string .empty)]) ++ List.replicate (cap' - (n + 1)) (AV.st [.sc (.string .empty), .sc (.string .empty)]) = A
    have hAl : A.length = cap' := by
      rw [← hA]
      simp only [List.length_append, List.length_take, List.length_replicate]
      omega
    have hAi : A.take i = L.take i := by
      rw [← hA, List.append_assoc]
      exact List.take_left' (by rw [List.length_take]; omega)
    clear hA
    rw [ar_sh]
    conv => whnf
    refine ⟨tabF90R11, by decide +kernel, ?_⟩
    conv => whnf
    rw [w64 (x := (i : Int) + ((1 : Nat) : Int)) (by omega) (by omega)]
    repeat (refine And.intro (by first | omega) ?_; conv => whnf)
    simp only [Int.toNat_natCast, Nat.add_zero, Nat.zero_add, Nat.sub_zero, show ((i : Int) + ((1 : Nat) : Int)).toNat = i + 1 by omega]
    rw [ar_sh]
    conv => whnf
    refine ⟨false, [1], ?_⟩
    conv => whnf
    have hY : (List.take (n - i) (List.drop i L)).length = n - i := by rw [List.length_take, List.length_drop]; omega
    have hXt : List.take (n + 1 - i) X = X := List.take_of_length_le (by omega)
    rw [hXt, hx1, hY, List.take_of_length_le (l := List.take (n - i) (List.drop i L)) (by rw [hY]; omega), show min 1 (n + 1 - i) = 1 by omega, show min (n - i) (n + 1 - (i + 1)) = n - i by omega, hAi]
    have hP : (List.take i L ++ X).length = i + 1 := by rw [List.length_append, List.length_take, hx1]; omega
    rw [List.take_left' hP]
    refine ⟨cap', _, hc, ?_, ?_, .inr ⟨rfl, rfl⟩⟩
    · simp only [List.length_append, List.length_take, List.length_drop, hx1]
      omega
    · exact List.take_left' (by rw [List.length_append, hP, hY]; omega)
  simp only [gt_iff_lt, decide_eq_false_iff_not] at h2
  rw [w64 (x := (n : Int) + ((1 : Nat) : Int)) (by omega) (by omega)]
  repeat (refine And.intro (by first | omega) ?_; conv => whnf)
  simp only [Int.toNat_natCast, Nat.add_zero, Nat.zero_add, Nat.sub_zero, show ((n : Int) + ((1 : Nat) : Int)).toNat = n + 1 by omega]
  rw [w64 (x := (i : Int) + ((1 : Nat) : Int)) (by omega) (by omega)]
  repeat (refine And.intro (by first | omega) ?_; conv => whnf)
  simp only [Int.toNat_natCast, Nat.add_zero, Nat.zero_add, Nat.sub_zero, show ((i : Int) + ((1 : Nat) : Int)).toNat = i + 1 by omega]
  conv => whnf
  refine (c_ovPair x X hX _ _ _ _ _).mono fun r st e => ?_
  obtain ⟨rfl, rfl⟩ := e
  conv => whnf
  refine ⟨tabF90R15, by decide +kernel, ?_⟩
  conv => whnf
  rw [w64 (x := (i : Int) + ((1 : Nat) : Int)) (by omega) (by omega)]
  repeat (refine And.intro (by first | omega) ?_; conv => whnf)
  simp only [Int.toNat_natCast, Nat.add_zero, Nat.zero_add, Nat.sub_zero, show ((i : Int) + ((1 : Nat) : Int)).toNat = i + 1 by omega]
  rw [ar_sh]
  conv => whnf
  repeat (refine And.intro (by first | omega) ?_; conv => whnf)
  simp only [Int.toNat_natCast, Nat.add_zero, Nat.zero_add, Nat.sub_zero]
  rw [ar_sh]
  conv => whnf
  refine ⟨false, [], ?_⟩
  conv => whnf
  have hY : (List.take (n - i) (List.drop i L)).length = n - i := by rw [List.length_take, List.length_drop]; omega
  have hZ : List.take (n + 1 - (i + 1)) (List.take (n + 1 - i) (List.drop i L)) = List.take (n - i) (List.drop i L) := by rw [List.take_take]; congr 1; omega
  have hXt : List.take (n + 1 - i) X = X := List.take_of_length_le (by omega)
  have hQ : (List.take (i + 1) L).length = i + 1 := by rw [List.length_take]; omega
  have hQ2 : (List.take (i + 1) L ++ List.take (n - i) (List.drop i L)).length = n + 1 := by rw [List.length_append, hQ, hY]; omega
  have hP : (List.take i L ++ X).length = i + 1 := by rw [List.length_append, List.length_take, hx1]; omega
  rw [hXt, hx1, hZ, show min 1 (n + 1 - i) = 1 by omega]
  refine ⟨cap, _, by omega, ?_, ?_, .inl ⟨rfl, rfl⟩⟩
  · simp only [List.length_append, List.length_take, List.length_drop, hx1]
    omega
  · have hB : List.take i (List.take (i + 1) L) = List.take i L := by rw [List.take_take, Nat.min_eq_left (by omega)]
    rw [List.append_assoc (List.take (i + 1) L), List.drop_left' hQ, List.take_append_of_le_length (l₁ := List.take (i + 1) L) (by omega), hB, ← List.append_assoc]
    exact List.take_left' (by rw [List.length_append, hP, hY]; omega)
theorem c_insPair (cap n i : Nat) (L : List AV) (x : Pr) (hL : L.length = cap) (hn : n ≤ cap) (hi : i ≤ n) (hb : n + 1 < 4294967296) : FnOK Try.prog D 90 [.bs 0 [] (.nd [.lf, .lf]) 0 n cap, (AV.sc (.int .i64 ((i : Int)))), .sl (.nd [.lf, .lf]) [(AV.st [.sc (.string (strB (x).key)), .sc (.string (strB (x).val))])] .ex] [.ar cap (.nd [.lf, .lf]) L]
    (fun r st => ∃ (cap' : Nat) (L' : List AV), n + 1 ≤ cap' ∧ L'.length = cap' ∧ L'.take (n + 1) = L.take i ++ [(AV.st [.sc (.string (strB (x).key)), .sc (.string (strB (x).val))])] ++ (L.drop i).take (n - i) ∧
      ((r = .bs 0 [] (.nd [.lf, .lf]) 0 (n + 1) cap' ∧ st = [.ar cap' (.nd [.lf, .lf]) L']) ∨ (r = .bs 1 [] (.nd [.lf, .lf]) 0 (n + 1) cap' ∧ st = [.ar cap (.nd [.lf, .lf]) L, .ar cap' (.nd [.lf, .lf]) L']))) :=
  c_insPair_aux cap n i L x _ rfl hL hn hi hb
theorem c_ins0Pair (x : Pr) : FnOK Try.prog D 90 [.sl (.nd [.lf, .lf]) [] .ex, (AV.sc (.int .i64 (0))), .sl (.nd [.lf, .lf]) [(AV.st [.sc (.string (strB (x).key)), .sc (.string (strB (x).val))])] .ex] []
    (fun r st => r = .sl (.nd [.lf, .lf]) [(AV.st [.sc (.string (strB (x).key)), .sc (.string (strB (x).val))])] (.own 0) ∧ st = []) := by
  refine fnok_of_W hmix tabOK Try.func90 rfl rfl (Nat.le_of_ble_eq_true rfl) ?_
  conv => whnf
  repeat (refine And.intro (by first | omega) ?_; conv => whnf)
  refine And.intro (by simp) ?_
  conv => whnf
  refine ⟨false, [], ?_⟩
  conv => whnf
  exact ⟨rfl, rfl⟩
theorem c_binPair (l : List Pr) (k : List UInt8) (hs : srtP l) (hl : l.length < 4294967296) : FnOK Try.prog D 114 [(AV.sl (.nd [.lf, .lf]) (prA (l)) .ro), (AV.sc (.string (strB (k)))), .fn 115 []] [] (fun r st => r = .tup [(AV.sc (.int .i64 ((lo Pr.key slt l k : Int)))), (AV.sc (.bool ((getL Pr.key l k).isSome)))] ∧ st = []) := by
  have hll := lenPr l
  have hlo : lo Pr.key slt l k ≤ l.length := lo_le
  refine fnok_of_W hmix tabOK Try.func114 rfl rfl (Nat.le_of_ble_eq_true rfl) ?_
  conv => whnf
  rw [hll]
  refine ⟨false, [0, 1, 2, 8, 9, 10], fun τ => ∃ i j : Nat, i ≤ lo Pr.key slt l k ∧ lo Pr.key slt l k ≤ j ∧ j ≤ l.length ∧ τ = ⟨49, [(0, (AV.sl (.nd [.lf, .lf]) (prA (l)) .ro)), (1, (AV.sc (.string (strB (k))))), (2, .fn 115 []), (8, (AV.sc (.int .i64 ((l.length : Int))))), (9, (AV.sc (.int .i64 ((i : Int))))), (10, (AV.sc (.int .i64 ((j : Int)))))], ⟨[], [], 0⟩⟩, fun τ => (slotI τ 10).toNat - (slotI τ 9).toNat, ?_, ?_⟩
  · conv => whnf
    exact ⟨0, l.length, by omega, hlo, by omega, rfl⟩
  rintro τ ⟨i, j, h1, h2, h3, rfl⟩
  conv => whnf
  refine Branch.of (fun h4 => ?_) (fun h4 => ?_) <;> rw [h4] <;> conv => whnf
  · simp only [decide_eq_true_eq] at h4
    have hij : i < j := by omega
    rw [w64 (x := (i : Int) + (j : Int)) (by omega) (by omega), wu64 (x := (i : Int) + (j : Int)) (by omega) (by omega)]
    repeat (refine And.intro (by first | omega) ?_; conv => whnf)
    obtain ⟨h, hh⟩ : ∃ h : Nat, h = (i + j) / 2 := ⟨_, rfl⟩
    have e1 : IntKind.i64.wrap (Int.fdiv ((i : Int) + (j : Int)) (2 ^ min (Int.toNat 1) IntKind.u64.bits)) = (h : Int) := by
      rw [show (2 : Int) ^ min (Int.toNat 1) IntKind.u64.bits = 2 by decide, Int.fdiv_eq_ediv_of_nonneg _ (by omega), w64 (by omega) (by omega)]
      omega
    rw [e1]
    have hil : h < l.length := by omega
    repeat (refine And.intro (by first | omega) ?_; conv => whnf)
    refine ⟨_, atPr hil, ?_⟩
    conv => whnf
    refine (c_kfind1 l[h] k).mono fun r st e => ?_
    obtain ⟨rfl, rfl⟩ := e
    conv => whnf
    rw [cmpS_lt, at_lo sLin k hs h hil]
    by_cases hc : h < lo Pr.key slt l k
    · rw [decide_eq_true hc]
      conv => whnf
      rw [w64 (x := (h : Int) + 1) (by omega) (by omega)]
      refine ⟨⟨h + 1, j, by omega, by omega, by omega, rfl⟩, ?_⟩
      show (j : Int).toNat - ((h : Int) + 1).toNat < (j : Int).toNat - (i : Int).toNat
      omega
    · rw [decide_eq_false hc]
      conv => whnf
      refine ⟨⟨i, h, by omega, by omega, by omega, rfl⟩, ?_⟩
      show (h : Int).toNat - (i : Int).toNat < (j : Int).toNat - (i : Int).toNat
      omega
  · simp only [decide_eq_false_iff_not] at h4
    have hij : i = lo Pr.key slt l k := by omega
    subst hij
    have hk := at_key sLin k hs
    refine Branch.of (fun h5 => ?_) (fun h5 => ?_) <;> rw [h5] <;> conv => whnf
    · simp only [decide_eq_true_eq] at h5
      have hil : lo Pr.key slt l k < l.length := by omega
      repeat (refine And.intro (by first | omega) ?_; conv => whnf)
      refine ⟨_, atPr hil, ?_⟩
      conv => whnf
      refine (c_kfind1 l[lo Pr.key slt l k] k).mono fun r st e => ?_
      obtain ⟨rfl, rfl⟩ := e
      conv => whnf
      rw [cmpS_eq]
      by_cases hc : l[lo Pr.key slt l k].key = k
      · have := hk.1 ⟨hil, hc⟩
        rw [decide_eq_true hc]
        conv => whnf
        refine ⟨false, [], ?_⟩
        conv => whnf
        rw [this]
        exact ⟨rfl, rfl⟩
      · have : (getL Pr.key l k).isSome = false := by
          cases e : (getL Pr.key l k).isSome with
          | false => rfl
          | true => obtain ⟨_, h7⟩ := hk.2 e; exact absurd h7 hc
        rw [decide_eq_false hc]
        conv => whnf
        refine ⟨false, [], ?_⟩
        conv => whnf
        rw [this]
        exact ⟨rfl, rfl⟩
    · simp only [decide_eq_false_iff_not] at h5
      have : (getL Pr.key l k).isSome = false := by
        cases e : (getL Pr.key l k).isSome with
        | false => rfl
        | true => obtain ⟨h6, _⟩ := hk.2 e; omega
      refine ⟨false, [], ?_⟩
      conv => whnf
      rw [this]
      exact ⟨rfl, rfl⟩
theorem c_binBPair (l : List Pr) (k : List UInt8) (L : List AV) (cap : Nat) (hs : srtP l) (hl : l.length < 4294967296) (hc : l.length ≤ cap) (hL : L.take l.length = prA l) : FnOK Try.prog D 114 [.bs 0 [] (.nd [.lf, .lf]) 0 l.length cap, (AV.sc (.string (strB (k)))), .fn 115 []] [.ar cap (.nd [.lf, .lf]) L] (fun r st => r = .tup [(AV.sc (.int .i64 ((lo Pr.key slt l k : Int)))), (AV.sc (.bool ((getL Pr.key l k).isSome)))] ∧ st = [.ar cap (.nd [.lf, .lf]) L]) := by
  have hlo : lo Pr.key slt l k ≤ l.length := lo_le
  refine fnok_of_W hmix tabOK Try.func114 rfl rfl (Nat.le_of_ble_eq_true rfl) ?_
  conv => whnf
  refine ⟨false, [0, 1, 2, 8, 9, 10], fun τ => ∃ i j : Nat, i ≤ lo Pr.key slt l k ∧ lo Pr.key slt l k ≤ j ∧ j ≤ l.length ∧ τ = ⟨49, [(0, .bs 0 [] (.nd [.lf, .lf]) 0 l.length cap), (1, (AV.sc (.string (strB (k))))), (2, .fn 115 []), (8, (AV.sc (.int .i64 ((l.length : Int))))), (9, (AV.sc (.int .i64 ((i : Int))))), (10, (AV.sc (.int .i64 ((j : Int)))))], ⟨[(.ar cap (.nd [.lf, .lf]) L, false)], [], 0⟩⟩, fun τ => (slotI τ 10).toNat - (slotI τ 9).toNat, ?_, ?_⟩
  · conv => whnf
    exact ⟨0, l.length, by omega, hlo, by omega, rfl⟩
  rintro τ ⟨i, j, h1, h2, h3, rfl⟩
  conv => whnf
  refine Branch.of (fun h4 => ?_) (fun h4 => ?_) <;> rw [h4] <;> conv => whnf
  · simp only [decide_eq_true_eq] at h4
    have hij : i < j := by omega
    rw [w64 (x := (i : Int) + (j : Int)) (by omega) (by omega), wu64 (x := (i : Int) + (j : Int)) (by omega) (by omega)]
    repeat (refine And.intro (by first | omega) ?_; conv => whnf)
    obtain ⟨h, hh⟩ : ∃ h : Nat, h = (i + j) / 2 := ⟨_, rfl⟩
    have e1 : IntKind.i64.wrap (Int.fdiv ((i : Int) + (j : Int)) (2 ^ min (Int.toNat 1) IntKind.u64.bits)) = (h : Int) := by
      rw [show (2 : Int) ^ min (Int.toNat 1) IntKind.u64.bits = 2 by decide, Int.fdiv_eq_ediv_of_nonneg _ (by omega), w64 (by omega) (by omega)]
      omega
    rw [e1]
    have hil : h < l.length := by omega
    repeat (refine And.intro (by first | omega) ?_; conv => whnf)
    refine ⟨_, show L[0 + ((h : Nat) : Int).toNat]? = some (AV.st [.sc (.string (strB (l[h]).key)), .sc (.string (strB (l[h]).val))]) by rw [Nat.zero_add, Int.toNat_natCast, at_take hL hil]; simp [prA, hil], ?_⟩
    conv => whnf
    refine (c_kfind1 l[h] k).mono fun r st e => ?_
    obtain ⟨rfl, rfl⟩ := e
    conv => whnf
    rw [cmpS_lt, at_lo sLin k hs h hil]
    by_cases hc : h < lo Pr.key slt l k
    · rw [decide_eq_true hc]
      conv => whnf
      rw [w64 (x := (h : Int) + 1) (by omega) (by omega)]
      refine ⟨⟨h + 1, j, by omega, by omega, by omega, rfl⟩, ?_⟩
      show (j : Int).toNat - ((h : Int) + 1).toNat < (j : Int).toNat - (i : Int).toNat
      omega
    · rw [decide_eq_false hc]
      conv => whnf
      refine ⟨⟨i, h, by omega, by omega, by omega, rfl⟩, ?_⟩
      show (h : Int).toNat - (i : Int).toNat < (j : Int).toNat - (i : Int).toNat
      omega
  · simp only [decide_eq_false_iff_not] at h4
    have hij : i = lo Pr.key slt l k := by omega
    subst hij
    have hk := at_key sLin k hs
    refine Branch.of (fun h5 => ?_) (fun h5 => ?_) <;> rw [h5] <;> conv => whnf
    · simp only [decide_eq_true_eq] at h5
      have hil : lo Pr.key slt l k < l.length := by omega
      repeat (refine And.intro (by first | omega) ?_; conv => whnf)
      refine ⟨_, show L[0 + ((lo Pr.key slt l k : Nat) : Int).toNat]? = some (AV.st [.sc (.string (strB (l[lo Pr.key slt l k]).key)), .sc (.string (strB (l[lo Pr.key slt l k]).val))]) by rw [Nat.zero_add, Int.toNat_natCast, at_take hL hil]; simp [prA, hil], ?_⟩
      conv => whnf
      refine (c_kfind1 l[lo Pr.key slt l k] k).mono fun r st e => ?_
      obtain ⟨rfl, rfl⟩ := e
      conv => whnf
      rw [cmpS_eq]
      by_cases hc : l[lo Pr.key slt l k].key = k
      · have := hk.1 ⟨hil, hc⟩
        rw [decide_eq_true hc]
        conv => whnf
        refine ⟨false, [], ?_⟩
        conv => whnf
        rw [this]
        exact ⟨rfl, rfl⟩
      · have : (getL Pr.key l k).isSome = false := by
          cases e : (getL Pr.key l k).isSome with
          | false => rfl
          | true => obtain ⟨_, h7⟩ := hk.2 e; exact absurd h7 hc
        rw [decide_eq_false hc]
        conv => whnf
        refine ⟨false, [], ?_⟩
        conv => whnf
        rw [this]
        exact ⟨rfl, rfl⟩
    · simp only [decide_eq_false_iff_not] at h5
      have : (getL Pr.key l k).isSome = false := by
        cases e : (getL Pr.key l k).isSome with
        | false => rfl
        | true => obtain ⟨h6, _⟩ := hk.2 e; omega
      refine ⟨false, [], ?_⟩
      conv => whnf
      rw [this]
      exact ⟨rfl, rfl⟩
end Go.WL.T5
