/- Which block bytes are, by the program. No condition. -/
import Derived.Test.YtcmdkiejkheahaaDoorPart29
set_option linter.unusedVariables false
set_option linter.unusedSimpArgs false
namespace Go.WL.T6d
open Go.WL Go.Proofs
set_option maxRecDepth 20000
set_option maxHeartbeats 8000000
def hsh (s : RS) : List UInt8 × RS := ((rhash s.1 s.2).1, (rhash s.1 s.2).2.1, (rhash s.1 s.2).2.2)
theorem c_hsh (s : RS) (hs : s.1.length < 1000000000) : FnOK Tryd.prog D 80 [.pt 0 []] [.st [(AV.sl .lf (by8 (s.1)) .ro), (AV.sc (.bool (s.2)))]] (fun r st => r = .ar 32 .lf (by8 (hsh s).1) ∧ st = [.st [(AV.sl .lf (by8 ((hsh s).2.1)) .ro), (AV.sc (.bool ((hsh s).2.2)))]]) := c_rhash s.1 s.2 (by omega)
theorem hsh_len (s : RS) : (hsh s).1.length = 32 ∧ (hsh s).2.1.length ≤ s.1.length := by
  unfold hsh rhash
  split
  · simp
  · rename_i c
    simp only [not_or, Nat.not_lt] at c
    simp only [List.length_take, List.length_drop]
    omega
def rdTxs : Nat → RS → Option (List Tx × RS)
  | 0, s => some ([], s)
  | n + 1, s => if readOK s = true then (rdTxs n (rawF s).2).map fun x => ((rawF s).1 :: x.1, x.2) else none
theorem rawF_len (s : RS) : (rawF s).2.1.length ≤ s.1.length := by
  have u := up_len
  have x := fun s => (tex_len s).1
  have a := u s 40
  have b := u (up s 40).2 1099511627776
  have c := u (up (up s 40).2 1099511627776).2 3
  unfold rawF
  simp only
  split
  · have d := u (up (up (up s 40).2 1099511627776).2 3).2 40
    have e := u (up (up (up (up s 40).2 1099511627776).2 3).2 40).2 1099511627776
    simp only
    omega
  · split
    · have d := x (up (up (up s 40).2 1099511627776).2 3).2
      have e := x (tex (up (up (up s 40).2 1099511627776).2 3).2).2
      simp only
      omega
    · split
      · have d := x (up (up (up s 40).2 1099511627776).2 3).2
        simp only
        omega
      · simp only
        omega
theorem up_wrong {s : RS} (top : Int) (h : s.2 = true) : (up s top).2.2 = true := by
  unfold up rupto
  rw [if_pos (.inl h)]
theorem tex_wrong {s : RS} (h : s.2 = true) : (tex s).2.2 = true := by
  unfold tex rtext
  rw [if_pos (.inl h)]
theorem raw_wrong {s : RS} (h : s.2 = true) : (rawF s).2.2 = true := by
  have c := up_wrong 3 (up_wrong 1099511627776 (up_wrong 40 h))
  unfold rawF
  simp only
  split
  · exact up_wrong _ (up_wrong _ c)
  · split
    · exact tex_wrong (tex_wrong c)
    · split
      · exact tex_wrong c
      · exact c
theorem c_bget_aux (T : List UInt8) (s0 s1 s2 s3 s4 s5 : RS) (p : List UInt8) (v h y n : Nat) (hT : T.length < 100000000) (hs : s5.1.length ≤ T.length) (hn : n ≤ 8) (hp : p.length = 32) (G : Bl) (ok : Bool)
    (cr : FnOK Tryd.prog D 20 [(AV.sl .lf (by8 (T)) .ro)] [] (fun r st => r = .pt 0 [] ∧ st = [.st [(AV.sl .lf (by8 (s0.1)) .ro), (AV.sc (.bool (s0.2)))]]))
    (ch : FnOK Tryd.prog D 80 [.pt 0 []] [.st [(AV.sl .lf (by8 (s0.1)) .ro), (AV.sc (.bool (s0.2)))]] (fun r st => r = .ar 32 .lf (by8 p) ∧ st = [.st [(AV.sl .lf (by8 (s1.1)) .ro), (AV.sc (.bool (s1.2)))]]))
    (c1 : FnOK Tryd.prog D 76 [.pt 0 [], (AV.sc (.int .i64 (1099511627776)))] [.st [(AV.sl .lf (by8 (s1.1)) .ro), (AV.sc (.bool (s1.2)))]] (fun r st => r = (AV.sc (.int .i64 ((v : Int)))) ∧ st = [.st [(AV.sl .lf (by8 (s2.1)) .ro), (AV.sc (.bool (s2.2)))]]))
    (c2 : FnOK Tryd.prog D 76 [.pt 0 [], (AV.sc (.int .i64 (1099511627776)))] [.st [(AV.sl .lf (by8 (s2.1)) .ro), (AV.sc (.bool (s2.2)))]] (fun r st => r = (AV.sc (.int .i64 ((h : Int)))) ∧ st = [.st [(AV.sl .lf (by8 (s3.1)) .ro), (AV.sc (.bool (s3.2)))]]))
    (c3 : FnOK Tryd.prog D 76 [.pt 0 [], (AV.sc (.int .i64 (21)))] [.st [(AV.sl .lf (by8 (s3.1)) .ro), (AV.sc (.bool (s3.2)))]] (fun r st => r = (AV.sc (.int .i64 ((y : Int)))) ∧ st = [.st [(AV.sl .lf (by8 (s4.1)) .ro), (AV.sc (.bool (s4.2)))]]))
    (c4 : FnOK Tryd.prog D 76 [.pt 0 [], (AV.sc (.int .i64 (8)))] [.st [(AV.sl .lf (by8 (s4.1)) .ro), (AV.sc (.bool (s4.2)))]] (fun r st => r = (AV.sc (.int .i64 ((n : Int)))) ∧ st = [.st [(AV.sl .lf (by8 (s5.1)) .ro), (AV.sc (.bool (s5.2)))]]))
    (hno : rdTxs n s5 = none → G = b0 ∧ ok = false)
    (hyes : ∀ l z, rdTxs n s5 = some (l, z) → shortK l ∧ l.length ≤ 8 ∧ ((z.2 = false ∧ z.1 = [] ∧ mayB ⟨p, v, h, y, l⟩ = true ∧ G = ⟨p, v, h, y, l⟩ ∧ ok = true) ∨ ((z.2 = true ∨ z.1 ≠ [] ∨ mayB ⟨p, v, h, y, l⟩ = false) ∧ G = b0 ∧ ok = false))) :
    FnOK Tryd.prog D 24 [(AV.sl .lf (by8 (T)) .ro)] [] (fun r st => ((ok = true ∧ r = .tup [(AV.st [.ar 32 .lf (by8 (G).p), .sc (.int .i64 (G).v), .sc (.int .i64 (G).h), .sc (.int .i64 (G).by_), .sl (.nd [.lf, .lf, .lf, .lf, .lf, .lf, .lf]) (txsA (G).txs) .ro]), (AV.sc (.int .i64 (0)))]) ∨ (ok = false ∧ r = .tup [.st [.ar 32 .lf (List.replicate 32 (AV.sc (.int .u8 (0)))), (AV.sc (.int .i64 (0))), (AV.sc (.int .i64 (0))), (AV.sc (.int .i64 (0))), .sl (.nd [.lf, .lf, .lf, .lf, .lf, .lf, .lf]) [] .ex], (AV.sc (.int .i64 (2)))])) ∧ st = []) := by
  refine fnok_of_W hmix tabOK Tryd.func24 rfl rfl (Nat.le_of_ble_eq_true rfl) ?_
  conv => whnf
  refine (cr).mono fun r st e => ?_
  obtain ⟨rfl, rfl⟩ := e
  conv => whnf
  refine (ch).mono fun r st e => ?_
  obtain ⟨rfl, rfl⟩ := e
  conv => whnf
  refine (c1).mono fun r st e => ?_
  obtain ⟨rfl, rfl⟩ := e
  conv => whnf
  refine (c2).mono fun r st e => ?_
  obtain ⟨rfl, rfl⟩ := e
  conv => whnf
  refine (c3).mono fun r st e => ?_
  obtain ⟨rfl, rfl⟩ := e
  conv => whnf
  refine (c4).mono fun r st e => ?_
  obtain ⟨rfl, rfl⟩ := e
  conv => whnf
  refine ⟨true, [2, 4, 5, 20, 21], fun τ => ∃ (i : Nat) (l : List Tx) (s : RS), i ≤ n ∧ l.length = i ∧ s.1.length ≤ T.length ∧ rdTxs n s5 = (rdTxs (n - i) s).map (fun x => (l ++ x.1, x.2)) ∧ τ = ⟨48, [(2, .pt 0 []), (4, .pt 1 []), (5, .pt 2 []), (20, (AV.sc (.int .i64 ((n : Int))))), (21, (AV.sc (.int .i64 ((i : Int)))))], ⟨[(.st [.ar 32 .lf (List.replicate 32 (AV.sc (.int .u8 (0)))), (AV.sc (.int .i64 (0))), (AV.sc (.int .i64 (0))), (AV.sc (.int .i64 (0))), .sl (.nd [.lf, .lf, .lf, .lf, .lf, .lf, .lf]) [] (.own 0)], false), (.st [(AV.sl .lf (by8 (s.1)) .ro), (AV.sc (.bool (s.2)))], false), (.st [.ar 32 .lf (by8 p), (AV.sc (.int .i64 ((v : Int)))), (AV.sc (.int .i64 ((h : Int)))), (AV.sc (.int .i64 ((y : Int)))), .sl (.nd [.lf, .lf, .lf, .lf, .lf, .lf, .lf]) (txsA l) (.own 1)], false)], [0, 1], 2⟩⟩, fun τ => n - (slotI τ 21).toNat, ?_, ?_⟩
  · conv => whnf
    refine ⟨0, [], s5, by omega, rfl, hs, ?_, rfl⟩
    cases rdTxs n s5 <;> rfl
  rintro τ ⟨i, l, s, hi, hli, hsl, hrd, rfl⟩
  have hll := lenT l
  conv => whnf
  refine Branch.of (fun h1 => ?_) (fun h1 => ?_) <;> rw [h1] <;> conv => whnf
  · simp only [decide_eq_true_eq] at h1
    have hin : i < n := by omega
    obtain ⟨k, hk⟩ : ∃ k, n - i = k + 1 := ⟨n - i - 1, by omega⟩
    have e0 : rdTxs (n - i) s = if readOK s = true then (rdTxs k (rawF s).2).map fun x => ((rawF s).1 :: x.1, x.2) else none := by rw [hk]; rfl
    refine (c_txread s (by omega)).mono fun r st e => ?_
    obtain ⟨rfl, rfl⟩ := e
    conv => whnf
    cases hok : readOK s
    · rw [hok, if_neg (by simp)] at e0
      rw [e0] at hrd
      obtain ⟨rfl, rfl⟩ := hno hrd
      conv => whnf
      refine ⟨false, [], ?_⟩
      conv => whnf
      exact ⟨.inr ⟨rfl, rfl⟩, rfl⟩
    · rw [hok, if_pos rfl] at e0
      have eo : outT s = (rawF s).1 := by unfold outT; rw [hok, if_pos rfl]
      rw [eo]
      conv => whnf
      refine And.intro (by rw [hll]; show _ + 1 < _; omega) ?_
      conv => whnf
      rw [w64 (x := (i : Int) + 1) (by omega) (by omega)]
      refine ⟨⟨i + 1, l ++ [(rawF s).1], (rawF s).2, by omega, by simp [hli], by have := rawF_len s; omega, ?_, ?_⟩, ?_⟩
      · rw [hrd, e0, show n - (i + 1) = k by omega]
        cases rdTxs k (rawF s).2 <;> simp
      · rw [show txsA (l ++ [(rawF s).1]) = txsA l ++ [(AV.st [.sc (.int .i64 ((rawF s).1).f), .sc (.int .i64 ((rawF s).1).n), .sc (.int .i64 ((rawF s).1).k), .sc (.int .i64 ((rawF s).1).to), .sc (.int .i64 ((rawF s).1).am), .sc (.string (strB ((rawF s).1).key)), .sc (.string (strB ((rawF s).1).val))])] by simp [txsA]]
        rfl
      · show n - ((i : Int) + 1).toNat < n - (i : Int).toNat
        omega
  simp only [decide_eq_false_iff_not] at h1
  obtain rfl : i = n := by omega
  rw [Nat.sub_self] at hrd
  obtain ⟨hsk, hl8, hcase⟩ := hyes l s (by rw [hrd]; simp [rdTxs])
  have hlk : l.length < 4294967296 := by omega
  have ck := c_bcheck ⟨p, v, h, y, l⟩ hlk hsk
  refine (c_done s.1 s.2).mono fun r st e => ?_
  obtain ⟨rfl, rfl⟩ := e
  conv => whnf
  rcases hcase with ⟨h2, h3, h4, rfl, rfl⟩ | ⟨h2, rfl, rfl⟩
  · rw [h4] at ck
    rw [h2, h3]
    conv => whnf
    refine (ck).mono fun r st e => ?_
    obtain ⟨rfl, rfl⟩ := e
    conv => whnf
    refine ⟨false, [], ?_⟩
    conv => whnf
    exact ⟨.inl ⟨rfl, rfl⟩, rfl⟩
  · have done : (!s.2 && s.1.isEmpty) = false ∨ mayB ⟨p, v, h, y, l⟩ = false := by
      rcases h2 with h2 | h2 | h2
      · exact .inl (by rw [h2]; rfl)
      · exact .inl (by cases hs1 : s.1 with
          | nil => exact absurd hs1 h2
          | cons a b => simp)
      · exact .inr h2
    cases hd : (!s.2 && s.1.isEmpty)
    · conv => whnf
      refine ⟨false, [], ?_⟩
      conv => whnf
      exact ⟨.inr ⟨rfl, rfl⟩, rfl⟩
    · rcases done with h3 | h3
      · rw [hd] at h3; cases h3
      · rw [h3] at ck
        conv => whnf
        refine (ck).mono fun r st e => ?_
        obtain ⟨rfl, rfl⟩ := e
        conv => whnf
        refine ⟨false, [], ?_⟩
        conv => whnf
        exact ⟨.inr ⟨rfl, rfl⟩, rfl⟩
def rawB (s : RS) : Option (Bl × RS) :=
  let a := hsh s
  let b := up a.2 1099511627776
  let c := up b.2 1099511627776
  let d := up c.2 21
  let e := up d.2 8
  (rdTxs e.1 e.2).map fun x => (⟨a.1, b.1, c.1, d.1, x.1⟩, x.2)
def getB (T : List UInt8) : Bl × Bool := match rawB (T, false) with
  | some (b, z) => if z.2 = false ∧ z.1 = [] ∧ mayB b = true then (b, true) else (b0, false)
  | none => (b0, false)
theorem rdTxs_facts : ∀ (n : Nat) (s : RS) (l : List Tx) (z : RS), rdTxs n s = some (l, z) → l.length = n ∧ (∀ t ∈ l, mayT t = true) ∧ s.1 = txsB l ++ z.1 ∧ (0 < n → s.2 = false ∧ z.2 = false)
  | 0, s, l, z, h => by
    obtain ⟨rfl, rfl⟩ : [] = l ∧ s = z := by simpa [rdTxs] using h
    simp [txsB]
  | n + 1, s, l, z, h => by
    unfold rdTxs at h
    by_cases hok : readOK s = true
    · rw [if_pos hok] at h
      obtain ⟨x, hx, e⟩ := Option.map_eq_some_iff.1 h
      obtain ⟨rfl, rfl⟩ := Prod.mk.inj e
      have ih := rdTxs_facts n _ x.1 x.2 hx
      have rb := read_back hok
      have hw : (rawF s).2.2 = false := by
        unfold readOK at hok
        simp only [Bool.and_eq_true, Bool.not_eq_true'] at hok
        exact hok.1
      refine ⟨by simp [ih.1], fun t ht => ?_, ?_, fun _ => ⟨?_, ?_⟩⟩
      · rcases List.mem_cons.1 ht with rfl | ht
        · exact rb.1
        · exact ih.2.1 t ht
      · rw [rb.2, ih.2.2.1]
        show _ = txB (rawF s).1 ++ txsB x.1 ++ x.2.1
        rw [List.append_assoc]
      · cases hs : s.2
        · rfl
        · exfalso
          unfold readOK at hok
          simp only [Bool.and_eq_true, Bool.not_eq_true'] at hok
          have : (rawF s).2.2 = true := raw_wrong hs
          rw [this] at hok
          simp at hok
      · rcases Nat.eq_zero_or_pos n with h0 | h0
        · subst h0
          obtain ⟨_, e2⟩ : [] = x.1 ∧ (rawF s).2 = x.2 := by
            have : some (([] : List Tx), (rawF s).2) = some x := hx
            have := Option.some.inj this
            exact ⟨congrArg Prod.fst this, congrArg Prod.snd this⟩
          rw [← e2]
          exact hw
        · exact (ih.2.2.2 h0).2
    · rw [if_neg hok] at h
      cases h
theorem c_bget (T : List UInt8) (hT : T.length < 100000000) : FnOK Tryd.prog D 24 [(AV.sl .lf (by8 (T)) .ro)] [] (fun r st => (((getB T).2 = true ∧ r = .tup [(AV.st [.ar 32 .lf (by8 ((getB T).1).p), .sc (.int .i64 ((getB T).1).v), .sc (.int .i64 ((getB T).1).h), .sc (.int .i64 ((getB T).1).by_), .sl (.nd [.lf, .lf, .lf, .lf, .lf, .lf, .lf]) (txsA ((getB T).1).txs) .ro]), (AV.sc (.int .i64 (0)))]) ∨ ((getB T).2 = false ∧ r = .tup [.st [.ar 32 .lf (List.replicate 32 (AV.sc (.int .u8 (0)))), (AV.sc (.int .i64 (0))), (AV.sc (.int .i64 (0))), (AV.sc (.int .i64 (0))), .sl (.nd [.lf, .lf, .lf, .lf, .lf, .lf, .lf]) [] .ex], (AV.sc (.int .i64 (2)))])) ∧ st = []) := by
  have k0 := hsh_len (T, false)
  have k1 := up_len (hsh (T, false)).2 1099511627776
  have k2 := up_len (up (hsh (T, false)).2 1099511627776).2 1099511627776
  have k3 := up_len (up (up (hsh (T, false)).2 1099511627776).2 1099511627776).2 21
  have k4 := up_len (up (up (up (hsh (T, false)).2 1099511627776).2 1099511627776).2 21).2 8
  have k00 : (hsh (T, false)).2.1.length ≤ T.length := k0.2
  have n8 : (up (up (up (up (hsh (T, false)).2 1099511627776).2 1099511627776).2 21).2 8).1 ≤ 8 := by
    have := rupto_le (up (up (up (hsh (T, false)).2 1099511627776).2 1099511627776).2 21).2.1 (up (up (up (hsh (T, false)).2 1099511627776).2 1099511627776).2 21).2.2 8 (by decide)
    simp only [up] at *
    omega
  have e : rawB (T, false) = (rdTxs (up (up (up (up (hsh (T, false)).2 1099511627776).2 1099511627776).2 21).2 8).1 (up (up (up (up (hsh (T, false)).2 1099511627776).2 1099511627776).2 21).2 8).2).map fun x => (⟨(hsh (T, false)).1, (up (hsh (T, false)).2 1099511627776).1, (up (up (hsh (T, false)).2 1099511627776).2 1099511627776).1, (up (up (up (hsh (T, false)).2 1099511627776).2 1099511627776).2 21).1, x.1⟩, x.2) := rfl
  refine c_bget_aux T (T, false) _ _ _ _ _ _ _ _ _ _ hT (by omega) n8 k0.1 (getB T).1 (getB T).2 (c_read0 T (by omega)) (c_hsh (T, false) (by show T.length < _; omega)) (c_up _ _ (by decide) (by omega)) (c_up _ _ (by decide) (by omega)) (c_up _ _ (by decide) (by omega)) (c_up _ _ (by decide) (by omega)) (fun h => ?_) (fun l z h => ?_)
  · rw [h] at e
    unfold getB
    rw [e]
    exact ⟨rfl, rfl⟩
  · obtain ⟨f1, f2, f3, f4⟩ := rdTxs_facts _ _ l z h
    rw [h] at e
    refine ⟨fun t ht => by have := (may_facts (f2 t ht)).2.2.2.1; omega, by omega, ?_⟩
    unfold getB
    rw [e]
    simp only [Option.map_some]
    split
    · rename_i c
      exact .inl ⟨c.1, c.2.1, c.2.2, rfl, rfl⟩
    · rename_i c
      refine .inr ⟨?_, rfl, rfl⟩
      cases hz : z.2
      · by_cases hz2 : z.1 = []
        · refine .inr (.inr ?_)
          cases hm : mayB ⟨(hsh (T, false)).1, (up (hsh (T, false)).2 1099511627776).1, (up (up (hsh (T, false)).2 1099511627776).2 1099511627776).1, (up (up (up (hsh (T, false)).2 1099511627776).2 1099511627776).2 21).1, l⟩
          · rfl
          · exact absurd ⟨hz, hz2, hm⟩ c
        · exact .inr (.inl hz2)
      · exact .inl rfl
end Go.WL.T6d
