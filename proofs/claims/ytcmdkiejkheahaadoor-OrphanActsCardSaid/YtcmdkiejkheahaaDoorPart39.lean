/- Blocks whose parents are not there yet: whose are wanted, and all. No condition. -/
import Derived.Test.YtcmdkiejkheahaaDoorPart34
import Derived.Test.YtcmdkiejkheahaaDoorPart38
set_option linter.unusedVariables false
set_option linter.unusedSimpArgs false
namespace Go.WL.T6d
open Go.WL Go.Proofs
set_option maxRecDepth 20000
set_option maxHeartbeats 8000000
def wst (f : List UInt8 → Bool) (out : List (List UInt8)) (b : Bl) : List (List UInt8) := if f b.p = true ∨ out.any (fun h => h == b.p) = true then out else out ++ [b.p]
def wnt (f : List UInt8 → Bool) (l : List Bl) : List (List UInt8) := l.foldl (wst f) []
theorem wnt_succ (f : List UInt8 → Bool) (l : List Bl) (i : Nat) (h : i < l.length) : wnt f (l.take (i + 1)) = wst f (wnt f (l.take i)) l[i] := by
  unfold wnt
  rw [List.take_succ_eq_append_getElem h, List.foldl_append]
  rfl
theorem wst_le (f : List UInt8 → Bool) (out : List (List UInt8)) (b : Bl) : (wst f out b).length ≤ out.length + 1 := by
  unfold wst
  split
  · omega
  · simp
theorem wnt_le (f : List UInt8 → Bool) (l : List Bl) (i : Nat) : (wnt f (l.take i)).length ≤ i := by
  induction i with
  | zero => simp [wnt]
  | succ i ih =>
    by_cases h : i < l.length
    · rw [wnt_succ f l i h]
      have := wst_le f (wnt f (l.take i)) l[i]
      omega
    · rw [List.take_of_length_le (by omega)]
      rw [List.take_of_length_le (by omega)] at ih
      omega
theorem c_idxHs (l : List (List UInt8)) (h : List UInt8) (hl : l.length < 4294967295) : FnOK Tryd.prog D 123 [.sl (.ar 32 .lf) (hsA l) .ro, .ar 32 .lf (by8 h)] [] (fun r st => (∃ k : Int, r = (AV.sc (.int .i64 (k))) ∧ decide (k ≥ 0) = l.any fun x => x == h) ∧ st = []) := by
  refine fnok_of_W hmix tabOK Tryd.func123 rfl rfl (Nat.le_of_ble_eq_true rfl) ?_
  conv => whnf
  refine ⟨false, [0, 3, 7, 8], fun τ => ∃ i : Nat, i ≤ l.length ∧ ((l.take i).any fun x => x == h) = false ∧ τ = ⟨19, [(0, .sl (.ar 32 .lf) (hsA l) .ro), (3, .pt 0 []), (7, (AV.sc (.int .i64 ((l.length : Int))))), (8, (AV.sc (.int .i64 ((i : Int)))))], ⟨[(.ar 32 .lf (by8 h), false)], [], 0⟩⟩, fun τ => l.length - (slotI τ 8).toNat, ?_, ?_⟩
  · conv => whnf
    exact ⟨0, by omega, rfl, by rw [hs_len]; rfl⟩
  rintro τ ⟨i, hi, hn, rfl⟩
  apply enter3
  intro kk kK
  conv => whnf
  refine Branch.of (fun h1 => ?_) (fun h1 => ?_) <;> rw [h1] <;> conv => whnf
  rotate_left
  · have h1 := of_decide_eq_false h1
    obtain rfl : i = l.length := by omega
    rw [List.take_length] at hn
    refine kK _ _ ?_
    conv => whnf
    refine ⟨false, [], ?_⟩
    conv => whnf
    exact ⟨⟨-1, rfl, by rw [hn]; decide⟩, rfl⟩
  have h1 := of_decide_eq_true h1
  have ih : i < l.length := by omega
  have hat := hs_at ih
  conv => whnf
  refine ⟨tabF123R4, by decide +kernel, ?_⟩
  conv => whnf
  refine ⟨by omega, _, hat, ?_⟩
  conv => whnf
  refine ⟨h, l[i], rfl, rfl, ?_⟩
  conv => whnf
  cases he : (h == l[i]) with
  | true =>
    conv => whnf
    refine kK _ _ ?_
    conv => whnf
    refine ⟨false, [], ?_⟩
    conv => whnf
    refine ⟨⟨i, rfl, ?_⟩, rfl⟩
    rw [decide_eq_true (by omega)]
    exact (List.any_eq_true.2 ⟨l[i], List.getElem_mem ih, by rw [beq_iff_eq] at he ⊢; exact he.symm⟩).symm
  | false =>
    conv => whnf
    rw [w64 (x := (i : Int) + 1) (by omega) (by omega)]
    refine kK _ _ ?_
    conv => whnf
    refine ⟨⟨i + 1, by omega, ?_, rfl⟩, ?_⟩
    · rw [List.take_succ_eq_append_getElem ih, List.any_append, hn]
      have : (l[i] == h) = false := by
        rw [beq_eq_false_iff_ne] at he ⊢
        exact fun e => he e.symm
      simp [this]
    · show l.length - ((i : Int) + 1).toNat < l.length - (i : Int).toNat
      omega
theorem c_inHs (l : List (List UInt8)) (h : List UInt8) (hl : l.length < 4294967295) : FnOK Tryd.prog D 107 [.sl (.ar 32 .lf) (hsA l) .ro, .ar 32 .lf (by8 h)] [] (fun r st => r = (AV.sc (.bool ((l.any fun x => x == h)))) ∧ st = []) := by
  refine fnok_of_W hmix tabOK Tryd.func107 rfl rfl (Nat.le_of_ble_eq_true rfl) ?_
  conv => whnf
  refine (c_idxHs l h hl).mono ?_
  rintro r st ⟨⟨k, rfl, hk⟩, rfl⟩
  conv => whnf
  rw [hk]
  refine ⟨false, [], ?_⟩
  conv => whnf
  exact ⟨rfl, rfl⟩
theorem c_owants0 : FnOK Tryd.prog D 63 [.pt 0 []] [.st [.sl (.nd [.ar 32 .lf, .nd [.ar 32 .lf, .lf, .lf, .lf, .lf]]) [] .ex, (AV.sc (.bool (true)))]] (fun r st => r = .sl (.ar 32 .lf) [] .ex ∧ st = [.st [.sl (.nd [.ar 32 .lf, .nd [.ar 32 .lf, .lf, .lf, .lf, .lf]]) [] .ex, (AV.sc (.bool (true)))]]) := by
  refine fnok_of_W hmix tabOK Tryd.func63 rfl rfl (Nat.le_of_ble_eq_true rfl) ?_
  conv => whnf
  refine ⟨false, [0, 3, 11, 12, 13], fun τ => τ = ⟨39, [(0, .pt 0 []), (3, .sl (.ar 32 .lf) [] .ex), (11, .sl (.nd [.ar 32 .lf, .nd [.ar 32 .lf, .lf, .lf, .lf, .lf]]) [] .ex), (12, (AV.sc (.int .i64 (0)))), (13, (AV.sc (.int .i64 (0))))], ⟨[(.st [.sl (.nd [.ar 32 .lf, .nd [.ar 32 .lf, .lf, .lf, .lf, .lf]]) [] .ex, (AV.sc (.bool (true)))], false)], [], 0⟩⟩, fun τ => 0, ?_, ?_⟩
  · conv => whnf
    try exact rfl
  rintro τ rfl
  conv => whnf
  refine ⟨false, [], ?_⟩
  conv => whnf
  exact ⟨rfl, rfl⟩
theorem c_owants1 (l : List En) (cap : Nat) (L : List AV) (hL : OKE l cap L) (hb : l.length < 4294967295) : FnOK Tryd.prog D 63 [.pt 0 []] [.st [.bs 1 [] (.nd [.ar 32 .lf, .nd [.ar 32 .lf, .lf, .lf, .lf, .lf]]) 0 l.length cap, (AV.sc (.bool (true)))], .ar cap (.nd [.ar 32 .lf, .nd [.ar 32 .lf, .lf, .lf, .lf, .lf]]) L] (fun r st => r = .sl (.ar 32 .lf) (hsA (wnt (hasE l) (l.map En.b))) .ro ∧ st = [.st [.bs 1 [] (.nd [.ar 32 .lf, .nd [.ar 32 .lf, .lf, .lf, .lf, .lf]]) 0 l.length cap, (AV.sc (.bool (true)))], .ar cap (.nd [.ar 32 .lf, .nd [.ar 32 .lf, .lf, .lf, .lf, .lf]]) L]) := by
  have hlm : (l.map En.b).length = l.length := List.length_map ..
  refine fnok_of_Ws [1704003] hmix tabOK Tryd.func63 rfl rfl (Nat.le_of_ble_eq_true rfl) ?_
  conv => whnf
  refine ⟨false, [0, 3, 11, 12, 13], fun τ => ∃ i : Nat, i ≤ l.length ∧ τ = ⟨39, [(0, .pt 0 []), (3, .sl (.ar 32 .lf) (hsA (wnt (hasE l) ((l.map En.b).take i))) (.own 0)), (11, .bs 1 [] (.nd [.ar 32 .lf, .nd [.ar 32 .lf, .lf, .lf, .lf, .lf]]) 0 l.length cap), (12, (AV.sc (.int .i64 ((l.length : Int))))), (13, (AV.sc (.int .i64 ((i : Int)))))], ⟨[(.st [.bs 1 [] (.nd [.ar 32 .lf, .nd [.ar 32 .lf, .lf, .lf, .lf, .lf]]) 0 l.length cap, (AV.sc (.bool (true)))], false), (.ar cap (.nd [.ar 32 .lf, .nd [.ar 32 .lf, .lf, .lf, .lf, .lf]]) L, false)], [0], 1⟩⟩, fun τ => l.length - (slotI τ 13).toNat, ?_, ?_⟩
  · conv => whnf
    exact ⟨0, by omega, rfl⟩
  rintro τ ⟨i, hi, rfl⟩
  apply enter3
  intro kk kK
  conv => whnf
  refine Branch.of (fun h1 => ?_) (fun h1 => ?_) <;> rw [h1] <;> conv => whnf
  rotate_left
  · have h1 := of_decide_eq_false h1
    obtain rfl : i = l.length := by omega
    rw [List.take_of_length_le (l := l.map En.b) (by omega)]
    refine kK _ _ ?_
    conv => whnf
    refine ⟨false, [999], ?_⟩
    conv => whnf
    exact ⟨rfl, rfl⟩
  have h1 := of_decide_eq_true h1
  have ih : i < l.length := by omega
  have hat := oke_at hL ih
  have hs := wnt_succ (hasE l) (l.map En.b) i (by omega)
  have hle := wnt_le (hasE l) (l.map En.b) i
  have hgi : (l.map En.b)[i]'(by omega) = l[i].b := List.getElem_map ..
  rw [hgi] at hs
  generalize wnt (hasE l) ((l.map En.b).take i) = o at *
  generalize hO2 : wnt (hasE l) ((l.map En.b).take (i + 1)) = o2 at *
  unfold wst at hs
  refine ⟨by omega, by omega, ?_⟩
  conv => whnf
  refine ⟨_, (show L[0 + ((i : Nat) : Int).toNat]? = some (AV.st [.ar 32 .lf (by8 (l[i]).h), (AV.st [.ar 32 .lf (by8 (l[i]).b.p), .sc (.int .i64 (l[i]).b.v), .sc (.int .i64 (l[i]).b.h), .sc (.int .i64 (l[i]).b.by_), .sl (.nd [.lf, .lf, .lf, .lf, .lf, .lf, .lf]) (txsA (l[i]).b.txs) .ro])]) by rw [Nat.zero_add, Int.toNat_natCast]; exact hat), ?_⟩
  conv => whnf
  refine (c_ohas1 l l[i].b.p cap L hL (by omega)).mono fun r st e => ?_
  obtain ⟨rfl, rfl⟩ := e
  conv => whnf
  cases hh : hasE l l[i].b.p with
  | true =>
    rw [if_pos (.inl hh)] at hs
    subst hs
    conv => whnf
    rw [w64 (x := (i : Int) + 1) (by omega) (by omega)]
    refine kK _ _ ?_
    conv => whnf
    refine ⟨⟨i + 1, by omega, by rw [hO2]; exact rfl⟩, ?_⟩
    show l.length - ((i : Int) + 1).toNat < l.length - (i : Int).toNat
    omega
  | false =>
    conv => whnf
    refine (c_inHs o l[i].b.p (by omega)).mono fun r st e => ?_
    obtain ⟨rfl, rfl⟩ := e
    conv => whnf
    cases hc : (o.any fun x => x == l[i].b.p) with
    | true =>
      rw [if_pos (.inr hc)] at hs
      subst hs
      conv => whnf
      rw [w64 (x := (i : Int) + 1) (by omega) (by omega)]
      refine kK _ _ ?_
      conv => whnf
      refine ⟨⟨i + 1, by omega, by rw [hO2]; exact rfl⟩, ?_⟩
      show l.length - ((i : Int) + 1).toNat < l.length - (i : Int).toNat
      omega
    | false =>
      rw [if_neg (by rw [hh, hc]; simp)] at hs
      conv => whnf
      refine ⟨by rw [hs_len]; simp only [List.length_cons, List.length_nil]; omega, ?_⟩
      conv => whnf
      rw [w64 (x := (i : Int) + 1) (by omega) (by omega)]
      refine kK _ _ ?_
      conv => whnf
      refine ⟨⟨i + 1, by omega, by rw [hO2, hs, ← hs_app]; exact rfl⟩, ?_⟩
      show l.length - ((i : Int) + 1).toNat < l.length - (i : Int).toNat
      omega
theorem c_oall0 : FnOK Tryd.prog D 65 [.pt 0 []] [.st [.sl (.nd [.ar 32 .lf, .nd [.ar 32 .lf, .lf, .lf, .lf, .lf]]) [] .ex, (AV.sc (.bool (true)))]] (fun r st => r = .sl (.nd [.ar 32 .lf, .lf, .lf, .lf, .lf]) [] .ex ∧ st = [.st [.sl (.nd [.ar 32 .lf, .nd [.ar 32 .lf, .lf, .lf, .lf, .lf]]) [] .ex, (AV.sc (.bool (true)))]]) := by
  refine fnok_of_W hmix tabOK Tryd.func65 rfl rfl (Nat.le_of_ble_eq_true rfl) ?_
  conv => whnf
  refine ⟨false, [0, 3, 11, 12, 13], fun τ => τ = ⟨25, [(0, .pt 0 []), (3, .sl (.nd [.ar 32 .lf, .lf, .lf, .lf, .lf]) [] .ex), (11, .sl (.nd [.ar 32 .lf, .nd [.ar 32 .lf, .lf, .lf, .lf, .lf]]) [] .ex), (12, (AV.sc (.int .i64 (0)))), (13, (AV.sc (.int .i64 (0))))], ⟨[(.st [.sl (.nd [.ar 32 .lf, .nd [.ar 32 .lf, .lf, .lf, .lf, .lf]]) [] .ex, (AV.sc (.bool (true)))], false)], [], 0⟩⟩, fun τ => 0, ?_, ?_⟩
  · conv => whnf
    try exact rfl
  rintro τ rfl
  conv => whnf
  refine ⟨false, [], ?_⟩
  conv => whnf
  exact ⟨rfl, rfl⟩
theorem c_oall1 (l : List En) (cap : Nat) (L : List AV) (hL : OKE l cap L) (hb : l.length < 4294967295) (hok : ∀ e ∈ l, e.b.txs.length < 4294967296) : FnOK Tryd.prog D 65 [.pt 0 []] [.st [.bs 1 [] (.nd [.ar 32 .lf, .nd [.ar 32 .lf, .lf, .lf, .lf, .lf]]) 0 l.length cap, (AV.sc (.bool (true)))], .ar cap (.nd [.ar 32 .lf, .nd [.ar 32 .lf, .lf, .lf, .lf, .lf]]) L] (fun r st => r = (AV.sl (.nd [.ar 32 .lf, .lf, .lf, .lf, .lf]) (blA ((l.map En.b))) .ro) ∧ st = [.st [.bs 1 [] (.nd [.ar 32 .lf, .nd [.ar 32 .lf, .lf, .lf, .lf, .lf]]) 0 l.length cap, (AV.sc (.bool (true)))], .ar cap (.nd [.ar 32 .lf, .nd [.ar 32 .lf, .lf, .lf, .lf, .lf]]) L]) := by
  refine fnok_of_Ws [1704003] hmix tabOK Tryd.func65 rfl rfl (Nat.le_of_ble_eq_true rfl) ?_
  conv => whnf
  refine ⟨false, [0, 3, 11, 12, 13], fun τ => ∃ i : Nat, i ≤ l.length ∧ τ = ⟨25, [(0, .pt 0 []), (3, .sl (.nd [.ar 32 .lf, .lf, .lf, .lf, .lf]) (blA ((l.take i).map En.b)) (.own 0)), (11, .bs 1 [] (.nd [.ar 32 .lf, .nd [.ar 32 .lf, .lf, .lf, .lf, .lf]]) 0 l.length cap), (12, (AV.sc (.int .i64 ((l.length : Int))))), (13, (AV.sc (.int .i64 ((i : Int)))))], ⟨[(.st [.bs 1 [] (.nd [.ar 32 .lf, .nd [.ar 32 .lf, .lf, .lf, .lf, .lf]]) 0 l.length cap, (AV.sc (.bool (true)))], false), (.ar cap (.nd [.ar 32 .lf, .nd [.ar 32 .lf, .lf, .lf, .lf, .lf]]) L, false)], [0], 1⟩⟩, fun τ => l.length - (slotI τ 13).toNat, ?_, ?_⟩
  · conv => whnf
    exact ⟨0, by omega, rfl⟩
  rintro τ ⟨i, hi, rfl⟩
  apply enter3
  intro kk kK
  conv => whnf
  refine Branch.of (fun h1 => ?_) (fun h1 => ?_) <;> rw [h1] <;> conv => whnf
  rotate_left
  · have h1 := of_decide_eq_false h1
    obtain rfl : i = l.length := by omega
    rw [List.take_length]
    refine kK _ _ ?_
    conv => whnf
    refine ⟨false, [999], ?_⟩
    conv => whnf
    exact ⟨rfl, rfl⟩
  have h1 := of_decide_eq_true h1
  have ih : i < l.length := by omega
  have hat := oke_at hL ih
  have hs : (l.take (i + 1)).map En.b = (l.take i).map En.b ++ [l[i].b] := by
    rw [List.take_succ_eq_append_getElem ih, List.map_append]
    rfl
  have hn : ((l.take i).map En.b).length = i := by rw [List.length_map, List.length_take]; omega
  refine ⟨by omega, by omega, ?_⟩
  conv => whnf
  refine ⟨_, (show L[0 + ((i : Nat) : Int).toNat]? = some (AV.st [.ar 32 .lf (by8 (l[i]).h), (AV.st [.ar 32 .lf (by8 (l[i]).b.p), .sc (.int .i64 (l[i]).b.v), .sc (.int .i64 (l[i]).b.h), .sc (.int .i64 (l[i]).b.by_), .sl (.nd [.lf, .lf, .lf, .lf, .lf, .lf, .lf]) (txsA (l[i]).b.txs) .ro])]) by rw [Nat.zero_add, Int.toNat_natCast]; exact hat), ?_⟩
  conv => whnf
  refine (c_bcopy l[i].b (hok l[i] (List.getElem_mem ih))).mono fun r st e => ?_
  obtain ⟨rfl, rfl⟩ := e
  conv => whnf
  refine ⟨by rw [bl_len]; simp only [List.length_cons, List.length_nil]; omega, ?_⟩
  conv => whnf
  rw [w64 (x := (i : Int) + 1) (by omega) (by omega)]
  refine kK _ _ ?_
  conv => whnf
  refine ⟨⟨i + 1, by omega, by rw [hs, ← bl_app]; exact rfl⟩, ?_⟩
  show l.length - ((i : Int) + 1).toNat < l.length - (i : Int).toNat
  omega
end Go.WL.T6d
