/- Blocks whose parents are not there yet: those that are meant go. No condition. -/
import Derived.Test.YtcmdkiejkheahaaDoorPart36
set_option linter.unusedVariables false
set_option linter.unusedSimpArgs false
namespace Go.WL.T6d
open Go.WL Go.Proofs
set_option maxRecDepth 20000
set_option maxHeartbeats 8000000
theorem oke_clr (k : List En) (n cap : Nat) (M : List AV) (z : AV) (hk : k.length ≤ n) (hn : n ≤ cap) (hM : M.length = cap) (ht : M.take k.length = enA k) : OKE k cap (List.take (0 + ((k.length : Nat) : Int).toNat) M ++ List.replicate (n - ((k.length : Nat) : Int).toNat) z ++ List.drop (0 + ((k.length : Nat) : Int).toNat + (List.replicate (n - ((k.length : Nat) : Int).toNat) z).length) M) := by
  rw [Nat.zero_add, Int.toNat_natCast, List.length_replicate, ht]
  refine ⟨by omega, ?_, ?_⟩
  · simp only [List.length_append, en_len, List.length_replicate, List.length_drop]
    omega
  · rw [List.append_assoc, List.take_append_of_le_length (by rw [en_len]; exact Nat.le_refl _)]
    rw [List.take_of_length_le (by rw [en_len]; exact Nat.le_refl _)]
theorem c_ixNT (u : List UInt8) : FnOK Tryd.prog D 130 [.sl (.nd [.ar 32 .lf, .nd [.ar 32 .lf, .lf, .lf, .lf, .lf]]) [] .ex, .fn 120 [.pt 0 [], .pt 1 []]] [.fn 102 [.pt 2 []], .sl (.nd [.ar 32 .lf, .lf, .lf, .lf, .lf]) [] .ex, .ar 32 .lf (by8 u)] (fun r st => r = (AV.sc (.int .i64 ((-1)))) ∧ st = [.fn 102 [.pt 2 []], .sl (.nd [.ar 32 .lf, .lf, .lf, .lf, .lf]) [] .ex, .ar 32 .lf (by8 u)]) := by
  refine fnok_of_W hmix tabOK Tryd.func130 rfl rfl (Nat.le_of_ble_eq_true rfl) ?_
  conv => whnf
  refine ⟨false, [0, 1, 7, 8], fun τ => τ = ⟨19, [(0, .sl (.nd [.ar 32 .lf, .nd [.ar 32 .lf, .lf, .lf, .lf, .lf]]) [] .ex), (1, .fn 120 [.pt 0 [], .pt 1 []]), (7, (AV.sc (.int .i64 (0)))), (8, (AV.sc (.int .i64 (0))))], ⟨[(.fn 102 [.pt 2 []], false), (.sl (.nd [.ar 32 .lf, .lf, .lf, .lf, .lf]) [] .ex, false), (.ar 32 .lf (by8 u), false)], [], 0⟩⟩, fun τ => 0, ?_, ?_⟩
  · conv => whnf
    try exact rfl
  rintro τ rfl
  conv => whnf
  refine ⟨false, [], ?_⟩
  conv => whnf
  exact ⟨rfl, rfl⟩
def IXpT (u : List UInt8) (l : List En) (cap : Nat) (L : List AV) (r : AV) (st : List AV) : Prop :=
  (l.filter (pfT u) = [] ∧ r = (AV.sc (.int .i64 ((-1)))) ∧ st = [.ar cap (.nd [.ar 32 .lf, .nd [.ar 32 .lf, .lf, .lf, .lf, .lf]]) L, .fn 102 [.pt 3 []], .sl (.nd [.ar 32 .lf, .lf, .lf, .lf, .lf]) [] .ex, .ar 32 .lf (by8 u)]) ∨
  ∃ (j : Nat) (hj : j < l.length), (l.take j).filter (pfT u) = [] ∧ (pfT u) l[j] = true ∧ r = (AV.sc (.int .i64 ((j : Int)))) ∧ ∃ cp Lo, OKX [l[j].b] cp Lo ∧ st = [.ar cap (.nd [.ar 32 .lf, .nd [.ar 32 .lf, .lf, .lf, .lf, .lf]]) L, .fn 102 [.pt 3 []], .bs 4 [] (.nd [.ar 32 .lf, .lf, .lf, .lf, .lf]) 0 1 cp, .ar 32 .lf (by8 u), .ar cp (.nd [.ar 32 .lf, .lf, .lf, .lf, .lf]) Lo]
theorem c_ixT (u : List UInt8) (l : List En) (cap : Nat) (L : List AV) (hL : OKE l cap L) (hb : l.length < 4294967295) : FnOK Tryd.prog D 130 [.bs 0 [] (.nd [.ar 32 .lf, .nd [.ar 32 .lf, .lf, .lf, .lf, .lf]]) 0 l.length cap, .fn 120 [.pt 1 [], .pt 2 []]] [.ar cap (.nd [.ar 32 .lf, .nd [.ar 32 .lf, .lf, .lf, .lf, .lf]]) L, .fn 102 [.pt 3 []], .sl (.nd [.ar 32 .lf, .lf, .lf, .lf, .lf]) [] .ex, .ar 32 .lf (by8 u)] (IXpT u l cap L) := by
  refine fnok_of_W hmix tabOK Tryd.func130 rfl rfl (Nat.le_of_ble_eq_true rfl) ?_
  conv => whnf
  refine ⟨false, [0, 1, 7, 8], fun τ => ∃ i : Nat, i ≤ l.length ∧ (l.take i).filter (pfT u) = [] ∧ τ = ⟨19, [(0, .bs 0 [] (.nd [.ar 32 .lf, .nd [.ar 32 .lf, .lf, .lf, .lf, .lf]]) 0 l.length cap), (1, .fn 120 [.pt 1 [], .pt 2 []]), (7, (AV.sc (.int .i64 ((l.length : Int))))), (8, (AV.sc (.int .i64 ((i : Int)))))], ⟨[(.ar cap (.nd [.ar 32 .lf, .nd [.ar 32 .lf, .lf, .lf, .lf, .lf]]) L, false), (.fn 102 [.pt 3 []], false), (.sl (.nd [.ar 32 .lf, .lf, .lf, .lf, .lf]) [] .ex, false), (.ar 32 .lf (by8 u), false)], [], 0⟩⟩, fun τ => l.length - (slotI τ 8).toNat, ?_, ?_⟩
  · conv => whnf
    exact ⟨0, by omega, rfl, rfl⟩
  rintro τ ⟨i, hi, hn, rfl⟩
  apply enter3
  intro kk kK
  conv => whnf
  refine Branch.of (fun h1 => ?_) (fun h1 => ?_) <;> rw [h1] <;> conv => whnf
  rotate_left
  · have h1 := of_decide_eq_false h1
    obtain rfl : i = l.length := by omega
    rw [List.take_length] at hn
    refine kK _ _ ?_
    conv => whnf
    refine ⟨false, [], ?_⟩
    conv => whnf
    exact .inl ⟨hn, rfl, rfl⟩
  have h1 := of_decide_eq_true h1
  have ih : i < l.length := by omega
  have hat := oke_at hL ih
  refine ⟨by omega, by omega, ?_⟩
  conv => whnf
  refine ⟨_, (show L[0 + ((i : Nat) : Int).toNat]? = some (AV.st [.ar 32 .lf (by8 (l[i]).h), (AV.st [.ar 32 .lf (by8 (l[i]).b.p), .sc (.int .i64 (l[i]).b.v), .sc (.int .i64 (l[i]).b.h), .sc (.int .i64 (l[i]).b.by_), .sl (.nd [.lf, .lf, .lf, .lf, .lf, .lf, .lf]) (txsA (l[i]).b.txs) .ro])]) by rw [Nat.zero_add, Int.toNat_natCast]; exact hat), ?_⟩
  conv => whnf
  refine (c_pt0T u l[i]).mono ?_
  rintro r st (⟨hp, rfl, rfl⟩ | ⟨hp, rfl, cp, Lo, hO, rfl⟩)
  rotate_left
  · conv => whnf
    refine kK _ _ ?_
    conv => whnf
    refine ⟨false, [4], ?_⟩
    conv => whnf
    exact .inr ⟨i, ih, hn, hp, rfl, cp, Lo, hO, rfl⟩
  conv => whnf
  rw [w64 (x := (i : Int) + 1) (by omega) (by omega)]
  refine kK _ _ ?_
  conv => whnf
  refine ⟨⟨i + 1, by omega, ?_, rfl⟩, ?_⟩
  · rw [List.take_succ_eq_append_getElem ih, List.filter_append, hn]
    simp [hp]
  · show l.length - ((i : Int) + 1).toNat < l.length - (i : Int).toNat
    omega
theorem c_dlNT (u : List UInt8) : FnOK Tryd.prog D 119 [.sl (.nd [.ar 32 .lf, .nd [.ar 32 .lf, .lf, .lf, .lf, .lf]]) [] .ex, .fn 120 [.pt 0 [], .pt 1 []]] [.fn 102 [.pt 2 []], .sl (.nd [.ar 32 .lf, .lf, .lf, .lf, .lf]) [] .ex, .ar 32 .lf (by8 u)] (fun r st => r = .sl (.nd [.ar 32 .lf, .nd [.ar 32 .lf, .lf, .lf, .lf, .lf]]) [] .ex ∧ st = [.fn 102 [.pt 2 []], .sl (.nd [.ar 32 .lf, .lf, .lf, .lf, .lf]) [] .ex, .ar 32 .lf (by8 u)]) := by
  refine fnok_of_Ws [10] hmix tabOK Tryd.func119 rfl rfl (Nat.le_of_ble_eq_true rfl) ?_
  conv => whnf
  refine (c_ixNT u).mono fun r st e => ?_
  obtain ⟨rfl, rfl⟩ := e
  conv => whnf
  refine ⟨false, [], ?_⟩
  conv => whnf
  exact ⟨rfl, rfl⟩
theorem c_ixND (u : Int) : FnOK Tryd.prog D 130 [.sl (.nd [.ar 32 .lf, .nd [.ar 32 .lf, .lf, .lf, .lf, .lf]]) [] .ex, .fn 120 [.pt 0 [], .pt 1 []]] [.fn 103 [.pt 2 []], .sl (.nd [.ar 32 .lf, .lf, .lf, .lf, .lf]) [] .ex, .sc (.int .i64 u)] (fun r st => r = (AV.sc (.int .i64 ((-1)))) ∧ st = [.fn 103 [.pt 2 []], .sl (.nd [.ar 32 .lf, .lf, .lf, .lf, .lf]) [] .ex, .sc (.int .i64 u)]) := by
  refine fnok_of_W hmix tabOK Tryd.func130 rfl rfl (Nat.le_of_ble_eq_true rfl) ?_
  conv => whnf
  refine ⟨false, [0, 1, 7, 8], fun τ => τ = ⟨19, [(0, .sl (.nd [.ar 32 .lf, .nd [.ar 32 .lf, .lf, .lf, .lf, .lf]]) [] .ex), (1, .fn 120 [.pt 0 [], .pt 1 []]), (7, (AV.sc (.int .i64 (0)))), (8, (AV.sc (.int .i64 (0))))], ⟨[(.fn 103 [.pt 2 []], false), (.sl (.nd [.ar 32 .lf, .lf, .lf, .lf, .lf]) [] .ex, false), (.sc (.int .i64 u), false)], [], 0⟩⟩, fun τ => 0, ?_, ?_⟩
  · conv => whnf
    try exact rfl
  rintro τ rfl
  conv => whnf
  refine ⟨false, [], ?_⟩
  conv => whnf
  exact ⟨rfl, rfl⟩
def IXpD (u : Int) (l : List En) (cap : Nat) (L : List AV) (r : AV) (st : List AV) : Prop :=
  (l.filter (pfD u) = [] ∧ r = (AV.sc (.int .i64 ((-1)))) ∧ st = [.ar cap (.nd [.ar 32 .lf, .nd [.ar 32 .lf, .lf, .lf, .lf, .lf]]) L, .fn 103 [.pt 3 []], .sl (.nd [.ar 32 .lf, .lf, .lf, .lf, .lf]) [] .ex, .sc (.int .i64 u)]) ∨
  ∃ (j : Nat) (hj : j < l.length), (l.take j).filter (pfD u) = [] ∧ (pfD u) l[j] = true ∧ r = (AV.sc (.int .i64 ((j : Int)))) ∧ ∃ cp Lo, OKX [l[j].b] cp Lo ∧ st = [.ar cap (.nd [.ar 32 .lf, .nd [.ar 32 .lf, .lf, .lf, .lf, .lf]]) L, .fn 103 [.pt 3 []], .bs 4 [] (.nd [.ar 32 .lf, .lf, .lf, .lf, .lf]) 0 1 cp, .sc (.int .i64 u), .ar cp (.nd [.ar 32 .lf, .lf, .lf, .lf, .lf]) Lo]
theorem c_ixD (u : Int) (l : List En) (cap : Nat) (L : List AV) (hL : OKE l cap L) (hb : l.length < 4294967295) : FnOK Tryd.prog D 130 [.bs 0 [] (.nd [.ar 32 .lf, .nd [.ar 32 .lf, .lf, .lf, .lf, .lf]]) 0 l.length cap, .fn 120 [.pt 1 [], .pt 2 []]] [.ar cap (.nd [.ar 32 .lf, .nd [.ar 32 .lf, .lf, .lf, .lf, .lf]]) L, .fn 103 [.pt 3 []], .sl (.nd [.ar 32 .lf, .lf, .lf, .lf, .lf]) [] .ex, .sc (.int .i64 u)] (IXpD u l cap L) := by
  refine fnok_of_W hmix tabOK Tryd.func130 rfl rfl (Nat.le_of_ble_eq_true rfl) ?_
  conv => whnf
  refine ⟨false, [0, 1, 7, 8], fun τ => ∃ i : Nat, i ≤ l.length ∧ (l.take i).filter (pfD u) = [] ∧ τ = ⟨19, [(0, .bs 0 [] (.nd [.ar 32 .lf, .nd [.ar 32 .lf, .lf, .lf, .lf, .lf]]) 0 l.length cap), (1, .fn 120 [.pt 1 [], .pt 2 []]), (7, (AV.sc (.int .i64 ((l.length : Int))))), (8, (AV.sc (.int .i64 ((i : Int)))))], ⟨[(.ar cap (.nd [.ar 32 .lf, .nd [.ar 32 .lf, .lf, .lf, .lf, .lf]]) L, false), (.fn 103 [.pt 3 []], false), (.sl (.nd [.ar 32 .lf, .lf, .lf, .lf, .lf]) [] .ex, false), (.sc (.int .i64 u), false)], [], 0⟩⟩, fun τ => l.length - (slotI τ 8).toNat, ?_, ?_⟩
  · conv => whnf
    exact ⟨0, by omega, rfl, rfl⟩
  rintro τ ⟨i, hi, hn, rfl⟩
  apply enter3
  intro kk kK
  conv => whnf
  refine Branch.of (fun h1 => ?_) (fun h1 => ?_) <;> rw [h1] <;> conv => whnf
  rotate_left
  · have h1 := of_decide_eq_false h1
    obtain rfl : i = l.length := by omega
    rw [List.take_length] at hn
    refine kK _ _ ?_
    conv => whnf
    refine ⟨false, [], ?_⟩
    conv => whnf
    exact .inl ⟨hn, rfl, rfl⟩
  have h1 := of_decide_eq_true h1
  have ih : i < l.length := by omega
  have hat := oke_at hL ih
  refine ⟨by omega, by omega, ?_⟩
  conv => whnf
  refine ⟨_, (show L[0 + ((i : Nat) : Int).toNat]? = some (AV.st [.ar 32 .lf (by8 (l[i]).h), (AV.st [.ar 32 .lf (by8 (l[i]).b.p), .sc (.int .i64 (l[i]).b.v), .sc (.int .i64 (l[i]).b.h), .sc (.int .i64 (l[i]).b.by_), .sl (.nd [.lf, .lf, .lf, .lf, .lf, .lf, .lf]) (txsA (l[i]).b.txs) .ro])]) by rw [Nat.zero_add, Int.toNat_natCast]; exact hat), ?_⟩
  conv => whnf
  refine (c_pt0D u l[i]).mono ?_
  rintro r st (⟨hp, rfl, rfl⟩ | ⟨hp, rfl, cp, Lo, hO, rfl⟩)
  rotate_left
  · conv => whnf
    refine kK _ _ ?_
    conv => whnf
    refine ⟨false, [4], ?_⟩
    conv => whnf
    exact .inr ⟨i, ih, hn, hp, rfl, cp, Lo, hO, rfl⟩
  conv => whnf
  rw [w64 (x := (i : Int) + 1) (by omega) (by omega)]
  refine kK _ _ ?_
  conv => whnf
  refine ⟨⟨i + 1, by omega, ?_, rfl⟩, ?_⟩
  · rw [List.take_succ_eq_append_getElem ih, List.filter_append, hn]
    simp [hp]
  · show l.length - ((i : Int) + 1).toNat < l.length - (i : Int).toNat
    omega
theorem c_dlND (u : Int) : FnOK Tryd.prog D 119 [.sl (.nd [.ar 32 .lf, .nd [.ar 32 .lf, .lf, .lf, .lf, .lf]]) [] .ex, .fn 120 [.pt 0 [], .pt 1 []]] [.fn 103 [.pt 2 []], .sl (.nd [.ar 32 .lf, .lf, .lf, .lf, .lf]) [] .ex, .sc (.int .i64 u)] (fun r st => r = .sl (.nd [.ar 32 .lf, .nd [.ar 32 .lf, .lf, .lf, .lf, .lf]]) [] .ex ∧ st = [.fn 103 [.pt 2 []], .sl (.nd [.ar 32 .lf, .lf, .lf, .lf, .lf]) [] .ex, .sc (.int .i64 u)]) := by
  refine fnok_of_Ws [10] hmix tabOK Tryd.func119 rfl rfl (Nat.le_of_ble_eq_true rfl) ?_
  conv => whnf
  refine (c_ixND u).mono fun r st e => ?_
  obtain ⟨rfl, rfl⟩ := e
  conv => whnf
  refine ⟨false, [], ?_⟩
  conv => whnf
  exact ⟨rfl, rfl⟩
theorem pfT_succ (u : List UInt8) (l : List En) (i : Nat) (h : i < l.length) : ((l.take (i + 1)).filter (pfT u)).map En.b = ((l.take i).filter (pfT u)).map En.b ++ (if (pfT u) l[i] = true then [l[i].b] else []) ∧ (l.take (i + 1)).filter (fun e => !(pfT u) e) = (l.take i).filter (fun e => !(pfT u) e) ++ (if (pfT u) l[i] = true then [] else [l[i]]) := by
  rw [List.take_succ_eq_append_getElem h, List.filter_append, List.filter_append, List.map_append]
  cases hp : (pfT u) l[i] <;> simp [hp]
theorem kpT_le (u : List UInt8) (l : List En) : (l.filter fun e => !(pfT u) e).length ≤ l.length := List.length_filter_le ..
def DLpT (u : List UInt8) (l : List En) (cap : Nat) (L : List AV) (r : AV) (st : List AV) : Prop :=
  (l.filter (pfT u) = [] ∧ r = .bs 0 [] (.nd [.ar 32 .lf, .nd [.ar 32 .lf, .lf, .lf, .lf, .lf]]) 0 l.length cap ∧ st = [.ar cap (.nd [.ar 32 .lf, .nd [.ar 32 .lf, .lf, .lf, .lf, .lf]]) L, .fn 102 [.pt 3 []], .sl (.nd [.ar 32 .lf, .lf, .lf, .lf, .lf]) [] .ex, .ar 32 .lf (by8 u)]) ∨
  ∃ L' cp Lo, l.filter (pfT u) ≠ [] ∧ OKE (l.filter fun e => !(pfT u) e) cap L' ∧ OKX ((l.filter (pfT u)).map En.b) cp Lo ∧ r = .bs 0 [] (.nd [.ar 32 .lf, .nd [.ar 32 .lf, .lf, .lf, .lf, .lf]]) 0 (l.filter fun e => !(pfT u) e).length cap ∧ st = [.ar cap (.nd [.ar 32 .lf, .nd [.ar 32 .lf, .lf, .lf, .lf, .lf]]) L', .fn 102 [.pt 3 []], .bs 4 [] (.nd [.ar 32 .lf, .lf, .lf, .lf, .lf]) 0 ((l.filter (pfT u)).map En.b).length cp, .ar 32 .lf (by8 u), .ar cp (.nd [.ar 32 .lf, .lf, .lf, .lf, .lf]) Lo]
structure DLfT (u : List UInt8) (l : List En) (cap : Nat) (q : Nat) (M : List AV) (co : Nat) (Lo : List AV) : Prop where
  kp : ((l.take q).filter fun e => !(pfT u) e).length < q
  ne : (l.take q).filter (pfT u) ≠ []
  ox : OKX (((l.take q).filter (pfT u)).map En.b) co Lo
  ml : M.length = cap
  mt : M.take ((l.take q).filter fun e => !(pfT u) e).length = enA ((l.take q).filter fun e => !(pfT u) e)
  mx : ∀ (p : Nat) (h : p < l.length), q ≤ p → M[p]? = some (AV.st [.ar 32 .lf (by8 (l[p]).h), (AV.st [.ar 32 .lf (by8 (l[p]).b.p), .sc (.int .i64 (l[p]).b.v), .sc (.int .i64 (l[p]).b.h), .sc (.int .i64 (l[p]).b.by_), .sl (.nd [.lf, .lf, .lf, .lf, .lf, .lf, .lf]) (txsA (l[p]).b.txs) .ro])])
  me : ∀ p, p < l.length → ∃ y : En, M[p]? = some (AV.st [.ar 32 .lf (by8 (y).h), (AV.st [.ar 32 .lf (by8 (y).b.p), .sc (.int .i64 (y).b.v), .sc (.int .i64 (y).b.h), .sc (.int .i64 (y).b.by_), .sl (.nd [.lf, .lf, .lf, .lf, .lf, .lf, .lf]) (txsA (y).b.txs) .ro])])
theorem dlf_keepT (u : List UInt8) {l : List En} {cap q : Nat} {M : List AV} {co : Nat} {Lo : List AV} (h : DLfT u l cap q M co Lo) (ih : q < l.length) (hc : l.length ≤ cap) (hp : (pfT u) l[q] = false) : DLfT u l cap (q + 1) (M.set (0 + ((((l.take q).filter fun e => !(pfT u) e).length : Nat) : Int).toNat) (AV.st [.ar 32 .lf (by8 (l[q]).h), (AV.st [.ar 32 .lf (by8 (l[q]).b.p), .sc (.int .i64 (l[q]).b.v), .sc (.int .i64 (l[q]).b.h), .sc (.int .i64 (l[q]).b.by_), .sl (.nd [.lf, .lf, .lf, .lf, .lf, .lf, .lf]) (txsA (l[q]).b.txs) .ro])])) co Lo := by
  obtain ⟨f1, f2, f3, f4, f5, f6, f7⟩ := h
  have hs := pfT_succ u l q ih
  rw [hp, if_neg (by decide), if_neg (by decide), List.append_nil] at hs
  rw [Nat.zero_add, Int.toNat_natCast]
  refine ⟨?_, ?_, ?_, by rw [List.length_set]; exact f4, ?_, ?_, ?_⟩
  · rw [hs.2, List.length_append, List.length_singleton]
    omega
  · intro e
    have := hs.1
    rw [e] at this
    exact f2 (List.map_eq_nil_iff.1 this.symm)
  · rw [hs.1]
    exact f3
  · rw [hs.2, List.length_append, List.length_singleton]
    generalize ((l.take q).filter fun e => !(pfT u) e) = kp at *
    rw [List.take_succ_eq_append_getElem (by rw [List.length_set]; omega), List.take_set_of_le (Nat.le_refl _), f5, List.getElem_set_self]
    simp [enA]
  · intro p hpl hqp
    rw [List.getElem?_set, if_neg (by omega)]
    exact f6 p hpl (by omega)
  · intro p hpl
    rw [List.getElem?_set]
    split
    · rw [if_pos (by omega)]
      exact ⟨l[q], rfl⟩
    · exact f7 p hpl
theorem dlf_takeT (u : List UInt8) {l : List En} {cap q : Nat} {M : List AV} {co cp : Nat} {Lo Lo2 : List AV} (h : DLfT u l cap q M co Lo) (ih : q < l.length) (hp : (pfT u) l[q] = true) (hO : OKX (((l.take q).filter (pfT u)).map En.b ++ [l[q].b]) cp Lo2) : DLfT u l cap (q + 1) M cp Lo2 := by
  obtain ⟨f1, f2, f3, f4, f5, f6, f7⟩ := h
  have hs := pfT_succ u l q ih
  rw [hp, if_pos rfl, if_pos rfl, List.append_nil] at hs
  refine ⟨by rw [hs.2]; omega, ?_, by rw [hs.1]; exact hO, f4, by rw [hs.2]; exact f5, fun p h1 h2 => f6 p h1 (by omega), f7⟩
  intro e
  have := hs.1
  rw [e] at this
  simp at this
def DLsT (u : List UInt8) (l : List En) (cap : Nat) (q j o : Nat) (M : List AV) (co : Nat) (Lo : List AV) : AS := ⟨42, [(0, .bs 0 [] (.nd [.ar 32 .lf, .nd [.ar 32 .lf, .lf, .lf, .lf, .lf]]) 0 l.length cap), (1, .fn 120 [.pt 1 [], .pt 2 []]), (5, (AV.sc (.int .i64 ((j : Int))))), (6, (AV.sc (.int .i64 ((q : Int)))))], ⟨[(.ar cap (.nd [.ar 32 .lf, .nd [.ar 32 .lf, .lf, .lf, .lf, .lf]]) M, false), (.fn 102 [.pt 3 []], false), (.bs 4 [] (.nd [.ar 32 .lf, .lf, .lf, .lf, .lf]) 0 o co, false), (.ar 32 .lf (by8 u), false), (.ar co (.nd [.ar 32 .lf, .lf, .lf, .lf, .lf]) Lo, false)], [], 0⟩⟩
theorem c_dlT (u : List UInt8) (l : List En) (cap : Nat) (L : List AV) (hL : OKE l cap L) (hb : l.length < 4294967295) : FnOK Tryd.prog D 119 [.bs 0 [] (.nd [.ar 32 .lf, .nd [.ar 32 .lf, .lf, .lf, .lf, .lf]]) 0 l.length cap, .fn 120 [.pt 1 [], .pt 2 []]] [.ar cap (.nd [.ar 32 .lf, .nd [.ar 32 .lf, .lf, .lf, .lf, .lf]]) L, .fn 102 [.pt 3 []], .sl (.nd [.ar 32 .lf, .lf, .lf, .lf, .lf]) [] .ex, .ar 32 .lf (by8 u)] (DLpT u l cap L) := by
  have hlc := hL.1
  refine fnok_of_Ws [10, 7800006, 8004000] hmix tabOK Tryd.func119 rfl rfl (Nat.le_of_ble_eq_true rfl) ?_
  conv => whnf
  refine (c_ixT u l cap L hL hb).mono ?_
  rintro r st (⟨hn, rfl, rfl⟩ | ⟨j, hj, hn, hp, rfl, cp, Lo, hO, rfl⟩)
  · conv => whnf
    refine ⟨false, [], ?_⟩
    conv => whnf
    exact .inl ⟨hn, rfl, rfl⟩
  conv => whnf
  rw [w64 (x := (j : Int) + 1) (by omega) (by omega)]
  refine ⟨false, [0, 1, 5, 6], fun τ => ∃ q M co Lo, q ≤ l.length ∧ DLfT u l cap q M co Lo ∧ τ = DLsT u l cap q ((l.take q).filter fun e => !(pfT u) e).length (((l.take q).filter (pfT u)).map En.b).length M co Lo, fun τ => l.length - (slotI τ 6).toNat, ?_, ?_⟩
  · conv => whnf
    have hs := pfT_succ u l j hj
    have hk : ((l.take j).filter fun e => !(pfT u) e) = l.take j := List.filter_eq_self.2 fun e he => by
      have := List.filter_eq_nil_iff.1 hn e he
      simpa using this
    rw [if_pos hp, if_pos hp, hn, hk] at hs
    have e1 : ((l.take (j + 1)).filter (pfT u)).map En.b = [l[j].b] := by simpa using hs.1
    have e2 : ((l.take (j + 1)).filter fun e => !(pfT u) e) = l.take j := by simpa using hs.2
    refine ⟨j + 1, L, cp, Lo, by omega, ⟨?_, ?_, ?_, hL.2.1, ?_, fun p h _ => oke_at hL h, fun p h => ⟨_, oke_at hL h⟩⟩, ?_⟩
    · rw [e2, List.length_take]; omega
    · intro h; rw [h] at e1; simp at e1
    · rw [e1]; exact hO
    · rw [e2, List.length_take, Nat.min_eq_left (by omega)]
      have := congrArg (List.take j) hL.2.2
      rw [List.take_take, Nat.min_eq_left (by omega)] at this
      rw [this]; unfold enA; rw [List.map_take]
    · unfold DLsT
      rw [e1, e2, List.length_take, Nat.min_eq_left (by omega)]
      exact rfl
  rintro τ ⟨q, M, co, Lo, hq, hF, rfl⟩
  apply enter3
  intro kk kK
  conv => whnf
  refine Branch.of (fun h1 => ?_) (fun h1 => ?_) <;> rw [h1] <;> conv => whnf
  rotate_left
  · have h1 := of_decide_eq_false h1
    obtain rfl : q = l.length := by omega
    have hT : l.take l.length = l := List.take_length ..
    obtain ⟨f1, f2, f3, f4, f5, f6, f7⟩ := hF
    rw [hT] at f1 f2 f3 f5
    refine kK _ _ ?_
    conv => whnf
    rw [hT]
    repeat (refine And.intro (by first | omega) ?_; conv => whnf)
    refine ⟨false, [4], ?_⟩
    conv => whnf
    refine .inr ⟨_, co, Lo, f2, ?_, f3, rfl, rfl⟩
    exact oke_clr _ l.length cap M _ (by omega) hlc f4 f5
  have h1 := of_decide_eq_true h1
  have ih : q < l.length := by omega
  have hs := pfT_succ u l q ih
  refine ⟨[0, 1, 5, 6], fun τ => ∃ M co Lo, DLfT u l cap (q + 1) M co Lo ∧ τ = DLsT u l cap q ((l.take (q + 1)).filter fun e => !(pfT u) e).length (((l.take (q + 1)).filter (pfT u)).map En.b).length M co Lo, ?_, ?_⟩
  · rintro τ ⟨M, co, Lo, hF, rfl⟩
    conv => whnf
    rw [w64 (x := (q : Int) + 1) (by omega) (by omega)]
    refine kK _ _ ?_
    conv => whnf
    refine ⟨⟨q + 1, M, co, Lo, by omega, hF, rfl⟩, ?_⟩
    show l.length - ((q : Int) + 1).toNat < l.length - (q : Int).toNat
    omega
  have hF0 := hF
  obtain ⟨f1, f2, f3, f4, f5, f6, f7⟩ := hF
  have hat := f6 q ih (Nat.le_refl _)
  refine ⟨by omega, by omega, ?_⟩
  conv => whnf
  refine ⟨_, (show M[0 + ((q : Nat) : Int).toNat]? = some (AV.st [.ar 32 .lf (by8 (l[q]).h), (AV.st [.ar 32 .lf (by8 (l[q]).b.p), .sc (.int .i64 (l[q]).b.v), .sc (.int .i64 (l[q]).b.h), .sc (.int .i64 (l[q]).b.by_), .sl (.nd [.lf, .lf, .lf, .lf, .lf, .lf, .lf]) (txsA (l[q]).b.txs) .ro])]) by rw [Nat.zero_add, Int.toNat_natCast]; exact hat), ?_⟩
  conv => whnf
  have hol : (((l.take q).filter (pfT u)).map En.b).length ≤ q := by
    rw [List.length_map]
    have := List.length_filter_le (pfT u) (l.take q)
    rw [List.length_take] at this
    omega
  generalize hO : (((l.take q).filter (pfT u)).map En.b) = o at *
  generalize hK : ((l.take q).filter fun e => !(pfT u) e) = kp at *
  refine (c_pt1T u l[q] o co Lo f3 (by omega)).mono ?_
  rintro r st (⟨hp, rfl, rfl⟩ | ⟨hp, rfl, cp, Lo2, hO2, rfl | rfl⟩)
  · conv => whnf
    obtain ⟨y, hy⟩ := f7 kp.length (by omega)
    repeat (refine And.intro (by first | omega) ?_; conv => whnf)
    refine ⟨_, show M[0 + ((kp.length : Nat) : Int).toNat]? = some _ by rw [Nat.zero_add, Int.toNat_natCast]; exact hy, ?_⟩
    conv => whnf
    rw [w64 (x := (kp.length : Int) + 1) (by omega) (by omega)]
    refine ⟨false, [0, 1, 2, 3, 4, 5], 1, ?_⟩
    conv => whnf
    subst hO hK
    refine ⟨_, co, Lo, dlf_keepT u hF0 ih hlc hp, ?_⟩
    unfold DLsT
    rw [hs.1, hs.2, hp]
    rw [if_neg (by decide), if_neg (by decide), List.append_nil, List.length_append]
    exact rfl
  · conv => whnf
    refine ⟨false, [0, 1, 2, 3, 4, 5], 1, ?_⟩
    conv => whnf
    subst hO hK
    refine ⟨_, cp, Lo2, dlf_takeT u hF0 ih hp hO2, ?_⟩
    unfold DLsT
    rw [hs.1, hs.2, hp]
    rw [if_pos rfl, if_pos rfl, List.append_nil]
  · conv => whnf
    refine ⟨false, [0, 1, 2, 3, 6, 4, 5], 1, ?_⟩
    conv => whnf
    subst hO hK
    refine ⟨_, cp, Lo2, dlf_takeT u hF0 ih hp hO2, ?_⟩
    unfold DLsT
    rw [hs.1, hs.2, hp]
    rw [if_pos rfl, if_pos rfl, List.append_nil]
theorem pfD_succ (u : Int) (l : List En) (i : Nat) (h : i < l.length) : ((l.take (i + 1)).filter (pfD u)).map En.b = ((l.take i).filter (pfD u)).map En.b ++ (if (pfD u) l[i] = true then [l[i].b] else []) ∧ (l.take (i + 1)).filter (fun e => !(pfD u) e) = (l.take i).filter (fun e => !(pfD u) e) ++ (if (pfD u) l[i] = true then [] else [l[i]]) := by
  rw [List.take_succ_eq_append_getElem h, List.filter_append, List.filter_append, List.map_append]
  cases hp : (pfD u) l[i] <;> simp [hp]
theorem kpD_le (u : Int) (l : List En) : (l.filter fun e => !(pfD u) e).length ≤ l.length := List.length_filter_le ..
def DLpD (u : Int) (l : List En) (cap : Nat) (L : List AV) (r : AV) (st : List AV) : Prop :=
  (l.filter (pfD u) = [] ∧ r = .bs 0 [] (.nd [.ar 32 .lf, .nd [.ar 32 .lf, .lf, .lf, .lf, .lf]]) 0 l.length cap ∧ st = [.ar cap (.nd [.ar 32 .lf, .nd [.ar 32 .lf, .lf, .lf, .lf, .lf]]) L, .fn 103 [.pt 3 []], .sl (.nd [.ar 32 .lf, .lf, .lf, .lf, .lf]) [] .ex, .sc (.int .i64 u)]) ∨
  ∃ L' cp Lo, l.filter (pfD u) ≠ [] ∧ OKE (l.filter fun e => !(pfD u) e) cap L' ∧ OKX ((l.filter (pfD u)).map En.b) cp Lo ∧ r = .bs 0 [] (.nd [.ar 32 .lf, .nd [.ar 32 .lf, .lf, .lf, .lf, .lf]]) 0 (l.filter fun e => !(pfD u) e).length cap ∧ st = [.ar cap (.nd [.ar 32 .lf, .nd [.ar 32 .lf, .lf, .lf, .lf, .lf]]) L', .fn 103 [.pt 3 []], .bs 4 [] (.nd [.ar 32 .lf, .lf, .lf, .lf, .lf]) 0 ((l.filter (pfD u)).map En.b).length cp, .sc (.int .i64 u), .ar cp (.nd [.ar 32 .lf, .lf, .lf, .lf, .lf]) Lo]
structure DLfD (u : Int) (l : List En) (cap : Nat) (q : Nat) (M : List AV) (co : Nat) (Lo : List AV) : Prop where
  kp : ((l.take q).filter fun e => !(pfD u) e).length < q
  ne : (l.take q).filter (pfD u) ≠ []
  ox : OKX (((l.take q).filter (pfD u)).map En.b) co Lo
  ml : M.length = cap
  mt : M.take ((l.take q).filter fun e => !(pfD u) e).length = enA ((l.take q).filter fun e => !(pfD u) e)
  mx : ∀ (p : Nat) (h : p < l.length), q ≤ p → M[p]? = some (AV.st [.ar 32 .lf (by8 (l[p]).h), (AV.st [.ar 32 .lf (by8 (l[p]).b.p), .sc (.int .i64 (l[p]).b.v), .sc (.int .i64 (l[p]).b.h), .sc (.int .i64 (l[p]).b.by_), .sl (.nd [.lf, .lf, .lf, .lf, .lf, .lf, .lf]) (txsA (l[p]).b.txs) .ro])])
  me : ∀ p, p < l.length → ∃ y : En, M[p]? = some (AV.st [.ar 32 .lf (by8 (y).h), (AV.st [.ar 32 .lf (by8 (y).b.p), .sc (.int .i64 (y).b.v), .sc (.int .i64 (y).b.h), .sc (.int .i64 (y).b.by_), .sl (.nd [.lf, .lf, .lf, .lf, .lf, .lf, .lf]) (txsA (y).b.txs) .ro])])
theorem dlf_keepD (u : Int) {l : List En} {cap q : Nat} {M : List AV} {co : Nat} {Lo : List AV} (h : DLfD u l cap q M co Lo) (ih : q < l.length) (hc : l.length ≤ cap) (hp : (pfD u) l[q] = false) : DLfD u l cap (q + 1) (M.set (0 + ((((l.take q).filter fun e => !(pfD u) e).length : Nat) : Int).toNat) (AV.st [.ar 32 .lf (by8 (l[q]).h), (AV.st [.ar 32 .lf (by8 (l[q]).b.p), .sc (.int .i64 (l[q]).b.v), .sc (.int .i64 (l[q]).b.h), .sc (.int .i64 (l[q]).b.by_), .sl (.nd [.lf, .lf, .lf, .lf, .lf, .lf, .lf]) (txsA (l[q]).b.txs) .ro])])) co Lo := by
  obtain ⟨f1, f2, f3, f4, f5, f6, f7⟩ := h
  have hs := pfD_succ u l q ih
  rw [hp, if_neg (by decide), if_neg (by decide), List.append_nil] at hs
  rw [Nat.zero_add, Int.toNat_natCast]
  refine ⟨?_, ?_, ?_, by rw [List.length_set]; exact f4, ?_, ?_, ?_⟩
  · rw [hs.2, List.length_append, List.length_singleton]
    omega
  · intro e
    have := hs.1
    rw [e] at this
    exact f2 (List.map_eq_nil_iff.1 this.symm)
  · rw [hs.1]
    exact f3
  · rw [hs.2, List.length_append, List.length_singleton]
    generalize ((l.take q).filter fun e => !(pfD u) e) = kp at *
    rw [List.take_succ_eq_append_getElem (by rw [List.length_set]; omega), List.take_set_of_le (Nat.le_refl _), f5, List.getElem_set_self]
    simp [enA]
  · intro p hpl hqp
    rw [List.getElem?_set, if_neg (by omega)]
    exact f6 p hpl (by omega)
  · intro p hpl
    rw [List.getElem?_set]
    split
    · rw [if_pos (by omega)]
      exact ⟨l[q], rfl⟩
    · exact f7 p hpl
theorem dlf_takeD (u : Int) {l : List En} {cap q : Nat} {M : List AV} {co cp : Nat} {Lo Lo2 : List AV} (h : DLfD u l cap q M co Lo) (ih : q < l.length) (hp : (pfD u) l[q] = true) (hO : OKX (((l.take q).filter (pfD u)).map En.b ++ [l[q].b]) cp Lo2) : DLfD u l cap (q + 1) M cp Lo2 := by
  obtain ⟨f1, f2, f3, f4, f5, f6, f7⟩ := h
  have hs := pfD_succ u l q ih
  rw [hp, if_pos rfl, if_pos rfl, List.append_nil] at hs
  refine ⟨by rw [hs.2]; omega, ?_, by rw [hs.1]; exact hO, f4, by rw [hs.2]; exact f5, fun p h1 h2 => f6 p h1 (by omega), f7⟩
  intro e
  have := hs.1
  rw [e] at this
  simp at this
def DLsD (u : Int) (l : List En) (cap : Nat) (q j o : Nat) (M : List AV) (co : Nat) (Lo : List AV) : AS := ⟨42, [(0, .bs 0 [] (.nd [.ar 32 .lf, .nd [.ar 32 .lf, .lf, .lf, .lf, .lf]]) 0 l.length cap), (1, .fn 120 [.pt 1 [], .pt 2 []]), (5, (AV.sc (.int .i64 ((j : Int))))), (6, (AV.sc (.int .i64 ((q : Int)))))], ⟨[(.ar cap (.nd [.ar 32 .lf, .nd [.ar 32 .lf, .lf, .lf, .lf, .lf]]) M, false), (.fn 103 [.pt 3 []], false), (.bs 4 [] (.nd [.ar 32 .lf, .lf, .lf, .lf, .lf]) 0 o co, false), (.sc (.int .i64 u), false), (.ar co (.nd [.ar 32 .lf, .lf, .lf, .lf, .lf]) Lo, false)], [], 0⟩⟩
theorem c_dlD (u : Int) (l : List En) (cap : Nat) (L : List AV) (hL : OKE l cap L) (hb : l.length < 4294967295) : FnOK Tryd.prog D 119 [.bs 0 [] (.nd [.ar 32 .lf, .nd [.ar 32 .lf, .lf, .lf, .lf, .lf]]) 0 l.length cap, .fn 120 [.pt 1 [], .pt 2 []]] [.ar cap (.nd [.ar 32 .lf, .nd [.ar 32 .lf, .lf, .lf, .lf, .lf]]) L, .fn 103 [.pt 3 []], .sl (.nd [.ar 32 .lf, .lf, .lf, .lf, .lf]) [] .ex, .sc (.int .i64 u)] (DLpD u l cap L) := by
  have hlc := hL.1
  refine fnok_of_Ws [10, 7800006, 8004000] hmix tabOK Tryd.func119 rfl rfl (Nat.le_of_ble_eq_true rfl) ?_
  conv => whnf
  refine (c_ixD u l cap L hL hb).mono ?_
  rintro r st (⟨hn, rfl, rfl⟩ | ⟨j, hj, hn, hp, rfl, cp, Lo, hO, rfl⟩)
  · conv => whnf
    refine ⟨false, [], ?_⟩
    conv => whnf
    exact .inl ⟨hn, rfl, rfl⟩
  conv => whnf
  rw [w64 (x := (j : Int) + 1) (by omega) (by omega)]
  refine ⟨false, [0, 1, 5, 6], fun τ => ∃ q M co Lo, q ≤ l.length ∧ DLfD u l cap q M co Lo ∧ τ = DLsD u l cap q ((l.take q).filter fun e => !(pfD u) e).length (((l.take q).filter (pfD u)).map En.b).length M co Lo, fun τ => l.length - (slotI τ 6).toNat, ?_, ?_⟩
  · conv => whnf
    have hs := pfD_succ u l j hj
    have hk : ((l.take j).filter fun e => !(pfD u) e) = l.take j := List.filter_eq_self.2 fun e he => by
      have := List.filter_eq_nil_iff.1 hn e he
      simpa using this
    rw [if_pos hp, if_pos hp, hn, hk] at hs
    have e1 : ((l.take (j + 1)).filter (pfD u)).map En.b = [l[j].b] := by simpa using hs.1
    have e2 : ((l.take (j + 1)).filter fun e => !(pfD u) e) = l.take j := by simpa using hs.2
    refine ⟨j + 1, L, cp, Lo, by omega, ⟨?_, ?_, ?_, hL.2.1, ?_, fun p h _ => oke_at hL h, fun p h => ⟨_, oke_at hL h⟩⟩, ?_⟩
    · rw [e2, List.length_take]; omega
    · intro h; rw [h] at e1; simp at e1
    · rw [e1]; exact hO
    · rw [e2, List.length_take, Nat.min_eq_left (by omega)]
      have := congrArg (List.take j) hL.2.2
      rw [List.take_take, Nat.min_eq_left (by omega)] at this
      rw [this]; unfold enA; rw [List.map_take]
    · unfold DLsD
      rw [e1, e2, List.length_take, Nat.min_eq_left (by omega)]
      exact rfl
  rintro τ ⟨q, M, co, Lo, hq, hF, rfl⟩
  apply enter3
  intro kk kK
  conv => whnf
  refine Branch.of (fun h1 => ?_) (fun h1 => ?_) <;> rw [h1] <;> conv => whnf
  rotate_left
  · have h1 := of_decide_eq_false h1
    obtain rfl : q = l.length := by omega
    have hT : l.take l.length = l := List.take_length ..
    obtain ⟨f1, f2, f3, f4, f5, f6, f7⟩ := hF
    rw [hT] at f1 f2 f3 f5
    refine kK _ _ ?_
    conv => whnf
    rw [hT]
    repeat (refine And.intro (by first | omega) ?_; conv => whnf)
    refine ⟨false, [4], ?_⟩
    conv => whnf
    refine .inr ⟨_, co, Lo, f2, ?_, f3, rfl, rfl⟩
    exact oke_clr _ l.length cap M _ (by omega) hlc f4 f5
  have h1 := of_decide_eq_true h1
  have ih : q < l.length := by omega
  have hs := pfD_succ u l q ih
  refine ⟨[0, 1, 5, 6], fun τ => ∃ M co Lo, DLfD u l cap (q + 1) M co Lo ∧ τ = DLsD u l cap q ((l.take (q + 1)).filter fun e => !(pfD u) e).length (((l.take (q + 1)).filter (pfD u)).map En.b).length M co Lo, ?_, ?_⟩
  · rintro τ ⟨M, co, Lo, hF, rfl⟩
    conv => whnf
    rw [w64 (x := (q : Int) + 1) (by omega) (by omega)]
    refine kK _ _ ?_
    conv => whnf
    refine ⟨⟨q + 1, M, co, Lo, by omega, hF, rfl⟩, ?_⟩
    show l.length - ((q : Int) + 1).toNat < l.length - (q : Int).toNat
    omega
  have hF0 := hF
  obtain ⟨f1, f2, f3, f4, f5, f6, f7⟩ := hF
  have hat := f6 q ih (Nat.le_refl _)
  refine ⟨by omega, by omega, ?_⟩
  conv => whnf
  refine ⟨_, (show M[0 + ((q : Nat) : Int).toNat]? = some (AV.st [.ar 32 .lf (by8 (l[q]).h), (AV.st [.ar 32 .lf (by8 (l[q]).b.p), .sc (.int .i64 (l[q]).b.v), .sc (.int .i64 (l[q]).b.h), .sc (.int .i64 (l[q]).b.by_), .sl (.nd [.lf, .lf, .lf, .lf, .lf, .lf, .lf]) (txsA (l[q]).b.txs) .ro])]) by rw [Nat.zero_add, Int.toNat_natCast]; exact hat), ?_⟩
  conv => whnf
  have hol : (((l.take q).filter (pfD u)).map En.b).length ≤ q := by
    rw [List.length_map]
    have := List.length_filter_le (pfD u) (l.take q)
    rw [List.length_take] at this
    omega
  generalize hO : (((l.take q).filter (pfD u)).map En.b) = o at *
  generalize hK : ((l.take q).filter fun e => !(pfD u) e) = kp at *
  refine (c_pt1D u l[q] o co Lo f3 (by omega)).mono ?_
  rintro r st (⟨hp, rfl, rfl⟩ | ⟨hp, rfl, cp, Lo2, hO2, rfl | rfl⟩)
  · conv => whnf
    obtain ⟨y, hy⟩ := f7 kp.length (by omega)
    repeat (refine And.intro (by first | omega) ?_; conv => whnf)
    refine ⟨_, show M[0 + ((kp.length : Nat) : Int).toNat]? = some _ by rw [Nat.zero_add, Int.toNat_natCast]; exact hy, ?_⟩
    conv => whnf
    rw [w64 (x := (kp.length : Int) + 1) (by omega) (by omega)]
    refine ⟨false, [0, 1, 2, 3, 4, 5], 1, ?_⟩
    conv => whnf
    subst hO hK
    refine ⟨_, co, Lo, dlf_keepD u hF0 ih hlc hp, ?_⟩
    unfold DLsD
    rw [hs.1, hs.2, hp]
    rw [if_neg (by decide), if_neg (by decide), List.append_nil, List.length_append]
    exact rfl
  · conv => whnf
    refine ⟨false, [0, 1, 2, 3, 4, 5], 1, ?_⟩
    conv => whnf
    subst hO hK
    refine ⟨_, cp, Lo2, dlf_takeD u hF0 ih hp hO2, ?_⟩
    unfold DLsD
    rw [hs.1, hs.2, hp]
    rw [if_pos rfl, if_pos rfl, List.append_nil]
  · conv => whnf
    refine ⟨false, [0, 1, 2, 3, 6, 4, 5], 1, ?_⟩
    conv => whnf
    subst hO hK
    refine ⟨_, cp, Lo2, dlf_takeD u hF0 ih hp hO2, ?_⟩
    unfold DLsD
    rw [hs.1, hs.2, hp]
    rw [if_pos rfl, if_pos rfl, List.append_nil]
end Go.WL.T6d
