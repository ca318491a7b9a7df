/- Blocks whose parents are not there yet: what is there. No condition. -/
import Derived.Test.YtcmdkiejkheahaaDoorPart32
import Derived.Test.YtcmdkiejkheahaaDoorWordsD
set_option linter.unusedVariables false
set_option linter.unusedSimpArgs false
namespace Go.WL.T6d
open Go.WL Go.Proofs
set_option maxRecDepth 20000
set_option maxHeartbeats 8000000
structure En where
  h : List UInt8
  b : Bl
def blA (l : List Bl) : List AV := l.map fun b => (AV.st [.ar 32 .lf (by8 (b).p), .sc (.int .i64 (b).v), .sc (.int .i64 (b).h), .sc (.int .i64 (b).by_), .sl (.nd [.lf, .lf, .lf, .lf, .lf, .lf, .lf]) (txsA (b).txs) .ro])
theorem bl_len (l : List Bl) : (blA l).length = l.length := List.length_map ..
theorem bl_at {l : List Bl} {i : Nat} (h : i < l.length) : (blA l)[((i : Nat) : Int).toNat]? = some (AV.st [.ar 32 .lf (by8 (l[i]).p), .sc (.int .i64 (l[i]).v), .sc (.int .i64 (l[i]).h), .sc (.int .i64 (l[i]).by_), .sl (.nd [.lf, .lf, .lf, .lf, .lf, .lf, .lf]) (txsA (l[i]).txs) .ro]) := by simp [blA, h]
def enA (l : List En) : List AV := l.map fun e => (AV.st [.ar 32 .lf (by8 (e).h), (AV.st [.ar 32 .lf (by8 (e).b.p), .sc (.int .i64 (e).b.v), .sc (.int .i64 (e).b.h), .sc (.int .i64 (e).b.by_), .sl (.nd [.lf, .lf, .lf, .lf, .lf, .lf, .lf]) (txsA (e).b.txs) .ro])])
theorem en_len (l : List En) : (enA l).length = l.length := List.length_map ..
theorem en_at {l : List En} {i : Nat} (h : i < l.length) : (enA l)[i]? = some (AV.st [.ar 32 .lf (by8 (l[i]).h), (AV.st [.ar 32 .lf (by8 (l[i]).b.p), .sc (.int .i64 (l[i]).b.v), .sc (.int .i64 (l[i]).b.h), .sc (.int .i64 (l[i]).b.by_), .sl (.nd [.lf, .lf, .lf, .lf, .lf, .lf, .lf]) (txsA (l[i]).b.txs) .ro])]) := by simp [enA, h]
/-- Blocks in a box, from off on, of more places. -/
def OKE (l : List En) (cap : Nat) (L : List AV) : Prop := l.length ≤ cap ∧ L.length = cap ∧ L.take l.length = enA l
theorem oke_at {l : List En} {cap : Nat} {L : List AV} (h : OKE l cap L) {i : Nat} (hi : i < l.length) : L[i]? = some (AV.st [.ar 32 .lf (by8 (l[i]).h), (AV.st [.ar 32 .lf (by8 (l[i]).b.p), .sc (.int .i64 (l[i]).b.v), .sc (.int .i64 (l[i]).b.h), .sc (.int .i64 (l[i]).b.by_), .sl (.nd [.lf, .lf, .lf, .lf, .lf, .lf, .lf]) (txsA (l[i]).b.txs) .ro])]) := by
  rw [at_take h.2.2 hi]
  exact en_at hi
def hasE (l : List En) (h : List UInt8) : Bool := l.any fun e => e.h == h
theorem c_has1 (e : En) (h : List UInt8) : FnOK Tryd.prog D 122 [(AV.st [.ar 32 .lf (by8 (e).h), (AV.st [.ar 32 .lf (by8 (e).b.p), .sc (.int .i64 (e).b.v), .sc (.int .i64 (e).b.h), .sc (.int .i64 (e).b.by_), .sl (.nd [.lf, .lf, .lf, .lf, .lf, .lf, .lf]) (txsA (e).b.txs) .ro])]), .pt 0 []] [.ar 32 .lf (by8 h)] (fun r st => r = (AV.sc (.bool (e.h == h))) ∧ st = [.ar 32 .lf (by8 h)]) := by
  refine fnok_of_W hmix tabOK Tryd.func122 rfl rfl (Nat.le_of_ble_eq_true rfl) ?_
  conv => whnf
  refine ⟨e.h, h, rfl, rfl, ?_⟩
  conv => whnf
  refine ⟨false, [], ?_⟩
  conv => whnf
  exact ⟨rfl, rfl⟩
theorem c_idxH0 (h : List UInt8) : FnOK Tryd.prog D 130 [.sl (.nd [.ar 32 .lf, .nd [.ar 32 .lf, .lf, .lf, .lf, .lf]]) [] .ex, .fn 122 [.pt 0 []]] [.ar 32 .lf (by8 h)] (fun r st => r = (AV.sc (.int .i64 ((-1)))) ∧ st = [.ar 32 .lf (by8 h)]) := by
  refine fnok_of_W hmix tabOK Tryd.func130 rfl rfl (Nat.le_of_ble_eq_true rfl) ?_
  conv => whnf
  refine ⟨false, [0, 1, 7, 8], fun τ => τ = ⟨19, [(0, .sl (.nd [.ar 32 .lf, .nd [.ar 32 .lf, .lf, .lf, .lf, .lf]]) [] .ex), (1, .fn 122 [.pt 0 []]), (7, (AV.sc (.int .i64 (0)))), (8, (AV.sc (.int .i64 (0))))], ⟨[(.ar 32 .lf (by8 h), false)], [], 0⟩⟩, fun τ => 0, ?_, ?_⟩
  · conv => whnf
    try exact rfl
  rintro τ rfl
  conv => whnf
  refine ⟨false, [], ?_⟩
  conv => whnf
  exact ⟨rfl, rfl⟩
theorem c_idxH1 (l : List En) (h : List UInt8) (cap : Nat) (L : List AV) (hL : OKE l cap L) (hb : l.length < 4294967296) : FnOK Tryd.prog D 130 [.bs 0 [] (.nd [.ar 32 .lf, .nd [.ar 32 .lf, .lf, .lf, .lf, .lf]]) 0 l.length cap, .fn 122 [.pt 1 []]] [.ar cap (.nd [.ar 32 .lf, .nd [.ar 32 .lf, .lf, .lf, .lf, .lf]]) L, .ar 32 .lf (by8 h)]
    (fun r st => (∃ k : Int, r = (AV.sc (.int .i64 (k))) ∧ decide (k ≥ 0) = hasE l h) ∧ st = [.ar cap (.nd [.ar 32 .lf, .nd [.ar 32 .lf, .lf, .lf, .lf, .lf]]) L, .ar 32 .lf (by8 h)]) := by
  refine fnok_of_W hmix tabOK Tryd.func130 rfl rfl (Nat.le_of_ble_eq_true rfl) ?_
  conv => whnf
  refine ⟨false, [0, 1, 7, 8], fun τ => ∃ i : Nat, i ≤ l.length ∧ hasE (l.take i) h = false ∧ τ = ⟨19, [(0, .bs 0 [] (.nd [.ar 32 .lf, .nd [.ar 32 .lf, .lf, .lf, .lf, .lf]]) 0 l.length cap), (1, .fn 122 [.pt 1 []]), (7, (AV.sc (.int .i64 ((l.length : Int))))), (8, (AV.sc (.int .i64 ((i : Int)))))], ⟨[(.ar cap (.nd [.ar 32 .lf, .nd [.ar 32 .lf, .lf, .lf, .lf, .lf]]) L, false), (.ar 32 .lf (by8 h), false)], [], 0⟩⟩, fun τ => l.length - (slotI τ 8).toNat, ?_, ?_⟩
  · conv => whnf
    exact ⟨0, by omega, rfl, rfl⟩
  rintro τ ⟨i, hi, hn, rfl⟩
  apply enter3
  intro kk kK
  conv => whnf
  refine Branch.of (fun h1 => ?_) (fun h1 => ?_) <;> rw [h1] <;> conv => whnf
  rotate_left
  · have h1 := of_decide_eq_false h1
    obtain rfl : i = l.length := by omega
    rw [List.take_length] at hn
    refine kK _ _ ?_
    conv => whnf
    refine ⟨false, [], ?_⟩
    conv => whnf
    exact ⟨⟨-1, rfl, by rw [hn]; decide⟩, rfl⟩
  have h1 := of_decide_eq_true h1
  have ih : i < l.length := by omega
  have hat := oke_at hL ih
  refine ⟨by omega, by omega, ?_⟩
  conv => whnf
  refine ⟨_, (show L[0 + ((i : Nat) : Int).toNat]? = some (AV.st [.ar 32 .lf (by8 (l[i]).h), (AV.st [.ar 32 .lf (by8 (l[i]).b.p), .sc (.int .i64 (l[i]).b.v), .sc (.int .i64 (l[i]).b.h), .sc (.int .i64 (l[i]).b.by_), .sl (.nd [.lf, .lf, .lf, .lf, .lf, .lf, .lf]) (txsA (l[i]).b.txs) .ro])]) by rw [Nat.zero_add, Int.toNat_natCast]; exact hat), ?_⟩
  conv => whnf
  refine (c_has1 l[i] h).mono fun r st e => ?_
  obtain ⟨rfl, rfl⟩ := e
  conv => whnf
  cases he : (l[i].h == h) with
  | true =>
    conv => whnf
    refine kK _ _ ?_
    conv => whnf
    refine ⟨false, [], ?_⟩
    conv => whnf
    refine ⟨⟨i, rfl, ?_⟩, rfl⟩
    rw [decide_eq_true (by omega)]
    exact (List.any_eq_true.2 ⟨l[i], List.getElem_mem ih, he⟩).symm
  | false =>
    conv => whnf
    rw [w64 (x := (i : Int) + 1) (by omega) (by omega)]
    refine kK _ _ ?_
    conv => whnf
    refine ⟨⟨i + 1, by omega, ?_, rfl⟩, ?_⟩
    · unfold hasE at hn ⊢
      rw [List.take_succ_eq_append_getElem ih, List.any_append, hn]
      simp [he]
    · show l.length - ((i : Int) + 1).toNat < l.length - (i : Int).toNat
      omega
theorem c_anyH0 (h : List UInt8) : FnOK Tryd.prog D 121 [.sl (.nd [.ar 32 .lf, .nd [.ar 32 .lf, .lf, .lf, .lf, .lf]]) [] .ex, .fn 122 [.pt 0 []]] [.ar 32 .lf (by8 h)] (fun r st => r = (AV.sc (.bool (false))) ∧ st = [.ar 32 .lf (by8 h)]) := by
  refine fnok_of_Ws [7] hmix tabOK Tryd.func121 rfl rfl (Nat.le_of_ble_eq_true rfl) ?_
  conv => whnf
  refine (c_idxH0 h).mono fun r st e => ?_
  obtain ⟨rfl, rfl⟩ := e
  conv => whnf
  refine ⟨false, [], ?_⟩
  conv => whnf
  exact ⟨rfl, rfl⟩
theorem c_anyH1 (l : List En) (h : List UInt8) (cap : Nat) (L : List AV) (hL : OKE l cap L) (hb : l.length < 4294967296) : FnOK Tryd.prog D 121 [.bs 0 [] (.nd [.ar 32 .lf, .nd [.ar 32 .lf, .lf, .lf, .lf, .lf]]) 0 l.length cap, .fn 122 [.pt 1 []]] [.ar cap (.nd [.ar 32 .lf, .nd [.ar 32 .lf, .lf, .lf, .lf, .lf]]) L, .ar 32 .lf (by8 h)]
    (fun r st => r = (AV.sc (.bool (hasE l h))) ∧ st = [.ar cap (.nd [.ar 32 .lf, .nd [.ar 32 .lf, .lf, .lf, .lf, .lf]]) L, .ar 32 .lf (by8 h)]) := by
  refine fnok_of_Ws [7] hmix tabOK Tryd.func121 rfl rfl (Nat.le_of_ble_eq_true rfl) ?_
  conv => whnf
  refine (c_idxH1 l h cap L hL hb).mono ?_
  rintro r st ⟨⟨k, rfl, hk⟩, rfl⟩
  conv => whnf
  rw [hk]
  refine ⟨false, [], ?_⟩
  conv => whnf
  exact ⟨rfl, rfl⟩
theorem c_ohas0 (h : List UInt8) : FnOK Tryd.prog D 105 [.pt 0 [], .ar 32 .lf (by8 h)] [.st [.sl (.nd [.ar 32 .lf, .nd [.ar 32 .lf, .lf, .lf, .lf, .lf]]) [] .ex, (AV.sc (.bool (true)))]] (fun r st => r = (AV.sc (.bool (false))) ∧ st = [.st [.sl (.nd [.ar 32 .lf, .nd [.ar 32 .lf, .lf, .lf, .lf, .lf]]) [] .ex, (AV.sc (.bool (true)))]]) := by
  refine fnok_of_Ws [10] hmix tabOK Tryd.func105 rfl rfl (Nat.le_of_ble_eq_true rfl) ?_
  conv => whnf
  refine (c_anyH0 h).mono fun r st e => ?_
  obtain ⟨rfl, rfl⟩ := e
  conv => whnf
  refine ⟨false, [], ?_⟩
  conv => whnf
  exact ⟨rfl, rfl⟩
theorem c_ohas1 (l : List En) (h : List UInt8) (cap : Nat) (L : List AV) (hL : OKE l cap L) (hb : l.length < 4294967296) : FnOK Tryd.prog D 105 [.pt 0 [], .ar 32 .lf (by8 h)] [.st [.bs 1 [] (.nd [.ar 32 .lf, .nd [.ar 32 .lf, .lf, .lf, .lf, .lf]]) 0 l.length cap, (AV.sc (.bool (true)))], .ar cap (.nd [.ar 32 .lf, .nd [.ar 32 .lf, .lf, .lf, .lf, .lf]]) L] (fun r st => r = (AV.sc (.bool (hasE l h))) ∧ st = [.st [.bs 1 [] (.nd [.ar 32 .lf, .nd [.ar 32 .lf, .lf, .lf, .lf, .lf]]) 0 l.length cap, (AV.sc (.bool (true)))], .ar cap (.nd [.ar 32 .lf, .nd [.ar 32 .lf, .lf, .lf, .lf, .lf]]) L]) := by
  refine fnok_of_Ws [10] hmix tabOK Tryd.func105 rfl rfl (Nat.le_of_ble_eq_true rfl) ?_
  conv => whnf
  refine (c_anyH1 l h cap L hL hb).mono fun r st e => ?_
  obtain ⟨rfl, rfl⟩ := e
  conv => whnf
  refine ⟨false, [], ?_⟩
  conv => whnf
  exact ⟨rfl, rfl⟩
end Go.WL.T6d
