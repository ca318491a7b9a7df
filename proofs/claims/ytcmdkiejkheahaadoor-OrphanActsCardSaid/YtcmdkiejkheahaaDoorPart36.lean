/- Blocks whose parents are not there yet: which are meant. No condition. -/
import Derived.Test.YtcmdkiejkheahaaDoorPart35
set_option linter.unusedVariables false
set_option linter.unusedSimpArgs false
namespace Go.WL.T6d
open Go.WL Go.Proofs
set_option maxRecDepth 20000
set_option maxHeartbeats 8000000
theorem bl_at' {l : List Bl} {i : Nat} (h : i < l.length) : (blA l)[i]? = some (AV.st [.ar 32 .lf (by8 (l[i]).p), .sc (.int .i64 (l[i]).v), .sc (.int .i64 (l[i]).h), .sc (.int .i64 (l[i]).by_), .sl (.nd [.lf, .lf, .lf, .lf, .lf, .lf, .lf]) (txsA (l[i]).txs) .ro]) := by simp [blA, h]
def OKX (l : List Bl) (cap : Nat) (L : List AV) : Prop := l.length ≤ cap ∧ L.length = cap ∧ L.take l.length = blA l
theorem okx_in {l : List Bl} {cap : Nat} {L : List AV} (h : OKX l cap L) (x : Bl) (hc : l.length + 1 ≤ cap) : OKX (l ++ [x]) cap (L.take (0 + l.length) ++ [(AV.st [.ar 32 .lf (by8 (x).p), .sc (.int .i64 (x).v), .sc (.int .i64 (x).h), .sc (.int .i64 (x).by_), .sl (.nd [.lf, .lf, .lf, .lf, .lf, .lf, .lf]) (txsA (x).txs) .ro])] ++ L.drop (0 + l.length + 1)) := by
  rw [Nat.zero_add]
  obtain ⟨h1, h2, h3⟩ := h
  refine ⟨by rw [List.length_append]; exact hc, ?_, ?_⟩
  · simp only [List.length_append, List.length_take, List.length_drop, List.length_cons, List.length_nil]
    omega
  · rw [h3, List.length_append, List.take_append_of_le_length (by simp [blA])]
    rw [List.take_of_length_le (by simp [blA])]
    simp [blA]
theorem okx_new {l : List Bl} {cap cp : Nat} {L : List AV} (h : OKX l cap L) (x : Bl) (z : AV) (hc : l.length + 1 ≤ cp) : OKX (l ++ [x]) cp ((L.drop 0).take l.length ++ [(AV.st [.ar 32 .lf (by8 (x).p), .sc (.int .i64 (x).v), .sc (.int .i64 (x).h), .sc (.int .i64 (x).by_), .sl (.nd [.lf, .lf, .lf, .lf, .lf, .lf, .lf]) (txsA (x).txs) .ro])] ++ List.replicate (cp - (l.length + 1)) z) := by
  obtain ⟨h1, h2, h3⟩ := h
  refine ⟨by rw [List.length_append]; exact hc, ?_, ?_⟩
  · rw [List.drop_zero, h3]
    simp only [List.length_append, bl_len, List.length_replicate, List.length_cons, List.length_nil]
    omega
  · rw [List.drop_zero, h3, List.length_append, List.take_append_of_le_length (by simp [blA])]
    rw [List.take_of_length_le (by simp [blA])]
    simp [blA]
theorem okx_one (x : Bl) (z : AV) {cp : Nat} (hc : 1 ≤ cp) : OKX [x] cp ([] ++ [(AV.st [.ar 32 .lf (by8 (x).p), .sc (.int .i64 (x).v), .sc (.int .i64 (x).h), .sc (.int .i64 (x).by_), .sl (.nd [.lf, .lf, .lf, .lf, .lf, .lf, .lf]) (txsA (x).txs) .ro])] ++ List.replicate (cp - 1) z) := by
  refine ⟨hc, by simp; omega, ?_⟩
  simp [blA]
def pfT (u : List UInt8) : En → Bool := fun e : En => e.b.p == u
theorem c_tk1T (u : List UInt8) (x : Bl) : FnOK Tryd.prog D 102 [(AV.st [.ar 32 .lf (by8 (x).p), .sc (.int .i64 (x).v), .sc (.int .i64 (x).h), .sc (.int .i64 (x).by_), .sl (.nd [.lf, .lf, .lf, .lf, .lf, .lf, .lf]) (txsA (x).txs) .ro]), .pt 0 []] [.ar 32 .lf (by8 u)] (fun r st => r = (AV.sc (.bool ((x.p == u)))) ∧ st = [.ar 32 .lf (by8 u)]) := by
  refine fnok_of_W hmix tabOK Tryd.func102 rfl rfl (Nat.le_of_ble_eq_true rfl) ?_
  conv => whnf
  refine ⟨x.p, u, rfl, rfl, ?_⟩
  conv => whnf
  refine ⟨false, [], ?_⟩
  conv => whnf
  exact ⟨rfl, rfl⟩
theorem c_pt0T (u : List UInt8) (e : En) : FnOK Tryd.prog D 120 [(AV.st [.ar 32 .lf (by8 (e).h), (AV.st [.ar 32 .lf (by8 (e).b.p), .sc (.int .i64 (e).b.v), .sc (.int .i64 (e).b.h), .sc (.int .i64 (e).b.by_), .sl (.nd [.lf, .lf, .lf, .lf, .lf, .lf, .lf]) (txsA (e).b.txs) .ro])]), .pt 0 [], .pt 1 []] [.fn 102 [.pt 2 []], .sl (.nd [.ar 32 .lf, .lf, .lf, .lf, .lf]) [] .ex, .ar 32 .lf (by8 u)]
    (fun r st => ((pfT u) e = false ∧ r = (AV.sc (.bool (false))) ∧ st = [.fn 102 [.pt 2 []], .sl (.nd [.ar 32 .lf, .lf, .lf, .lf, .lf]) [] .ex, .ar 32 .lf (by8 u)]) ∨ ((pfT u) e = true ∧ r = (AV.sc (.bool (true))) ∧ ∃ cp Lo, OKX [e.b] cp Lo ∧ st = [.fn 102 [.pt 2 []], .bs 3 [] (.nd [.ar 32 .lf, .lf, .lf, .lf, .lf]) 0 1 cp, .ar 32 .lf (by8 u), .ar cp (.nd [.ar 32 .lf, .lf, .lf, .lf, .lf]) Lo])) := by
  refine fnok_of_Ws [13] hmix tabOK Tryd.func120 rfl rfl (Nat.le_of_ble_eq_true rfl) ?_
  conv => whnf
  refine (c_tk1T u e.b).mono fun r st e => ?_
  obtain ⟨rfl, rfl⟩ := e
  conv => whnf
  cases hp : (e.b.p == u) with
  | false =>
    conv => whnf
    refine ⟨false, [], ?_⟩
    conv => whnf
    exact .inl ⟨hp, rfl, rfl⟩
  | true =>
    conv => whnf
    refine ⟨by simp, fun cp hc => ?_⟩
    have hc : 1 ≤ cp := by simpa using hc
    conv => whnf
    refine ⟨false, [4], ?_⟩
    conv => whnf
    exact .inr ⟨hp, rfl, cp, _, okx_one e.b _ hc, rfl⟩
theorem c_pt1T (u : List UInt8) (e : En) (o : List Bl) (co : Nat) (Lo : List AV) (hO : OKX o co Lo) (hb : o.length < 4294967295) : FnOK Tryd.prog D 120 [(AV.st [.ar 32 .lf (by8 (e).h), (AV.st [.ar 32 .lf (by8 (e).b.p), .sc (.int .i64 (e).b.v), .sc (.int .i64 (e).b.h), .sc (.int .i64 (e).b.by_), .sl (.nd [.lf, .lf, .lf, .lf, .lf, .lf, .lf]) (txsA (e).b.txs) .ro])]), .pt 0 [], .pt 1 []] [.fn 102 [.pt 2 []], .bs 3 [] (.nd [.ar 32 .lf, .lf, .lf, .lf, .lf]) 0 o.length co, .ar 32 .lf (by8 u), .ar co (.nd [.ar 32 .lf, .lf, .lf, .lf, .lf]) Lo]
    (fun r st => ((pfT u) e = false ∧ r = (AV.sc (.bool (false))) ∧ st = [.fn 102 [.pt 2 []], .bs 3 [] (.nd [.ar 32 .lf, .lf, .lf, .lf, .lf]) 0 o.length co, .ar 32 .lf (by8 u), .ar co (.nd [.ar 32 .lf, .lf, .lf, .lf, .lf]) Lo]) ∨ ((pfT u) e = true ∧ r = (AV.sc (.bool (true))) ∧ ∃ cp Lo2, OKX (o ++ [e.b]) cp Lo2 ∧ (st = [.fn 102 [.pt 2 []], .bs 3 [] (.nd [.ar 32 .lf, .lf, .lf, .lf, .lf]) 0 (o ++ [e.b]).length cp, .ar 32 .lf (by8 u), .ar cp (.nd [.ar 32 .lf, .lf, .lf, .lf, .lf]) Lo2] ∨ st = [.fn 102 [.pt 2 []], .bs 4 [] (.nd [.ar 32 .lf, .lf, .lf, .lf, .lf]) 0 (o ++ [e.b]).length cp, .ar 32 .lf (by8 u), .ar co (.nd [.ar 32 .lf, .lf, .lf, .lf, .lf]) Lo, .ar cp (.nd [.ar 32 .lf, .lf, .lf, .lf, .lf]) Lo2]))) := by
  refine fnok_of_Ws [13] hmix tabOK Tryd.func120 rfl rfl (Nat.le_of_ble_eq_true rfl) ?_
  conv => whnf
  refine (c_tk1T u e.b).mono fun r st e => ?_
  obtain ⟨rfl, rfl⟩ := e
  conv => whnf
  cases hp : (e.b.p == u) with
  | false =>
    conv => whnf
    refine ⟨false, [], ?_⟩
    conv => whnf
    exact .inl ⟨hp, rfl, rfl⟩
  | true =>
    conv => whnf
    refine Branch.of (fun hh => ?_) (fun hh => ?_)
    · have hh : o.length + 1 ≤ co := by rw [Nat.ble_eq] at hh; exact hh
      have hO2 := okx_in hO e.b hh
      conv => whnf
      refine ⟨false, [], ?_⟩
      conv => whnf
      refine .inr ⟨hp, rfl, co, _, hO2, .inl ?_⟩
      rw [List.length_append]
      rfl
    · refine ⟨by simp; omega, fun cp hc => ?_⟩
      have hc : o.length + 1 ≤ cp := hc
      have hO2 := okx_new hO e.b (AV.st [.ar 32 .lf (List.replicate 32 (.sc (.int .u8 0))), .sc (.int .i64 0), .sc (.int .i64 0), .sc (.int .i64 0), .sl (.nd [.lf, .lf, .lf, .lf, .lf, .lf, .lf]) [] .ex]) hc
      conv => whnf
      refine ⟨false, [5], ?_⟩
      conv => whnf
      refine .inr ⟨hp, rfl, cp, _, hO2, .inr ?_⟩
      rw [List.length_append]
      rfl
def pfD (u : Int) : En → Bool := fun e : En => decide (e.b.v ≤ u)
theorem c_tk1D (u : Int) (x : Bl) : FnOK Tryd.prog D 103 [(AV.st [.ar 32 .lf (by8 (x).p), .sc (.int .i64 (x).v), .sc (.int .i64 (x).h), .sc (.int .i64 (x).by_), .sl (.nd [.lf, .lf, .lf, .lf, .lf, .lf, .lf]) (txsA (x).txs) .ro]), .pt 0 []] [.sc (.int .i64 u)] (fun r st => r = (AV.sc (.bool (decide (x.v ≤ u)))) ∧ st = [.sc (.int .i64 u)]) := by
  refine fnok_of_W hmix tabOK Tryd.func103 rfl rfl (Nat.le_of_ble_eq_true rfl) ?_
  conv => whnf
  refine ⟨false, [], ?_⟩
  conv => whnf
  exact ⟨rfl, rfl⟩
theorem c_pt0D (u : Int) (e : En) : FnOK Tryd.prog D 120 [(AV.st [.ar 32 .lf (by8 (e).h), (AV.st [.ar 32 .lf (by8 (e).b.p), .sc (.int .i64 (e).b.v), .sc (.int .i64 (e).b.h), .sc (.int .i64 (e).b.by_), .sl (.nd [.lf, .lf, .lf, .lf, .lf, .lf, .lf]) (txsA (e).b.txs) .ro])]), .pt 0 [], .pt 1 []] [.fn 103 [.pt 2 []], .sl (.nd [.ar 32 .lf, .lf, .lf, .lf, .lf]) [] .ex, .sc (.int .i64 u)]
    (fun r st => ((pfD u) e = false ∧ r = (AV.sc (.bool (false))) ∧ st = [.fn 103 [.pt 2 []], .sl (.nd [.ar 32 .lf, .lf, .lf, .lf, .lf]) [] .ex, .sc (.int .i64 u)]) ∨ ((pfD u) e = true ∧ r = (AV.sc (.bool (true))) ∧ ∃ cp Lo, OKX [e.b] cp Lo ∧ st = [.fn 103 [.pt 2 []], .bs 3 [] (.nd [.ar 32 .lf, .lf, .lf, .lf, .lf]) 0 1 cp, .sc (.int .i64 u), .ar cp (.nd [.ar 32 .lf, .lf, .lf, .lf, .lf]) Lo])) := by
  refine fnok_of_Ws [13] hmix tabOK Tryd.func120 rfl rfl (Nat.le_of_ble_eq_true rfl) ?_
  conv => whnf
  refine (c_tk1D u e.b).mono fun r st e => ?_
  obtain ⟨rfl, rfl⟩ := e
  conv => whnf
  cases hp : decide (e.b.v ≤ u) with
  | false =>
    conv => whnf
    refine ⟨false, [], ?_⟩
    conv => whnf
    exact .inl ⟨hp, rfl, rfl⟩
  | true =>
    conv => whnf
    refine ⟨by simp, fun cp hc => ?_⟩
    have hc : 1 ≤ cp := by simpa using hc
    conv => whnf
    refine ⟨false, [4], ?_⟩
    conv => whnf
    exact .inr ⟨hp, rfl, cp, _, okx_one e.b _ hc, rfl⟩
theorem c_pt1D (u : Int) (e : En) (o : List Bl) (co : Nat) (Lo : List AV) (hO : OKX o co Lo) (hb : o.length < 4294967295) : FnOK Tryd.prog D 120 [(AV.st [.ar 32 .lf (by8 (e).h), (AV.st [.ar 32 .lf (by8 (e).b.p), .sc (.int .i64 (e).b.v), .sc (.int .i64 (e).b.h), .sc (.int .i64 (e).b.by_), .sl (.nd [.lf, .lf, .lf, .lf, .lf, .lf, .lf]) (txsA (e).b.txs) .ro])]), .pt 0 [], .pt 1 []] [.fn 103 [.pt 2 []], .bs 3 [] (.nd [.ar 32 .lf, .lf, .lf, .lf, .lf]) 0 o.length co, .sc (.int .i64 u), .ar co (.nd [.ar 32 .lf, .lf, .lf, .lf, .lf]) Lo]
    (fun r st => ((pfD u) e = false ∧ r = (AV.sc (.bool (false))) ∧ st = [.fn 103 [.pt 2 []], .bs 3 [] (.nd [.ar 32 .lf, .lf, .lf, .lf, .lf]) 0 o.length co, .sc (.int .i64 u), .ar co (.nd [.ar 32 .lf, .lf, .lf, .lf, .lf]) Lo]) ∨ ((pfD u) e = true ∧ r = (AV.sc (.bool (true))) ∧ ∃ cp Lo2, OKX (o ++ [e.b]) cp Lo2 ∧ (st = [.fn 103 [.pt 2 []], .bs 3 [] (.nd [.ar 32 .lf, .lf, .lf, .lf, .lf]) 0 (o ++ [e.b]).length cp, .sc (.int .i64 u), .ar cp (.nd [.ar 32 .lf, .lf, .lf, .lf, .lf]) Lo2] ∨ st = [.fn 103 [.pt 2 []], .bs 4 [] (.nd [.ar 32 .lf, .lf, .lf, .lf, .lf]) 0 (o ++ [e.b]).length cp, .sc (.int .i64 u), .ar co (.nd [.ar 32 .lf, .lf, .lf, .lf, .lf]) Lo, .ar cp (.nd [.ar 32 .lf, .lf, .lf, .lf, .lf]) Lo2]))) := by
  refine fnok_of_Ws [13] hmix tabOK Tryd.func120 rfl rfl (Nat.le_of_ble_eq_true rfl) ?_
  conv => whnf
  refine (c_tk1D u e.b).mono fun r st e => ?_
  obtain ⟨rfl, rfl⟩ := e
  conv => whnf
  cases hp : decide (e.b.v ≤ u) with
  | false =>
    conv => whnf
    refine ⟨false, [], ?_⟩
    conv => whnf
    exact .inl ⟨hp, rfl, rfl⟩
  | true =>
    conv => whnf
    refine Branch.of (fun hh => ?_) (fun hh => ?_)
    · have hh : o.length + 1 ≤ co := by rw [Nat.ble_eq] at hh; exact hh
      have hO2 := okx_in hO e.b hh
      conv => whnf
      refine ⟨false, [], ?_⟩
      conv => whnf
      refine .inr ⟨hp, rfl, co, _, hO2, .inl ?_⟩
      rw [List.length_append]
      rfl
    · refine ⟨by simp; omega, fun cp hc => ?_⟩
      have hc : o.length + 1 ≤ cp := hc
      have hO2 := okx_new hO e.b (AV.st [.ar 32 .lf (List.replicate 32 (.sc (.int .u8 0))), .sc (.int .i64 0), .sc (.int .i64 0), .sc (.int .i64 0), .sl (.nd [.lf, .lf, .lf, .lf, .lf, .lf, .lf]) [] .ex]) hc
      conv => whnf
      refine ⟨false, [5], ?_⟩
      conv => whnf
      refine .inr ⟨hp, rfl, cp, _, hO2, .inr ?_⟩
      rw [List.length_append]
      rfl
end Go.WL.T6d
