/- Blocks whose parents are not there yet: Take, Drop. No condition. -/
import Derived.Test.YtcmdkiejkheahaaDoorPart37
set_option linter.unusedVariables false
set_option linter.unusedSimpArgs false
namespace Go.WL.T6d
open Go.WL Go.Proofs
set_option maxRecDepth 20000
set_option maxHeartbeats 8000000
theorem c_partNT (u : List UInt8) : FnOK Tryd.prog D 101 [.pt 0 [], .fn 102 [.pt 1 []]] [.st [.sl (.nd [.ar 32 .lf, .nd [.ar 32 .lf, .lf, .lf, .lf, .lf]]) [] .ex, (AV.sc (.bool (true)))], .ar 32 .lf (by8 u)] (fun r st => r = .sl (.nd [.ar 32 .lf, .lf, .lf, .lf, .lf]) [] .ex ∧ st = [.st [.sl (.nd [.ar 32 .lf, .nd [.ar 32 .lf, .lf, .lf, .lf, .lf]]) [] .ex, (AV.sc (.bool (true)))], .ar 32 .lf (by8 u)]) := by
  refine fnok_of_Ws [14] hmix tabOK Tryd.func101 rfl rfl (Nat.le_of_ble_eq_true rfl) ?_
  conv => whnf
  refine (c_dlNT u).mono fun r st e => ?_
  obtain ⟨rfl, rfl⟩ := e
  conv => whnf
  refine ⟨false, [], ?_⟩
  conv => whnf
  exact ⟨rfl, rfl⟩
theorem c_partT (u : List UInt8) (l : List En) (cap : Nat) (L : List AV) (hL : OKE l cap L) (hb : l.length < 4294967295) : FnOK Tryd.prog D 101 [.pt 0 [], .fn 102 [.pt 1 []]] [.st [.bs 2 [] (.nd [.ar 32 .lf, .nd [.ar 32 .lf, .lf, .lf, .lf, .lf]]) 0 l.length cap, (AV.sc (.bool (true)))], .ar 32 .lf (by8 u), .ar cap (.nd [.ar 32 .lf, .nd [.ar 32 .lf, .lf, .lf, .lf, .lf]]) L]
    (fun r st => ((l.filter (pfT u) = [] ∧ r = .sl (.nd [.ar 32 .lf, .lf, .lf, .lf, .lf]) [] .ex) ∨ r = (AV.sl (.nd [.ar 32 .lf, .lf, .lf, .lf, .lf]) (blA (((l.filter (pfT u)).map En.b))) .ro)) ∧ ∃ L', OKE (l.filter fun e => !(pfT u) e) cap L' ∧ st = [.st [.bs 2 [] (.nd [.ar 32 .lf, .nd [.ar 32 .lf, .lf, .lf, .lf, .lf]]) 0 (l.filter fun e => !(pfT u) e).length cap, (AV.sc (.bool (true)))], .ar 32 .lf (by8 u), .ar cap (.nd [.ar 32 .lf, .nd [.ar 32 .lf, .lf, .lf, .lf, .lf]]) L']) := by
  refine fnok_of_Ws [14] hmix tabOK Tryd.func101 rfl rfl (Nat.le_of_ble_eq_true rfl) ?_
  conv => whnf
  refine (c_dlT u l cap L hL hb).mono ?_
  rintro r st (⟨hn, rfl, rfl⟩ | ⟨L', cp, Lo, hne, hE, hX, rfl, rfl⟩)
  · have hk : (l.filter fun e => !(pfT u) e) = l := List.filter_eq_self.2 fun e he => by
      have := List.filter_eq_nil_iff.1 hn e he
      simpa using this
    rw [hk]
    conv => whnf
    refine ⟨false, [], ?_⟩
    conv => whnf
    exact ⟨.inl ⟨hn, rfl⟩, L, hL, rfl⟩
  conv => whnf
  refine ⟨false, [999], ?_⟩
  conv => whnf
  rw [show List.take ((l.filter (pfT u)).map En.b).length (List.drop 0 Lo) = blA ((l.filter (pfT u)).map En.b) by rw [List.drop_zero]; exact hX.2.2]
  exact ⟨.inr rfl, L', hE, rfl⟩
theorem c_otake0 (u : List UInt8) : FnOK Tryd.prog D 58 [.pt 0 [], .ar 32 .lf (by8 u)] [.st [.sl (.nd [.ar 32 .lf, .nd [.ar 32 .lf, .lf, .lf, .lf, .lf]]) [] .ex, (AV.sc (.bool (true)))]] (fun r st => r = .sl (.nd [.ar 32 .lf, .lf, .lf, .lf, .lf]) [] .ex ∧ st = [.st [.sl (.nd [.ar 32 .lf, .nd [.ar 32 .lf, .lf, .lf, .lf, .lf]]) [] .ex, (AV.sc (.bool (true)))]]) := by
  refine fnok_of_W hmix tabOK Tryd.func58 rfl rfl (Nat.le_of_ble_eq_true rfl) ?_
  conv => whnf
  refine (c_partNT u).mono fun r st e => ?_
  obtain ⟨rfl, rfl⟩ := e
  conv => whnf
  refine ⟨false, [], ?_⟩
  conv => whnf
  exact ⟨rfl, rfl⟩
theorem c_otake1 (u : List UInt8) (l : List En) (cap : Nat) (L : List AV) (hL : OKE l cap L) (hb : l.length < 4294967295) : FnOK Tryd.prog D 58 [.pt 0 [], .ar 32 .lf (by8 u)] [.st [.bs 1 [] (.nd [.ar 32 .lf, .nd [.ar 32 .lf, .lf, .lf, .lf, .lf]]) 0 l.length cap, (AV.sc (.bool (true)))], .ar cap (.nd [.ar 32 .lf, .nd [.ar 32 .lf, .lf, .lf, .lf, .lf]]) L]
    (fun r st => ((l.filter (pfT u) = [] ∧ r = .sl (.nd [.ar 32 .lf, .lf, .lf, .lf, .lf]) [] .ex) ∨ r = (AV.sl (.nd [.ar 32 .lf, .lf, .lf, .lf, .lf]) (blA (((l.filter (pfT u)).map En.b))) .ro)) ∧ ∃ L', OKE (l.filter fun e => !(pfT u) e) cap L' ∧ st = [.st [.bs 1 [] (.nd [.ar 32 .lf, .nd [.ar 32 .lf, .lf, .lf, .lf, .lf]]) 0 (l.filter fun e => !(pfT u) e).length cap, (AV.sc (.bool (true)))], .ar cap (.nd [.ar 32 .lf, .nd [.ar 32 .lf, .lf, .lf, .lf, .lf]]) L']) := by
  refine fnok_of_W hmix tabOK Tryd.func58 rfl rfl (Nat.le_of_ble_eq_true rfl) ?_
  conv => whnf
  refine (c_partT u l cap L hL hb).mono ?_
  rintro r st ⟨hr, L', hE, rfl⟩
  rcases hr with ⟨hn, rfl⟩ | rfl
  · conv => whnf
    refine ⟨false, [], ?_⟩
    conv => whnf
    exact ⟨.inl ⟨hn, rfl⟩, L', hE, rfl⟩
  · conv => whnf
    refine ⟨false, [], ?_⟩
    conv => whnf
    exact ⟨.inr rfl, L', hE, rfl⟩
theorem c_partND (u : Int) : FnOK Tryd.prog D 101 [.pt 0 [], .fn 103 [.pt 1 []]] [.st [.sl (.nd [.ar 32 .lf, .nd [.ar 32 .lf, .lf, .lf, .lf, .lf]]) [] .ex, (AV.sc (.bool (true)))], .sc (.int .i64 u)] (fun r st => r = .sl (.nd [.ar 32 .lf, .lf, .lf, .lf, .lf]) [] .ex ∧ st = [.st [.sl (.nd [.ar 32 .lf, .nd [.ar 32 .lf, .lf, .lf, .lf, .lf]]) [] .ex, (AV.sc (.bool (true)))], .sc (.int .i64 u)]) := by
  refine fnok_of_Ws [14] hmix tabOK Tryd.func101 rfl rfl (Nat.le_of_ble_eq_true rfl) ?_
  conv => whnf
  refine (c_dlND u).mono fun r st e => ?_
  obtain ⟨rfl, rfl⟩ := e
  conv => whnf
  refine ⟨false, [], ?_⟩
  conv => whnf
  exact ⟨rfl, rfl⟩
theorem c_partD (u : Int) (l : List En) (cap : Nat) (L : List AV) (hL : OKE l cap L) (hb : l.length < 4294967295) : FnOK Tryd.prog D 101 [.pt 0 [], .fn 103 [.pt 1 []]] [.st [.bs 2 [] (.nd [.ar 32 .lf, .nd [.ar 32 .lf, .lf, .lf, .lf, .lf]]) 0 l.length cap, (AV.sc (.bool (true)))], .sc (.int .i64 u), .ar cap (.nd [.ar 32 .lf, .nd [.ar 32 .lf, .lf, .lf, .lf, .lf]]) L]
    (fun r st => ((l.filter (pfD u) = [] ∧ r = .sl (.nd [.ar 32 .lf, .lf, .lf, .lf, .lf]) [] .ex) ∨ r = (AV.sl (.nd [.ar 32 .lf, .lf, .lf, .lf, .lf]) (blA (((l.filter (pfD u)).map En.b))) .ro)) ∧ ∃ L', OKE (l.filter fun e => !(pfD u) e) cap L' ∧ st = [.st [.bs 2 [] (.nd [.ar 32 .lf, .nd [.ar 32 .lf, .lf, .lf, .lf, .lf]]) 0 (l.filter fun e => !(pfD u) e).length cap, (AV.sc (.bool (true)))], .sc (.int .i64 u), .ar cap (.nd [.ar 32 .lf, .nd [.ar 32 .lf, .lf, .lf, .lf, .lf]]) L']) := by
  refine fnok_of_Ws [14] hmix tabOK Tryd.func101 rfl rfl (Nat.le_of_ble_eq_true rfl) ?_
  conv => whnf
  refine (c_dlD u l cap L hL hb).mono ?_
  rintro r st (⟨hn, rfl, rfl⟩ | ⟨L', cp, Lo, hne, hE, hX, rfl, rfl⟩)
  · have hk : (l.filter fun e => !(pfD u) e) = l := List.filter_eq_self.2 fun e he => by
      have := List.filter_eq_nil_iff.1 hn e he
      simpa using this
    rw [hk]
    conv => whnf
    refine ⟨false, [], ?_⟩
    conv => whnf
    exact ⟨.inl ⟨hn, rfl⟩, L, hL, rfl⟩
  conv => whnf
  refine ⟨false, [999], ?_⟩
  conv => whnf
  rw [show List.take ((l.filter (pfD u)).map En.b).length (List.drop 0 Lo) = blA ((l.filter (pfD u)).map En.b) by rw [List.drop_zero]; exact hX.2.2]
  exact ⟨.inr rfl, L', hE, rfl⟩
theorem c_odrop0 (u : Int) : FnOK Tryd.prog D 60 [.pt 0 [], (AV.sc (.int .i64 (u)))] [.st [.sl (.nd [.ar 32 .lf, .nd [.ar 32 .lf, .lf, .lf, .lf, .lf]]) [] .ex, (AV.sc (.bool (true)))]] (fun r st => r = (AV.sc (.int .i64 (0))) ∧ st = [.st [.sl (.nd [.ar 32 .lf, .nd [.ar 32 .lf, .lf, .lf, .lf, .lf]]) [] .ex, (AV.sc (.bool (true)))]]) := by
  refine fnok_of_W hmix tabOK Tryd.func60 rfl rfl (Nat.le_of_ble_eq_true rfl) ?_
  conv => whnf
  refine (c_partND u).mono fun r st e => ?_
  obtain ⟨rfl, rfl⟩ := e
  conv => whnf
  refine ⟨false, [], ?_⟩
  conv => whnf
  exact ⟨rfl, rfl⟩
theorem c_odrop1 (u : Int) (l : List En) (cap : Nat) (L : List AV) (hL : OKE l cap L) (hb : l.length < 4294967295) : FnOK Tryd.prog D 60 [.pt 0 [], (AV.sc (.int .i64 (u)))] [.st [.bs 1 [] (.nd [.ar 32 .lf, .nd [.ar 32 .lf, .lf, .lf, .lf, .lf]]) 0 l.length cap, (AV.sc (.bool (true)))], .ar cap (.nd [.ar 32 .lf, .nd [.ar 32 .lf, .lf, .lf, .lf, .lf]]) L]
    (fun r st => r = (AV.sc (.int .i64 (((l.filter (pfD u)).length : Int)))) ∧ ∃ L', OKE (l.filter fun e => !(pfD u) e) cap L' ∧ st = [.st [.bs 1 [] (.nd [.ar 32 .lf, .nd [.ar 32 .lf, .lf, .lf, .lf, .lf]]) 0 (l.filter fun e => !(pfD u) e).length cap, (AV.sc (.bool (true)))], .ar cap (.nd [.ar 32 .lf, .nd [.ar 32 .lf, .lf, .lf, .lf, .lf]]) L']) := by
  refine fnok_of_W hmix tabOK Tryd.func60 rfl rfl (Nat.le_of_ble_eq_true rfl) ?_
  conv => whnf
  refine (c_partD u l cap L hL hb).mono ?_
  rintro r st ⟨hr, L', hE, rfl⟩
  rcases hr with ⟨hn, rfl⟩ | rfl
  · conv => whnf
    refine ⟨false, [], ?_⟩
    conv => whnf
    exact ⟨by rw [hn]; rfl, L', hE, rfl⟩
  · conv => whnf
    refine ⟨false, [], ?_⟩
    conv => whnf
    exact ⟨by rw [bl_len, List.length_map], L', hE, rfl⟩
end Go.WL.T6d
