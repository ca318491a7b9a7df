/- Blocks whose parents are not there yet: one is put. No condition. -/
import Derived.Test.YtcmdkiejkheahaaDoorPart33
set_option linter.unusedVariables false
set_option linter.unusedSimpArgs false
namespace Go.WL.T6d
open Go.WL Go.Proofs
set_option maxRecDepth 20000
set_option maxHeartbeats 8000000
def opE (l : List En) (x : Bl) : Int := if mayB x = false ∨ x.v = 0 then 1 else if hasE l (blH x) = true then 15 else 0
def opL (l : List En) (x : Bl) : List En := if opE l x = 0 then (if (l ++ [(⟨blH x, x⟩ : En)]).length > 32 then (l ++ [(⟨blH x, x⟩ : En)]).drop 1 else l ++ [(⟨blH x, x⟩ : En)]) else l
def O0 (l : List En) (st : List AV) : Prop := (l = [] ∧ st = [(.st [.sl (.nd [.ar 32 .lf, .nd [.ar 32 .lf, .lf, .lf, .lf, .lf]]) [] .ex, (AV.sc (.bool (true)))])]) ∨ ∃ cap L, OKE l cap L ∧ st = [(.st [.bs 1 [] (.nd [.ar 32 .lf, .nd [.ar 32 .lf, .lf, .lf, .lf, .lf]]) 0 (l).length cap, (AV.sc (.bool (true)))]), .ar cap (.nd [.ar 32 .lf, .nd [.ar 32 .lf, .lf, .lf, .lf, .lf]]) L]
def O1 (l : List En) (st : List AV) : Prop := ∃ cap L, OKE l cap L ∧ (st = [(.st [.bs 1 [] (.nd [.ar 32 .lf, .nd [.ar 32 .lf, .lf, .lf, .lf, .lf]]) 0 (l).length cap, (AV.sc (.bool (true)))]), .ar cap (.nd [.ar 32 .lf, .nd [.ar 32 .lf, .lf, .lf, .lf, .lf]]) L] ∨ ∃ cj Lj, st = [(.st [.bs 2 [] (.nd [.ar 32 .lf, .nd [.ar 32 .lf, .lf, .lf, .lf, .lf]]) 0 (l).length cap, (AV.sc (.bool (true)))]), .ar cj (.nd [.ar 32 .lf, .nd [.ar 32 .lf, .lf, .lf, .lf, .lf]]) Lj, .ar cap (.nd [.ar 32 .lf, .nd [.ar 32 .lf, .lf, .lf, .lf, .lf]]) L])
theorem oke_in {l : List En} {cap : Nat} {L : List AV} (h : OKE l cap L) (x : En) (hc : l.length + 1 ≤ cap) : OKE (l ++ [x]) cap (L.take (0 + l.length) ++ [(AV.st [.ar 32 .lf (by8 (x).h), (AV.st [.ar 32 .lf (by8 (x).b.p), .sc (.int .i64 (x).b.v), .sc (.int .i64 (x).b.h), .sc (.int .i64 (x).b.by_), .sl (.nd [.lf, .lf, .lf, .lf, .lf, .lf, .lf]) (txsA (x).b.txs) .ro])])] ++ L.drop (0 + l.length + 1)) := by
  rw [Nat.zero_add]
  obtain ⟨h1, h2, h3⟩ := h
  refine ⟨by rw [List.length_append]; exact hc, ?_, ?_⟩
  · simp only [List.length_append, List.length_take, List.length_drop, List.length_cons, List.length_nil]
    omega
  · rw [h3, List.length_append, List.take_append_of_le_length (by simp [enA])]
    rw [List.take_of_length_le (by simp [enA])]
    simp [enA]
theorem oke_new {l : List En} {cap cp : Nat} {L : List AV} (h : OKE l cap L) (x : En) (z : AV) (hc : l.length + 1 ≤ cp) : OKE (l ++ [x]) cp ((L.drop 0).take l.length ++ [(AV.st [.ar 32 .lf (by8 (x).h), (AV.st [.ar 32 .lf (by8 (x).b.p), .sc (.int .i64 (x).b.v), .sc (.int .i64 (x).b.h), .sc (.int .i64 (x).b.by_), .sl (.nd [.lf, .lf, .lf, .lf, .lf, .lf, .lf]) (txsA (x).b.txs) .ro])])] ++ List.replicate (cp - (l.length + 1)) z) := by
  obtain ⟨h1, h2, h3⟩ := h
  refine ⟨by rw [List.length_append]; exact hc, ?_, ?_⟩
  · rw [List.drop_zero, h3]
    simp only [List.length_append, en_len, List.length_replicate, List.length_cons, List.length_nil]
    omega
  · rw [List.drop_zero, h3, List.length_append, List.take_append_of_le_length (by simp [enA])]
    rw [List.take_of_length_le (by simp [enA])]
    simp [enA]
theorem oke_one (x : En) (z : AV) {cp : Nat} (hc : 1 ≤ cp) : OKE [x] cp ([] ++ [(AV.st [.ar 32 .lf (by8 (x).h), (AV.st [.ar 32 .lf (by8 (x).b.p), .sc (.int .i64 (x).b.v), .sc (.int .i64 (x).b.h), .sc (.int .i64 (x).b.by_), .sl (.nd [.lf, .lf, .lf, .lf, .lf, .lf, .lf]) (txsA (x).b.txs) .ro])])] ++ List.replicate (cp - 1) z) := by
  refine ⟨hc, by simp; omega, ?_⟩
  simp [enA]
theorem oke_app (l : List En) (cp : Nat) (zs : List AV) (h : l.length ≤ cp) (hz : zs.length = cp - l.length) : OKE l cp (enA l ++ zs) :=
  ⟨h, by rw [List.length_append, en_len]; omega, by rw [List.take_left' (en_len l)]⟩
theorem oke_drop {l l2 : List En} {cap : Nat} {L : List AV} (h : OKE l cap L) (h2 : l.drop 1 = l2) : (L.drop 1).take l2.length = enA l2 := by
  obtain ⟨h1, h2', h3⟩ := h
  subst h2
  have : List.drop 1 (L.take l.length) = enA (l.drop 1) := by rw [h3]; unfold enA; rw [List.map_drop]
  rw [List.drop_take] at this
  rw [List.length_drop]
  exact this
theorem c_cloneEn (l : List En) (off n cap c2 : Nat) (L : List AV) (hn : n = l.length) (hL : (L.drop off).take l.length = enA l) (hb : l.length < 4294967296) (h0 : l ≠ []) : FnOK Tryd.prog D 106 [.bs 0 [] (.nd [.ar 32 .lf, .nd [.ar 32 .lf, .lf, .lf, .lf, .lf]]) off n cap] [.ar c2 (.nd [.ar 32 .lf, .nd [.ar 32 .lf, .lf, .lf, .lf, .lf]]) L] (fun r st => ∃ cp Lp, OKE l cp Lp ∧ r = .bs 1 [] (.nd [.ar 32 .lf, .nd [.ar 32 .lf, .lf, .lf, .lf, .lf]]) 0 l.length cp ∧ st = [.ar c2 (.nd [.ar 32 .lf, .nd [.ar 32 .lf, .lf, .lf, .lf, .lf]]) L, .ar cp (.nd [.ar 32 .lf, .nd [.ar 32 .lf, .lf, .lf, .lf, .lf]]) Lp]) := by
  subst hn
  have hp : 0 < l.length := List.length_pos_iff.2 h0
  refine fnok_of_Ws [7] hmix tabOK Tryd.func106 rfl rfl (Nat.le_of_ble_eq_true rfl) ?_
  conv => whnf
  rw [hL]
  refine Branch.yes (by rw [en_len]; simpa [Nat.blt_eq] using hp) ?_
  refine ⟨by rw [en_len]; simp; omega, fun cp hc => ?_⟩
  rw [en_len] at hc
  conv => whnf
  refine ⟨false, [1], ?_⟩
  conv => whnf
  have hc' : l.length ≤ cp := by simp at hc; omega
  refine ⟨cp, _, oke_app l cp _ hc' ?_, ?_, rfl⟩
  · rw [List.length_replicate, en_len]; simp
  · rw [en_len]; simp
theorem c_oput0 (x : Bl) (hl : x.txs.length < 4294967296) (hk : shortK x.txs) (hp : x.p.length = 32) (E : Int) (hE : opE ([] : List En) x = E) (l2 : List En) (hl2 : opL ([] : List En) x = l2) : FnOK Tryd.prog D 62 [.pt 0 [], (AV.st [.ar 32 .lf (by8 (x).p), .sc (.int .i64 (x).v), .sc (.int .i64 (x).h), .sc (.int .i64 (x).by_), .sl (.nd [.lf, .lf, .lf, .lf, .lf, .lf, .lf]) (txsA (x).txs) .ro])] [(.st [.sl (.nd [.ar 32 .lf, .nd [.ar 32 .lf, .lf, .lf, .lf, .lf]]) [] .ex, (AV.sc (.bool (true)))])] (fun r st => r = (AV.sc (.int .i64 (E))) ∧ O0 l2 st) := by
  unfold opL at hl2
  rw [hE] at hl2
  unfold opE at hE
  have ch := c_bhash x hl hk hp
  have cc := c_bcheck x hl hk
  have cy := c_bcopy x hl
  refine fnok_of_Ws [4009010, 54] hmix tabOK Tryd.func62 rfl rfl (Nat.le_of_ble_eq_true rfl) ?_
  conv => whnf
  refine (ch).mono fun r st e => ?_
  obtain ⟨rfl, rfl⟩ := e
  conv => whnf
  generalize blH x = H at *
  refine (cc).mono fun r st e => ?_
  obtain ⟨rfl, rfl⟩ := e
  conv => whnf
  cases hm : mayB x with
  | false =>
    rw [if_pos (.inl hm)] at hE
    subst hE
    rw [if_neg (by decide)] at hl2
    subst hl2
    conv => whnf
    refine ⟨false, [], ?_⟩
    conv => whnf
    exact ⟨rfl, .inl ⟨rfl, rfl⟩⟩
  | true =>
  conv => whnf
  by_cases hv : x.v = 0
  · rw [if_pos (.inr hv)] at hE
    subst hE
    rw [if_neg (by decide)] at hl2
    subst hl2
    refine Branch.yes (decide_eq_true hv) ?_
    conv => whnf
    refine ⟨false, [], ?_⟩
    conv => whnf
    exact ⟨rfl, .inl ⟨rfl, rfl⟩⟩
  rw [if_neg (by rw [hm]; simp [hv])] at hE
  refine Branch.no (decide_eq_false hv) ?_
  conv => whnf
  refine (c_ohas0 H).mono fun r st e => ?_
  obtain ⟨rfl, rfl⟩ := e
  conv => whnf
  rw [if_neg (show ¬ hasE ([] : List En) H = true by simp [hasE])] at hE
  subst hE
  rw [if_pos rfl, if_neg (by simp)] at hl2
  subst hl2
  refine ⟨tabF62R9, by decide +kernel, ?_⟩
  conv => whnf
  refine ⟨_, _, cy, ?_⟩
  conv => whnf
  refine ⟨by simp, fun cp hc => ?_⟩
  have hc : 1 ≤ cp := by simpa using hc
  conv => whnf
  refine ⟨false, [3], ?_⟩
  conv => whnf
  exact ⟨rfl, .inr ⟨cp, _, oke_one ⟨H, x⟩ _ hc, rfl⟩⟩
theorem c_oput1 (x : Bl) (l : List En) (cap : Nat) (L : List AV) (hL : OKE l cap L) (hb : l.length ≤ 32) (hl : x.txs.length < 4294967296) (hk : shortK x.txs) (hp : x.p.length = 32) (E : Int) (hE : opE l x = E) (l2 : List En) (hl2 : opL l x = l2) : FnOK Tryd.prog D 62 [.pt 0 [], (AV.st [.ar 32 .lf (by8 (x).p), .sc (.int .i64 (x).v), .sc (.int .i64 (x).h), .sc (.int .i64 (x).by_), .sl (.nd [.lf, .lf, .lf, .lf, .lf, .lf, .lf]) (txsA (x).txs) .ro])] [(.st [.bs 1 [] (.nd [.ar 32 .lf, .nd [.ar 32 .lf, .lf, .lf, .lf, .lf]]) 0 (l).length cap, (AV.sc (.bool (true)))]), .ar cap (.nd [.ar 32 .lf, .nd [.ar 32 .lf, .lf, .lf, .lf, .lf]]) L] (fun r st => r = (AV.sc (.int .i64 (E))) ∧ O1 l2 st) := by
  unfold opL at hl2
  rw [hE] at hl2
  unfold opE at hE
  have ch := c_bhash x hl hk hp
  have cc := c_bcheck x hl hk
  have cy := c_bcopy x hl
  refine fnok_of_Ws [4009010, 54] hmix tabOK Tryd.func62 rfl rfl (Nat.le_of_ble_eq_true rfl) ?_
  conv => whnf
  refine (ch).mono fun r st e => ?_
  obtain ⟨rfl, rfl⟩ := e
  conv => whnf
  generalize blH x = H at *
  refine (cc).mono fun r st e => ?_
  obtain ⟨rfl, rfl⟩ := e
  conv => whnf
  cases hm : mayB x with
  | false =>
    rw [if_pos (.inl hm)] at hE
    subst hE
    rw [if_neg (by decide)] at hl2
    subst hl2
    conv => whnf
    refine ⟨false, [], ?_⟩
    conv => whnf
    exact ⟨rfl, cap, L, hL, .inl rfl⟩
  | true =>
  conv => whnf
  by_cases hv : x.v = 0
  · rw [if_pos (.inr hv)] at hE
    subst hE
    rw [if_neg (by decide)] at hl2
    subst hl2
    refine Branch.yes (decide_eq_true hv) ?_
    conv => whnf
    refine ⟨false, [], ?_⟩
    conv => whnf
    exact ⟨rfl, cap, L, hL, .inl rfl⟩
  rw [if_neg (by rw [hm]; simp [hv])] at hE
  refine Branch.no (decide_eq_false hv) ?_
  conv => whnf
  refine (c_ohas1 l H cap L hL (by omega)).mono fun r st e => ?_
  obtain ⟨rfl, rfl⟩ := e
  conv => whnf
  cases hh : hasE l H with
  | true =>
    rw [if_pos hh] at hE
    subst hE
    rw [if_neg (by decide)] at hl2
    subst hl2
    conv => whnf
    refine ⟨false, [], ?_⟩
    conv => whnf
    exact ⟨rfl, cap, L, hL, .inl rfl⟩
  | false =>
  rw [if_neg (by rw [hh]; simp)] at hE
  subst hE
  rw [if_pos rfl] at hl2
  conv => whnf
  refine ⟨tabF62R9, by decide +kernel, ?_⟩
  conv => whnf
  refine ⟨_, _, cy, ?_⟩
  conv => whnf
  refine Branch.of (fun hh => ?_) (fun hh => ?_)
  · have hh : l.length + 1 ≤ cap := by rw [Nat.ble_eq] at hh; exact hh
    have hO := oke_in hL ⟨H, x⟩ hh
    conv => whnf
    by_cases h32 : 32 < l.length + 1
    · rw [if_pos (by rw [List.length_append]; exact h32)] at hl2
      refine Branch.yes (decide_eq_true (by show ((l.length + 1 : Nat) : Int) > 32; omega)) ?_
      conv => whnf
      refine ⟨by omega, ?_⟩
      conv => whnf
      refine ⟨by show 1 ≤ l.length + 1; omega, by show l.length + 1 ≤ cap; omega, ?_⟩
      conv => whnf
      have hl2n : l2.length = l.length := by rw [← hl2, List.length_drop, List.length_append]; rfl
      have hd : List.take l2.length (List.drop 1 _) = enA l2 := oke_drop hO hl2
      refine (c_cloneEn l2 _ _ _ _ _ hl2n.symm hd (by omega) (by intro hc; rw [hc] at hl2n; simp at hl2n; omega)).mono ?_
      rintro r st ⟨cp2, Lp, hO2, rfl, rfl⟩
      conv => whnf
      refine ⟨false, [4], ?_⟩
      conv => whnf
      exact ⟨rfl, cp2, _, hO2, .inr ⟨_, _, rfl⟩⟩
    · rw [if_neg (by rw [List.length_append]; exact h32)] at hl2
      subst hl2
      refine Branch.no (decide_eq_false (by show ¬ ((l.length + 1 : Nat) : Int) > 32; omega)) ?_
      conv => whnf
      refine ⟨false, [], ?_⟩
      conv => whnf
      refine ⟨rfl, cap, _, hO, .inl ?_⟩
      rw [List.length_append]
      rfl
  · refine ⟨by simp; omega, fun cp hc => ?_⟩
    have hc : l.length + 1 ≤ cp := hc
    have hO := oke_new hL ⟨H, x⟩ (AV.st [.ar 32 .lf (List.replicate 32 (.sc (.int .u8 0))), .st [.ar 32 .lf (List.replicate 32 (.sc (.int .u8 0))), .sc (.int .i64 0), .sc (.int .i64 0), .sc (.int .i64 0), .sl (.nd [.lf, .lf, .lf, .lf, .lf, .lf, .lf]) [] .ex]]) hc
    conv => whnf
    by_cases h32 : 32 < l.length + 1
    · rw [if_pos (by rw [List.length_append]; exact h32)] at hl2
      refine Branch.yes (decide_eq_true (by show ((l.length + 1 : Nat) : Int) > 32; omega)) ?_
      conv => whnf
      refine ⟨by omega, ?_⟩
      conv => whnf
      refine ⟨by show 1 ≤ l.length + 1; omega, by show l.length + 1 ≤ cp; omega, ?_⟩
      conv => whnf
      have hl2n : l2.length = l.length := by rw [← hl2, List.length_drop, List.length_append]; rfl
      have hd : List.take l2.length (List.drop 1 _) = enA l2 := oke_drop hO hl2
      refine (c_cloneEn l2 _ _ _ _ _ hl2n.symm hd (by omega) (by intro hc; rw [hc] at hl2n; simp at hl2n; omega)).mono ?_
      rintro r st ⟨cp2, Lp, hO2, rfl, rfl⟩
      conv => whnf
      refine ⟨false, [5], ?_⟩
      conv => whnf
      exact ⟨rfl, cp2, _, hO2, .inr ⟨_, _, rfl⟩⟩
    · rw [if_neg (by rw [List.length_append]; exact h32)] at hl2
      subst hl2
      refine Branch.no (decide_eq_false (by show ¬ ((l.length + 1 : Nat) : Int) > 32; omega)) ?_
      conv => whnf
      refine ⟨false, [4], ?_⟩
      conv => whnf
      refine ⟨rfl, cp, _, hO, .inr ⟨cap, L, ?_⟩⟩
      rw [List.length_append]
      rfl
end Go.WL.T6d
