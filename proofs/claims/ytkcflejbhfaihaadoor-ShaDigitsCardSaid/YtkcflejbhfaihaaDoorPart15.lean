/- ShaDigits. No condition. -/
import Derived.Test.YtkcflejbhfaihaaDoorPart14
set_option linter.unusedVariables false
set_option linter.unusedSimpArgs false
namespace Go.WL.T4b
open Go.WL Go.Proofs
set_option maxRecDepth 20000
set_option maxHeartbeats 8000000
theorem hexd_inj : ∀ a b : Fin 16, hexd a.val = hexd b.val → a = b := by decide +kernel
theorem hexB_inj {g h : List UInt8} (e : hexB g = hexB h) : g = h := by
  have hl : g.length = h.length := by
    have := congrArg List.length e
    rw [hexB_len, hexB_len] at this
    omega
  apply List.ext_getElem hl
  intro k h1 h2
  have a := hexB_at g k h1
  have b := hexB_at h k h2
  have b1 := g[k].toNat_lt
  have b2 := h[k].toNat_lt
  rw [e, b.1, b.2] at a
  have e1 := hexd_inj ⟨h[k].toNat / 16, by omega⟩ ⟨g[k].toNat / 16, by omega⟩ (Option.some.inj a.1)
  have e2 := hexd_inj ⟨h[k].toNat % 16, by omega⟩ ⟨g[k].toNat % 16, by omega⟩ (Option.some.inj a.2)
  have e1 := congrArg Fin.val e1
  have e2 := congrArg Fin.val e2
  apply UInt8.toNat_inj.1
  simp only at e1 e2
  omega
theorem read_one (s : List UInt8) : ∃ (x : List UInt8) (ok : Bool), x.length = 32 ∧ ∀ r, Read s r → r = .tup [.ar 32 .lf (by8 x), (AV.sc (.bool (ok)))] := by
  by_cases h : ∃ g : List UInt8, g.length = 32 ∧ s = hexB g
  · obtain ⟨g, hg, rfl⟩ := h
    refine ⟨g, true, hg, fun r hr => ?_⟩
    rcases hr with ⟨g', _, e, rfl⟩ | ⟨hn, _⟩
    · rw [hexB_inj e]
    · exact absurd rfl (hn g hg)
  · refine ⟨z32, false, rfl, fun r hr => ?_⟩
    rcases hr with ⟨g', hg, e, _⟩ | ⟨_, rfl⟩
    · exact absurd ⟨g', hg, e⟩ h
    · rfl
theorem c_shaDigits_aux (h s x : List UInt8) (ok : Bool) (hl : h.length = 32)
    (ca : FnOK Tryd.prog D 15 [] [] (fun r st => r = (AV.sc (.bool (true))) ∧ st = []))
    (cu : s.length ≤ 200 → FnOK Tryd.prog D 27 [.sc (.string (strB s))] [] (fun r st => r = .tup [.ar 32 .lf (by8 x), (AV.sc (.bool (ok)))] ∧ st = []))
    (cuR : s.length ≤ 200 → FnOK Tryd.prog D 28 [.sc (.string (strB s))] [] (fun r st => r = .tup [.ar 32 .lf (by8 x), (AV.sc (.bool (ok)))] ∧ st = []))
    (ct : FnOK Tryd.prog D 27 [.sc (.string (strB (hexB h)))] [] (fun r st => r = .tup [.ar 32 .lf (by8 h), (AV.sc (.bool (true)))] ∧ st = [])) :
    FnOK Tryd.prog D 6 [.ar 32 .lf (by8 h), .sc (.string (strB s))] [] (fun r _ => r = (AV.sc (.bool (true)))) := by
  have hsz := strB_size s
  refine fnok_of_W hmix tabOK Tryd.func6 rfl rfl (Nat.le_of_ble_eq_true rfl) ?_
  conv => whnf
  rw [hsz]
  refine Branch.of (fun h1 => ?_) (fun h1 => ?_) <;> rw [h1] <;> conv => whnf
  · refine (ca).mono fun r st e => ?_
    obtain ⟨rfl, rfl⟩ := e
    conv => whnf
    refine ⟨false, [], ?_⟩
    conv => whnf
  simp only [gt_iff_lt, decide_eq_false_iff_not] at h1
  have hs : s.length ≤ 200 := by omega
  refine (cu hs).mono fun r st e => ?_
  obtain ⟨rfl, rfl⟩ := e
  conv => whnf
  refine (cuR hs).mono fun r st e => ?_
  obtain ⟨rfl, rfl⟩ := e
  conv => whnf
  refine (c_hex h hl).mono fun r st e => ?_
  obtain ⟨rfl, rfl⟩ := e
  conv => whnf
  refine (ct).mono fun r st e => ?_
  obtain ⟨rfl, rfl⟩ := e
  conv => whnf
  rw [beq_self_eq_true]
  conv => whnf
  refine ⟨x, x, rfl, rfl, ?_⟩
  conv => whnf
  rw [beq_self_eq_true]
  conv => whnf
  refine (c_hexR h hl).mono fun r st e => ?_
  obtain ⟨rfl, rfl⟩ := e
  conv => whnf
  rw [beq_self_eq_true]
  conv => whnf
  refine ⟨h, h, rfl, rfl, ?_⟩
  conv => whnf
  rw [beq_self_eq_true]
  conv => whnf
  refine (ca).mono fun r st e => ?_
  obtain ⟨rfl, rfl⟩ := e
  conv => whnf
  refine ⟨false, [], ?_⟩
  conv => whnf
theorem c_shaDigits (h s : List UInt8) (hl : h.length = 32) : FnOK Tryd.prog D 6 [.ar 32 .lf (by8 h), .sc (.string (strB s))] [] (fun r _ => r = (AV.sc (.bool (true)))) := by
  obtain ⟨x, ok, _, hx⟩ := read_one s
  refine c_shaDigits_aux h s x ok hl c_awake2 (fun hs => (c_unhex s (by omega)).mono fun r st e => ⟨hx r e.1, e.2⟩) (fun hs => (c_unhexR s (by omega)).mono fun r st e => ⟨hx r e.1, e.2⟩) ((c_unhex (hexB h) (by rw [hexB_len]; omega)).mono fun r st e => ?_)
  refine ⟨?_, e.2⟩
  rcases e.1 with ⟨g, _, e1, rfl⟩ | ⟨hn, _⟩
  · rw [hexB_inj e1]
  · exact absurd rfl (hn h hl)
end Go.WL.T4b
