/- Clients, certificates, lists of blocks as a law's arguments. No condition. -/
import Derived.Test.YtmpnboonjpcmpaaGreatDoorPart45
import Derived.Test.YtmpnboonjpcmpaaGreatDoorPart42
import Derived.Test.YtmpnboonjpcmpaaGreatDoorWordsD
set_option linter.unusedVariables false
set_option linter.unusedSimpArgs false
namespace Go.WL.T7z
open Go.WL Go.Proofs
set_option maxRecDepth 20000
set_option maxHeartbeats 8000000
abbrev stepL (c : Cl) (l : List Bl) (a : At) (s : List Sg) : Cl × Int := stepC (mayC c) (lastV l) (alongC c l) (rightC c.n a s) c l a
end Go.WL.T7z
namespace Go.WL.T7z
open Go.WL Go.Proofs
set_option maxRecDepth 20000
set_option maxHeartbeats 8000000
theorem lightK {b : Bl} (h : lightB b) : b.txs.length < 4294967296 ∧ shortK b.txs := ⟨by have := h.1; omega, fun t ht => by have := (h.2 t ht).1; omega⟩
theorem txs_of {v : AV} (h : OfTy (.sl (.nd [.lf, .lf, .lf, .lf, .lf, .lf, .lf]) (.st [.int .i64, .int .i64, .int .i64, .int .i64, .int .i64, .str, .str])) v) : ∃ l : List Tx, v = (AV.sl (.nd [.lf, .lf, .lf, .lf, .lf, .lf, .lf]) (txsA (l)) .ro) := by
  obtain ⟨xs, rfl, _, h2⟩ := h
  have : ∀ xs : List AV, (∀ x ∈ xs, OfTy (.st [.int .i64, .int .i64, .int .i64, .int .i64, .int .i64, .str, .str]) x) → ∃ l : List Tx, xs = txsA l := by
    intro xs
    induction xs with
    | nil => intro _; exact ⟨[], rfl⟩
    | cons x xs ih =>
      intro h
      obtain ⟨l, e⟩ := ih fun y hy => h y (List.mem_cons_of_mem _ hy)
      obtain ⟨t, e2⟩ := tx_of (h x (by simp))
      exact ⟨t :: l, by rw [e, e2]; rfl⟩
  obtain ⟨l, rfl⟩ := this xs h2
  exact ⟨l, rfl⟩
theorem bl_of {v : AV} (h : OfTy (.st [.ar 32 .lf (.int .u8), .int .i64, .int .i64, .int .i64, .sl (.nd [.lf, .lf, .lf, .lf, .lf, .lf, .lf]) (.st [.int .i64, .int .i64, .int .i64, .int .i64, .int .i64, .str, .str])]) v) : ∃ b : Bl, v = (AV.st [.ar 32 .lf (by8 (b).p), .sc (.int .i64 (b).v), .sc (.int .i64 (b).h), .sc (.int .i64 (b).by_), .sl (.nd [.lf, .lf, .lf, .lf, .lf, .lf, .lf]) (txsA (b).txs) .ro]) ∧ b.p.length = 32 := by
  obtain ⟨_, rfl, y0, _, rfl, h0, y1, _, rfl, ⟨v, rfl, _⟩, y2, _, rfl, ⟨h, rfl, _⟩, y3, _, rfl, ⟨y, rfl, _⟩, y4, _, rfl, h4, rfl⟩ := h
  obtain ⟨p, rfl, hp⟩ := arr_of h0
  obtain ⟨l, rfl⟩ := txs_of h4
  exact ⟨⟨p, v, h, y, l⟩, rfl, hp⟩
end Go.WL.T7z
namespace Go.WL.T7z
open Go.WL Go.Proofs
set_option maxRecDepth 20000
theorem cli_of {v : AV} (h : OfTy (.st [.int .i64, .ar 32 .lf (.int .u8), .int .i64, .int .i64]) v) : ∃ c : Cl, v = (AV.st [.sc (.int .i64 (c).n), .ar 32 .lf (by8 (c).g), .sc (.int .i64 (c).v), .sc (.int .i64 (c).h)]) ∧ c.g.length = 32 := by
  obtain ⟨_, rfl, y0, _, rfl, ⟨n, rfl, _⟩, y1, _, rfl, k1, y2, _, rfl, ⟨v, rfl, _⟩, y3, _, rfl, ⟨h, rfl, _⟩, rfl⟩ := h
  obtain ⟨g, rfl, hg⟩ := arr_of k1
  exact ⟨⟨n, g, v, h⟩, rfl, hg⟩
theorem att_of {v : AV} (h : OfTy (.st [.int .i64, .int .i64, .int .i64, .int .i64, .ar 32 .lf (.int .u8), .int .i64, .ar 32 .lf (.int .u8), .ar 32 .lf (.int .u8)]) v) : ∃ a : At, v = (AV.st [.sc (.int .i64 (a).by_), .sc (.int .i64 (a).k), .sc (.int .i64 (a).v), .sc (.int .i64 (a).ph), .ar 32 .lf (by8 (a).h), .sc (.int .i64 (a).pv), .ar 32 .lf (by8 (a).pg), .ar 32 .lf (by8 (a).tag)]) ∧ a.wf := by
  obtain ⟨_, rfl, y0, _, rfl, ⟨y, rfl, _⟩, y1, _, rfl, ⟨k, rfl, _⟩, y2, _, rfl, ⟨v, rfl, _⟩, y3, _, rfl, ⟨ph, rfl, _⟩, y4, _, rfl, k4, y5, _, rfl, ⟨pv, rfl, _⟩, y6, _, rfl, k6, y7, _, rfl, k7, rfl⟩ := h
  obtain ⟨h, rfl, h1⟩ := arr_of k4
  obtain ⟨pg, rfl, h2⟩ := arr_of k6
  obtain ⟨tag, rfl, h3⟩ := arr_of k7
  exact ⟨⟨y, k, v, ph, h, pv, pg, tag⟩, rfl, h1, h2, h3⟩
theorem sig_of {v : AV} (h : OfTy (.st [.int .i64, .ar 32 .lf (.int .u8)]) v) : ∃ s : Sg, v = (AV.st [.sc (.int .i64 (s).by_), .ar 32 .lf (by8 (s).tag)]) ∧ s.tag.length = 32 := by
  obtain ⟨_, rfl, y0, _, rfl, ⟨y, rfl, _⟩, y1, _, rfl, k1, rfl⟩ := h
  obtain ⟨t, rfl, h1⟩ := arr_of k1
  exact ⟨⟨y, t⟩, rfl, h1⟩
theorem sigs_map : ∀ xs : List AV, (∀ x ∈ xs, OfTy (.st [.int .i64, .ar 32 .lf (.int .u8)]) x) → ∃ l : List Sg, xs = sigsA l ∧ sigOK l
  | [], _ => ⟨[], rfl, fun s h => by simp at h⟩
  | x :: xs, h => by
    obtain ⟨l, e, hl⟩ := sigs_map xs fun y hy => h y (List.mem_cons_of_mem _ hy)
    obtain ⟨b, e2, hb⟩ := sig_of (h x (by simp))
    refine ⟨b :: l, by rw [e, e2]; rfl, fun c hc => ?_⟩
    rcases List.mem_cons.1 hc with rfl | hc
    · exact hb
    · exact hl c hc
theorem cert_of {v : AV} (h : OfTy (.st [.st [.int .i64, .int .i64, .int .i64, .int .i64, .ar 32 .lf (.int .u8), .int .i64, .ar 32 .lf (.int .u8), .ar 32 .lf (.int .u8)], .sl (.nd [.lf, .ar 32 .lf]) (.st [.int .i64, .ar 32 .lf (.int .u8)])]) v) :
    ∃ (a : At) (s : List Sg), v = .st [(AV.st [.sc (.int .i64 (a).by_), .sc (.int .i64 (a).k), .sc (.int .i64 (a).v), .sc (.int .i64 (a).ph), .ar 32 .lf (by8 (a).h), .sc (.int .i64 (a).pv), .ar 32 .lf (by8 (a).pg), .ar 32 .lf (by8 (a).tag)]), (AV.sl (.nd [.lf, .ar 32 .lf]) (sigsA (s)) .ro)] ∧ a.wf ∧ sigOK s := by
  obtain ⟨_, rfl, y0, _, rfl, k0, y1, _, rfl, ⟨xs, rfl, _, k1⟩, rfl⟩ := h
  obtain ⟨a, rfl, ha⟩ := att_of k0
  obtain ⟨s, rfl, hs⟩ := sigs_map xs k1
  exact ⟨a, s, rfl, ha, hs⟩
theorem bls_map : ∀ xs : List AV, (∀ x ∈ xs, OfTy (.st [.ar 32 .lf (.int .u8), .int .i64, .int .i64, .int .i64, .sl (.nd [.lf, .lf, .lf, .lf, .lf, .lf, .lf]) (.st [.int .i64, .int .i64, .int .i64, .int .i64, .int .i64, .str, .str])]) x) → ∃ l : List Bl, xs = blsA l ∧ ∀ b ∈ l, b.p.length = 32
  | [], _ => ⟨[], rfl, fun s h => by simp at h⟩
  | x :: xs, h => by
    obtain ⟨l, e, hl⟩ := bls_map xs fun y hy => h y (List.mem_cons_of_mem _ hy)
    obtain ⟨b, e2, hb⟩ := bl_of (h x (by simp))
    refine ⟨b :: l, by rw [e, e2]; rfl, fun c hc => ?_⟩
    rcases List.mem_cons.1 hc with rfl | hc
    · exact hb
    · exact hl c hc
theorem bls_of {v : AV} (h : OfTy (.sl (.nd [.ar 32 .lf, .lf, .lf, .lf, .lf]) (.st [.ar 32 .lf (.int .u8), .int .i64, .int .i64, .int .i64, .sl (.nd [.lf, .lf, .lf, .lf, .lf, .lf, .lf]) (.st [.int .i64, .int .i64, .int .i64, .int .i64, .int .i64, .str, .str])])) v) :
    ∃ l : List Bl, v = (AV.sl (.nd [.ar 32 .lf, .lf, .lf, .lf, .lf]) (blsA (l)) .ro) ∧ l.length ≤ maxLen ∧ ∀ b ∈ l, b.p.length = 32 := by
  obtain ⟨xs, rfl, h1, h2⟩ := h
  obtain ⟨l, rfl, hl⟩ := bls_map xs h2
  exact ⟨l, rfl, by simpa [blsA] using h1, hl⟩
end Go.WL.T7z
