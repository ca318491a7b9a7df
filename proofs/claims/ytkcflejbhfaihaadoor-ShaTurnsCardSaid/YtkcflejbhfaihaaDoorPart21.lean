/- ShaTurns. No condition. -/
import Derived.Test.YtkcflejbhfaihaaDoorPart07
import Derived.Test.YtkcflejbhfaihaaDoorPart20
set_option linter.unusedVariables false
set_option linter.unusedSimpArgs false
namespace Go.WL.T4
open Go.WL Go.Proofs
set_option maxRecDepth 20000
set_option maxHeartbeats 8000000
theorem words_of {n : Nat} {v : AV} (h : OfTy (.ar n .lf (.int .u32)) v) : ∃ s : List (BitVec 32), v = .ar n .lf (w32 s) ∧ s.length = n := by
  obtain ⟨xs, rfl, h1, h2⟩ := h
  obtain ⟨l, rfl, hl⟩ := ints_map xs h2
  refine ⟨l.map (BitVec.ofInt 32), ?_, by simpa using h1⟩
  congr 1
  unfold w32
  rw [List.map_map]
  refine List.map_congr_left fun x hx => ?_
  have := wf_u32 (hl x hx)
  show AV.sc (.int .u32 x) = AV.sc (.int .u32 (((BitVec.ofInt 32 x).toNat : Nat) : Int))
  rw [BitVec.toNat_ofInt]
  congr 2
  omega
def cA : List AV := ints .u32 gk0
theorem cA_at {k : Nat} (h : k < 64) : cA[((k : Nat) : Int).toNat]? = some (.sc (.int .u32 ((gk0 : List Int).getD k 0))) := by
  have hl : (gk0 : List Int).length = 64 := by decide +kernel
  unfold cA ints
  rw [Int.toNat_natCast, List.getElem?_map, List.getD_eq_getElem?_getD, List.getElem?_eq_getElem (by omega)]
  rfl
theorem c_constants : FnOK Tryd.prog D 19 [] [] (fun r st => r = .ar 64 .lf cA ∧ st = []) := by
  refine fnok_of_W hmix tabOK Tryd.func19 rfl rfl (Nat.le_of_ble_eq_true rfl) ?_
  conv => whnf
  refine ⟨false, [], ?_⟩
  conv => whnf
  exact ⟨rfl, rfl⟩
theorem c_shaTurns_aux (s T : List (BitVec 32)) (b blk F : List UInt8) (C : List AV) (pl : List Nat) (cv : Nat → Int) (hs : s.length = 8) (hblk : blk.length = 64) (hF : F.length % 64 = 0) (hpl : pl.length = 64)
    (hC : ∀ k, k < 64 → C[((k : Nat) : Int).toNat]? = some (.sc (.int .u32 (cv k))))
    (ca : FnOK Tryd.prog D 15 [] [] (fun r st => r = (AV.sc (.bool (true))) ∧ st = []))
    (cp : FnOK Tryd.prog D 18 [] [] (fun r st => r = .sl .lf (byQ pl) (.own 0) ∧ st = []))
    (cc : FnOK Tryd.prog D 19 [] [] (fun r st => r = .ar 64 .lf C ∧ st = []))
    (ck : ∀ k (h : k < pl.length), FnOK Tryd.prog D 25 [(AV.sc (.int .u64 ((pl[k] : Int))))] [] (fun r st => r = AV.sc (.int .u32 (cv k)) ∧ st = []))
    (ct : FnOK Tryd.prog D 21 [.ar 8 .lf (w32 s), .ar 64 .lf (by8 blk)] [] (fun r st => r = .ar 8 .lf (w32 T) ∧ st = []))
    (cr : FnOK Tryd.prog D 22 [.ar 8 .lf (w32 s), .ar 64 .lf (by8 blk)] [] (fun r st => r = .ar 8 .lf (w32 T) ∧ st = []))
    (cf : b.length ≤ 1000 → FnOK Tryd.prog D 20 [(AV.sl .lf (by8 (b)) .ro)] [] (fun r st => r = (AV.sl .lf (by8 (F)) .ro) ∧ st = []))
    (cg : b.length ≤ 1000 → FnOK Tryd.prog D 24 [(AV.sl .lf (by8 (b)) .ro)] [] (fun r st => r = (AV.sl .lf (by8 (F)) (.own 0)) ∧ st = []))
    (cs : b.length ≤ 1000 → FnOK Tryd.prog D 23 [(AV.sl .lf (by8 (F)) .ro), (AV.sl .lf (by8 (F)) .ro)] [] (fun r st => r = (AV.sc (.bool (F == F))) ∧ st = [])) :
    FnOK Tryd.prog D 4 [.ar 8 .lf (w32 s), .ar 64 .lf (by8 blk), (AV.sl .lf (by8 (b)) .ro)] [] (fun r _ => r = (AV.sc (.bool (true)))) := by
  have hlen := len8 b
  have hlF := len8 F
  refine fnok_of_W hmix tabOK Tryd.func4 rfl rfl (Nat.le_of_ble_eq_true rfl) ?_
  conv => whnf
  rw [hlen]
  refine Branch.of (fun h1 => ?_) (fun h1 => ?_) <;> rw [h1] <;> conv => whnf
  · refine (ca).mono fun r st e => ?_
    obtain ⟨rfl, rfl⟩ := e
    conv => whnf
    refine ⟨false, [], ?_⟩
    conv => whnf
  simp only [gt_iff_lt, decide_eq_false_iff_not] at h1
  have hb : b.length ≤ 1000 := by omega
  refine (cp).mono fun r st e => ?_
  obtain ⟨rfl, rfl⟩ := e
  conv => whnf
  refine (cc).mono fun r st e => ?_
  obtain ⟨rfl, rfl⟩ := e
  conv => whnf
  repeat (refine And.intro (by first | omega) ?_; conv => whnf)
  refine ⟨_, w32_at (i := 0) (show 0 < s.length by omega), ?_⟩
  conv => whnf
  repeat (refine And.intro (by first | omega) ?_; conv => whnf)
  rw [show Int.tmod (n32 s[0]) 64 = ((s[0].toNat % 64 : Nat) : Int) from rfl]
  have hk : s[0].toNat % 64 < 64 := Nat.mod_lt _ (by decide)
  generalize s[0].toNat % 64 = k at hk
  rw [w64 (x := (k : Int)) (by omega) (by omega)]
  refine (cf hb).mono fun r st e => ?_
  obtain ⟨rfl, rfl⟩ := e
  conv => whnf
  refine ⟨tabF4R7, by decide +kernel, ?_⟩
  conv => whnf
  refine ⟨_, _, ct, ?_⟩
  conv => whnf
  refine ⟨_, _, cr, ?_⟩
  conv => whnf
  have hW : w32 T = (T.map n32).map (fun n => AV.sc (.int .u32 n)) := by simp [w32]
  refine ⟨T.map n32, T.map n32, hW, hW, ?_⟩
  rw [beq_self_eq_true]
  conv => whnf
  refine ⟨_, _, (cg hb), ?_⟩
  conv => whnf
  refine ⟨_, _, (cs hb), ?_⟩
  conv => whnf
  rw [beq_self_eq_true]
  conv => whnf
  rw [hlF]
  repeat (refine And.intro (by first | omega) ?_; conv => whnf)
  rw [show Int.tmod (F.length : Int) 64 = ((F.length % 64 : Nat) : Int) from rfl, hF]
  conv => whnf
  repeat (refine And.intro (by first | omega) ?_; conv => whnf)
  repeat (refine And.intro (by first | omega) ?_; conv => whnf)
  refine ⟨_, hC k hk, ?_⟩
  conv => whnf
  repeat (refine And.intro (by first | omega) ?_; conv => whnf)
  refine ⟨_, atQ (show k < pl.length by omega), ?_⟩
  conv => whnf
  refine ⟨_, _, ck k (by omega), ?_⟩
  conv => whnf
  rw [beq_self_eq_true]
  conv => whnf
  refine ⟨_, _, ca, ?_⟩
  conv => whnf
  refine ⟨false, [], ?_⟩
  conv => whnf
theorem pit_len : (pit 310).length = 64 := by rw [pit_is]; rfl
theorem c_shaTurns (s : List (BitVec 32)) (b blk : List UInt8) (hs : s.length = 8) (hblk : blk.length = 64) : FnOK Tryd.prog D 4 [.ar 8 .lf (w32 s), .ar 64 .lf (by8 blk), (AV.sl .lf (by8 (b)) .ro)] [] (fun r _ => r = (AV.sc (.bool (true)))) :=
  c_shaTurns_aux s (turnS s blk) b blk (fill b) cA (pit 310) (fun k => (gk0 : List Int).getD k 0) hs hblk (fill_len b) pit_len (fun k h => cA_at h) c_awake2 c_primes c_constants
      (fun k h => by have := c_constR (((pit 310)[k] : Nat) : Int); rw [root_at h] at this; exact this)
      (c_turnP s blk hs hblk) (c_turnR s blk hs hblk) (fun hb => c_fill b (by omega)) (fun hb => c_fillR b (by omega)) (fun hb => c_same0 _ _ (by have := endB_len b.length; simp only [fill, List.length_append]; omega))
end Go.WL.T4
