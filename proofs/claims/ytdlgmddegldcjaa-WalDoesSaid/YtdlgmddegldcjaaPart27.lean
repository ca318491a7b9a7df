/- The wal: a disk with bytes is opened. No condition. -/
import Derived.Test.YtdlgmddegldcjaaPart26
import Derived.Test.YtdlgmddegldcjaaPart15
set_option linter.unusedVariables false
set_option linter.unusedSimpArgs false
namespace Go.WL.T5
open Go.WL Go.Proofs
set_option maxRecDepth 20000
set_option maxHeartbeats 4000000
def openP (k : Pk) : Pk × Int := if k.dead = true then (k, 6) else if (recsB k.b).2 < k.b.length then (if spoB (k.b.drop (recsB k.b).2) = true then (k, 10) else if (cutP k ((recsB k.b).2 : Int)).2 = 0 then syncP (cutP k ((recsB k.b).2 : Int)).1 else cutP k ((recsB k.b).2 : Int)) else syncP k
def PO (k : Pk) (e : Int) (l : List (List UInt8)) (r : AV) (st : List AV) : Prop := (e ≠ 0 ∧ r = .tup [.sc (.pointer none), .sl .lf [] .ro, (AV.sc (.int .i64 (e)))] ∧ P1 k st) ∨ (e = 0 ∧ ∃ st', P1 k st' ∧ r = .tup [.pt st'.length [], .sl .lf (l.map fun b => (AV.sl .lf (by8 (b)) .ro)) (.own 0), (AV.sc (.int .i64 (0)))] ∧ st = st' ++ [.st [.pt 0 [], (AV.sc (.int .i64 ((l.length : Int)))), (AV.sc (.bool (false)))]])
theorem recs_le : ∀ (k : Nat) (B : List UInt8), (recs k B).2 ≤ B.length
  | 0, B => Nat.zero_le _
  | k + 1, B => by
    unfold recs
    by_cases h : (nxt B).2.2 = 0
    · rw [if_pos h]
      obtain ⟨_, _, h3⟩ := nxt_fit B h
      have := recs_le k (B.drop (nxt B).2.1)
      rw [List.length_drop] at this
      show (nxt B).2.1 + _ ≤ _
      omega
    · rw [if_neg h]
      exact Nat.zero_le _
theorem sync_e (k : Pk) : (syncP k).2 = 6 ∨ (syncP k).2 = 0 := by
  unfold syncP
  split
  · exact .inl rfl
  · split
    · exact .inr rfl
    · exact .inl rfl
theorem step_armed (k : Pk) (h1 : -1 ≤ k.armed) (h2 : k.armed < 9223372036854775808) : -1 ≤ (stepP k).1.armed ∧ (stepP k).1.armed < 9223372036854775808 := by
  unfold stepP
  split
  · exact ⟨h1, h2⟩
  · split
    · exact ⟨by show -1 ≤ k.armed - 1; omega, by show k.armed - 1 < _; omega⟩
    · exact ⟨h1, h2⟩
theorem cut_armed (k : Pk) (n : Int) (hw : WFk k) : -1 ≤ (cutP k n).1.armed ∧ (cutP k n).1.armed < 9223372036854775808 := by
  have hs := step_armed k hw.2.2.2.2.2.1 hw.2.2.2.2.2.2
  have h0 : -1 ≤ k.armed ∧ k.armed < 9223372036854775808 := ⟨hw.2.2.2.2.2.1, hw.2.2.2.2.2.2⟩
  unfold cutP
  split
  · exact h0
  · split
    · exact h0
    · split
      · exact hs
      · exact hs
theorem c_open1 (k : Pk) (cap c2 : Nat) (L : List AV) (hL : OKL k.b cap c2 L) (hw : WFk k) : FnOK Try.prog D 33 [.pt 0 []] [(AV.st [.bs 1 [] .lf 0 (k).b.length cap, .sc (.int .i64 (k).sf), .sc (.int .i64 (k).room), .sc (.bool true), .sc (.int .i64 (k).armed), .sc (.bool (k).dead), .sl .lf (by8 (k).h) .ro]), .ar c2 .lf L] (fun r st => PO (openP k).1 (openP k).2 (recsB k.b).1 r st) := by
  have ca := c_all1 k cap c2 L hL hw
  have cs := c_sync1 k cap c2 L hw.2.2.2.2.2.1 hw.2.2.2.2.2.2
  have hsb := sync_b k
  have hse := sync_e k
  have hlen : k.b.length < 100000000 := by
    have := hw.2.2.1
    have := hw.2.1
    omega
  have cr := c_records k.b hlen
  have hle : (recsB k.b).2 ≤ k.b.length := recs_le _ _
  have lB : (by8 k.b).length = k.b.length := len8 _
  have hcut := fun n => c_cut1 k n cap c2 L hL hw
  obtain ⟨b, sf, room, armed, dead, h⟩ := k
  simp only at hlen cr hle lB hsb hL
  cases dead with
  | true =>
    refine fnok_of_W hmix tabOK Try.func33 rfl rfl (Nat.le_of_ble_eq_true rfl) ?_
    conv => whnf
    refine (ca).mono fun r st e => ?_
    obtain ⟨rfl, rfl⟩ := e
    conv => whnf
    refine ⟨false, [999], ?_⟩
    conv => whnf
    exact .inl ⟨(by decide : (6 : Int) ≠ 0), rfl, .inl ⟨cap, c2, L, hL, rfl⟩⟩
  | false =>
    rw [show openP ⟨b, sf, room, armed, false, h⟩ = if (recsB b).2 < b.length then (if spoB (b.drop (recsB b).2) = true then (⟨b, sf, room, armed, false, h⟩, 10) else if (cutP ⟨b, sf, room, armed, false, h⟩ ((recsB b).2 : Int)).2 = 0 then syncP (cutP ⟨b, sf, room, armed, false, h⟩ ((recsB b).2 : Int)).1 else cutP ⟨b, sf, room, armed, false, h⟩ ((recsB b).2 : Int)) else syncP ⟨b, sf, room, armed, false, h⟩ from rfl]
    replace ca : FnOK Try.prog D 22 [.pt 0 []] [(AV.st [.bs 1 [] .lf 0 ((⟨b, sf, room, armed, false, h⟩ : Pk)).b.length cap, .sc (.int .i64 ((⟨b, sf, room, armed, false, h⟩ : Pk)).sf), .sc (.int .i64 ((⟨b, sf, room, armed, false, h⟩ : Pk)).room), .sc (.bool true), .sc (.int .i64 ((⟨b, sf, room, armed, false, h⟩ : Pk)).armed), .sc (.bool ((⟨b, sf, room, armed, false, h⟩ : Pk)).dead), .sl .lf (by8 ((⟨b, sf, room, armed, false, h⟩ : Pk)).h) .ro]), .ar c2 .lf L] (fun r st => r = .tup [(AV.sl .lf (by8 (b)) .ro), (AV.sc (.int .i64 (0)))] ∧ st = [(AV.st [.bs 1 [] .lf 0 ((⟨b, sf, room, armed, false, h⟩ : Pk)).b.length cap, .sc (.int .i64 ((⟨b, sf, room, armed, false, h⟩ : Pk)).sf), .sc (.int .i64 ((⟨b, sf, room, armed, false, h⟩ : Pk)).room), .sc (.bool true), .sc (.int .i64 ((⟨b, sf, room, armed, false, h⟩ : Pk)).armed), .sc (.bool ((⟨b, sf, room, armed, false, h⟩ : Pk)).dead), .sl .lf (by8 ((⟨b, sf, room, armed, false, h⟩ : Pk)).h) .ro]), .ar c2 .lf L]) := ca
    generalize recsB b = R at cr hle ⊢
    obtain ⟨l, n⟩ := R
    simp only at cr hle
    by_cases hn : n < b.length
    · rw [if_pos hn]
      have hsp := c_spoilt (b.drop n) (by rw [List.length_drop]; omega)
      have hc := hcut (n : Int)
      have hca := cut_armed (⟨b, sf, room, armed, false, h⟩ : Pk) (n : Int) hw
      generalize cutP ⟨b, sf, room, armed, false, h⟩ (n : Int) = cq at hc hca ⊢
      obtain ⟨k1, e1⟩ := cq
      simp only at hca
      have hse1 := sync_e k1
      have hsb1 := sync_b k1
      have hs0 := fun hb => c_sync0 k1 hca.1 hca.2 hb
      have hs1 := fun cap c2 L => c_sync1 k1 cap c2 L hca.1 hca.2
      generalize syncP k1 = q at hs0 hs1 hsb1 hse1 ⊢
      obtain ⟨k2, e⟩ := q
      simp only at hsb1 hse1
      generalize spoB (b.drop n) = S at hsp ⊢
      refine fnok_of_W hmix tabOK Try.func33 rfl rfl (Nat.le_of_ble_eq_true rfl) ?_
      conv => whnf
      refine (ca).mono fun r st e => ?_
      obtain ⟨rfl, rfl⟩ := e
      conv => whnf
      refine (cr).mono fun r st e => ?_
      obtain ⟨rfl, rfl⟩ := e
      conv => whnf
      rw [lB]
      refine Branch.yes (decide_eq_true (by omega)) ?_
      conv => whnf
      refine ⟨by omega, by omega, by omega, ?_⟩
      conv => whnf
      rw [show (n : Int).toNat = n from Int.toNat_natCast n, cut8]
      refine (hsp).mono fun r st e => ?_
      obtain ⟨rfl, rfl⟩ := e
      conv => whnf
      cases S with
      | true =>
        conv => whnf
        refine ⟨false, [999], ?_⟩
        conv => whnf
        exact .inl ⟨(by decide : (10 : Int) ≠ 0), rfl, .inl ⟨cap, c2, L, hL, rfl⟩⟩
      | false =>
        rw [if_neg (fun e => Bool.noConfusion e)]
        conv => whnf
        refine hc.mono ?_
        rintro r st ⟨rfl, hP⟩
        by_cases he : e1 = 0
        · subst he
          rw [if_pos rfl]
          rcases hP with ⟨cap, c2, L, hL, rfl⟩ | ⟨cap, c2, L, cj, Lj, hL, rfl⟩ | ⟨hb2, cj, Lj, rfl⟩
          · have hL2 : OKL k2.b cap c2 L := by rw [hsb1]; exact hL
            conv => whnf
            refine (hs1 cap c2 L).mono fun r st e => ?_
            obtain ⟨rfl, rfl⟩ := e
            conv => whnf
            rcases hse1 with rfl | rfl
            · conv => whnf
              refine ⟨false, [999], ?_⟩
              conv => whnf
              exact .inl ⟨(by decide : (6 : Int) ≠ 0), rfl, .inl ⟨cap, c2, L, hL2, rfl⟩⟩
            · conv => whnf
              refine ⟨false, [2], ?_⟩
              conv => whnf
              rw [List.length_map]
              exact .inr ⟨rfl, _, .inl ⟨cap, c2, L, hL2, rfl⟩, rfl, rfl⟩
          · have hL2 : OKL k2.b cap c2 L := by rw [hsb1]; exact hL
            conv => whnf
            refine (hs1 cap c2 L).mono fun r st e => ?_
            obtain ⟨rfl, rfl⟩ := e
            conv => whnf
            rcases hse1 with rfl | rfl
            · conv => whnf
              refine ⟨false, [999, 2], ?_⟩
              conv => whnf
              exact .inl ⟨(by decide : (6 : Int) ≠ 0), rfl, .inr (.inl ⟨cap, c2, L, cj, Lj, hL2, rfl⟩)⟩
            · conv => whnf
              refine ⟨false, [2, 3], ?_⟩
              conv => whnf
              rw [List.length_map]
              exact .inr ⟨rfl, _, .inr (.inl ⟨cap, c2, L, cj, Lj, hL2, rfl⟩), rfl, rfl⟩
          · conv => whnf
            refine (hs0 hb2).mono fun r st e => ?_
            obtain ⟨rfl, rfl⟩ := e
            conv => whnf
            rcases hse1 with rfl | rfl
            · conv => whnf
              refine ⟨false, [999], ?_⟩
              conv => whnf
              exact .inl ⟨(by decide : (6 : Int) ≠ 0), rfl, .inr (.inr ⟨hsb1.trans hb2, cj, Lj, rfl⟩)⟩
            · conv => whnf
              refine ⟨false, [2], ?_⟩
              conv => whnf
              rw [List.length_map]
              exact .inr ⟨rfl, _, .inr (.inr ⟨hsb1.trans hb2, cj, Lj, rfl⟩), rfl, rfl⟩
        · rw [if_neg he]
          rcases hP with ⟨cap, c2, L, hL, rfl⟩ | ⟨cap, c2, L, cj, Lj, hL, rfl⟩ | ⟨hb2, cj, Lj, rfl⟩
          all_goals (conv => whnf)
          all_goals refine Branch.yes (by rw [bne_iff_ne]; exact he) ?_
          all_goals (conv => whnf)
          · refine ⟨false, [999], ?_⟩
            conv => whnf
            exact .inl ⟨he, rfl, .inl ⟨cap, c2, L, hL, rfl⟩⟩
          · refine ⟨false, [999, 2], ?_⟩
            conv => whnf
            exact .inl ⟨he, rfl, .inr (.inl ⟨cap, c2, L, cj, Lj, hL, rfl⟩)⟩
          · refine ⟨false, [999], ?_⟩
            conv => whnf
            exact .inl ⟨he, rfl, .inr (.inr ⟨hb2, cj, Lj, rfl⟩)⟩
    · rw [if_neg hn]
      generalize syncP ⟨b, sf, room, armed, false, h⟩ = q at cs hsb hse ⊢
      obtain ⟨k2, e⟩ := q
      simp only at hsb hse
      have hL2 : OKL k2.b cap c2 L := by rw [hsb]; exact hL
      refine fnok_of_W hmix tabOK Try.func33 rfl rfl (Nat.le_of_ble_eq_true rfl) ?_
      conv => whnf
      refine (ca).mono fun r st e => ?_
      obtain ⟨rfl, rfl⟩ := e
      conv => whnf
      refine (cr).mono fun r st e => ?_
      obtain ⟨rfl, rfl⟩ := e
      conv => whnf
      rw [lB]
      refine Branch.no (decide_eq_false (by omega)) ?_
      conv => whnf
      refine (cs).mono fun r st e => ?_
      obtain ⟨rfl, rfl⟩ := e
      conv => whnf
      rcases hse with rfl | rfl
      · conv => whnf
        refine ⟨false, [999], ?_⟩
        conv => whnf
        exact .inl ⟨(by decide : (6 : Int) ≠ 0), rfl, .inl ⟨cap, c2, L, hL2, rfl⟩⟩
      · conv => whnf
        refine ⟨false, [2], ?_⟩
        conv => whnf
        rw [List.length_map]
        exact .inr ⟨rfl, _, .inl ⟨cap, c2, L, hL2, rfl⟩, rfl, rfl⟩
end Go.WL.T5
