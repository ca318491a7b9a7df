/- The reference's wal: opened, put, spoilt. No condition. -/
import Derived.Test.YtdlgmddegldcjaaPart38
set_option linter.unusedVariables false
set_option linter.unusedSimpArgs false
namespace Go.WL.T5
open Go.WL Go.Proofs
set_option maxRecDepth 20000
set_option maxHeartbeats 8000000
theorem c_ropen (r : Rk) (hw : WFr r) : FnOK Try.prog D 38 [(AV.st [.sl .lf (by8 (r).s) .ro, .sl .lf (by8 (r).m) .ro, .sl .lf (by8 (r).h) .ro, .sc (.int .i64 (r).room), .sc (.int .i64 (r).armed), .sc (.bool (r).dead)])] [] (fun q st => q = .tup [.st [(AV.st [.sl .lf (by8 ((openR r).1).s) .ro, .sl .lf (by8 ((openR r).1).m) .ro, .sl .lf (by8 ((openR r).1).h) .ro, .sc (.int .i64 ((openR r).1).room), .sc (.int .i64 ((openR r).1).armed), .sc (.bool ((openR r).1).dead)]), (AV.sc (.int .i64 (if (openR r).2 = 0 then ((recsB (r.s ++ r.m)).1.length : Int) else 0))), (AV.sc (.bool (false))), (AV.sc (.bool (((openR r).2 == 0))))], .sl .lf ((if (openR r).2 = 0 then (recsB (r.s ++ r.m)).1 else []).map fun b => (AV.sl .lf (by8 (b)) .ro)) .ro, (AV.sc (.int .i64 ((openR r).2)))] ∧ st = []) := by
  have ca := c_rall r hw
  have cs := c_rsync r hw
  have hse := syncR_e r
  have hlen : (r.s ++ r.m).length < 100000000 := by
    obtain ⟨w1, w2, w3, w4, w5⟩ := hw
    rw [List.length_append]
    omega
  have cr := c_rrecords (r.s ++ r.m) hlen
  have hle : (recsB (r.s ++ r.m)).2 ≤ (r.s ++ r.m).length := recs_le _ _
  have hcut := fun n => c_rcut r n hw
  have hcw := fun n => cut_wf hw n
  obtain ⟨s, m, h, room, armed, dead⟩ := r
  simp only at hlen cr hle ca
  cases dead with
  | true =>
    have e : openR ⟨s, m, h, room, armed, true⟩ = ((⟨s, m, h, room, armed, true⟩ : Rk), (6 : Int)) := by unfold openR; rw [if_pos rfl]
    rw [e]
    refine fnok_of_W hmix tabOK Try.func38 rfl rfl (Nat.le_of_ble_eq_true rfl) ?_
    conv => whnf
    refine ⟨false, [999], ?_⟩
    conv => whnf
    exact ⟨rfl, rfl⟩
  | false =>
    have ho : openR ⟨s, m, h, room, armed, false⟩ = if (recsB (s ++ m)).2 < (s ++ m).length then (if spoB ((s ++ m).drop (recsB (s ++ m)).2) = true then (⟨s, m, h, room, armed, false⟩, 10) else if (cutR ⟨s, m, h, room, armed, false⟩ ((recsB (s ++ m)).2 : Int)).2 = 0 then syncR (cutR ⟨s, m, h, room, armed, false⟩ ((recsB (s ++ m)).2 : Int)).1 else cutR ⟨s, m, h, room, armed, false⟩ ((recsB (s ++ m)).2 : Int)) else syncR ⟨s, m, h, room, armed, false⟩ := rfl
    rw [show (⟨s, m, h, room, armed, false⟩ : Rk).s ++ (⟨s, m, h, room, armed, false⟩ : Rk).m = s ++ m from rfl]
    generalize openR ⟨s, m, h, room, armed, false⟩ = oq at ho ⊢
    generalize hB : s ++ m = B at *
    have lB : (by8 B).length = B.length := len8 _
    generalize recsB B = R at cr hle ho ⊢
    obtain ⟨l, n⟩ := R
    simp only at cr hle ho
    have hdl : (B.drop n).length = B.length - n := List.length_drop
    by_cases hn : n < B.length
    · rw [if_pos hn] at ho
      have hsp := c_rspoilt (B.drop n) (by omega)
      have hc := hcut (n : Int)
      have hcw := hcw (n : Int)
      generalize cutR ⟨s, m, h, room, armed, false⟩ (n : Int) = cq at hc hcw ho
      obtain ⟨k1, e1⟩ := cq
      simp only at hcw ho
      have hs1 := c_rsync k1 hcw
      have hse1 := syncR_e k1
      generalize syncR k1 = sq at hs1 ho hse1
      obtain ⟨k2, e⟩ := sq
      simp only at hse1
      generalize spoB (B.drop n) = S at hsp ho
      refine fnok_of_W hmix tabOK Try.func38 rfl rfl (Nat.le_of_ble_eq_true rfl) ?_
      conv => whnf
      refine (ca).mono fun r st e => ?_
      obtain ⟨rfl, rfl⟩ := e
      conv => whnf
      refine (cr).mono fun r st e => ?_
      obtain ⟨rfl, rfl⟩ := e
      conv => whnf
      rw [len8]
      refine Branch.of (fun hh => ?_) (fun hh => ?_)
      rotate_left
      · exfalso; simp only [gt_iff_lt, ge_iff_le, decide_eq_true_eq, decide_eq_false_iff_not, beq_iff_eq, beq_eq_false_iff_ne, bne_iff_ne, bne_eq_false_iff_eq, ne_eq] at hh; first | done | omega | (simp at hh; done)
      try rw [hh]
      clear hh
      conv => whnf
      refine (hsp).mono fun r st e => ?_
      obtain ⟨rfl, rfl⟩ := e
      conv => whnf
      cases S with
      | true =>
        rw [if_pos rfl] at ho
        subst ho
        conv => whnf
        refine ⟨false, [999], ?_⟩
        conv => whnf
        exact ⟨rfl, rfl⟩
      | false =>
        rw [if_neg (fun e => Bool.noConfusion e)] at ho
        conv => whnf
        rw [lB, len8, w64 (x := (B.length : Int) - ((B.drop n).length : Int)) (by omega) (by omega), show (B.length : Int) - ((B.drop n).length : Int) = (n : Int) by omega]
        refine (hc).mono fun r st e => ?_
        obtain ⟨rfl, rfl⟩ := e
        conv => whnf
        by_cases he : e1 = 0
        · subst he
          rw [if_pos rfl] at ho
          subst ho
          conv => whnf
          refine (hs1).mono fun r st e => ?_
          obtain ⟨rfl, rfl⟩ := e
          conv => whnf
          rcases hse1 with rfl | rfl
          · conv => whnf
            refine ⟨false, [999], ?_⟩
            conv => whnf
            exact ⟨rfl, rfl⟩
          · conv => whnf
            refine ⟨false, [999], ?_⟩
            conv => whnf
            rw [List.length_map]
            exact ⟨rfl, rfl⟩
        · rw [if_neg he] at ho
          subst ho
          refine Branch.yes (by rw [bne_iff_ne]; exact he) ?_
          conv => whnf
          refine ⟨false, [999], ?_⟩
          conv => whnf
          refine ⟨?_, rfl⟩
          rw [if_neg he, if_neg he, show (e1 == 0) = false from decide_eq_false he]
          rfl
    · rw [if_neg hn] at ho
      generalize syncR ⟨s, m, h, room, armed, false⟩ = sq at cs ho hse
      obtain ⟨k2, e⟩ := sq
      simp only at hse
      subst ho
      refine fnok_of_W hmix tabOK Try.func38 rfl rfl (Nat.le_of_ble_eq_true rfl) ?_
      conv => whnf
      refine (ca).mono fun r st e => ?_
      obtain ⟨rfl, rfl⟩ := e
      conv => whnf
      refine (cr).mono fun r st e => ?_
      obtain ⟨rfl, rfl⟩ := e
      conv => whnf
      rw [len8]
      refine Branch.of (fun hh => ?_) (fun hh => ?_)
      · exfalso; simp only [gt_iff_lt, ge_iff_le, decide_eq_true_eq, decide_eq_false_iff_not, beq_iff_eq, beq_eq_false_iff_ne, bne_iff_ne, bne_eq_false_iff_eq, ne_eq] at hh; first | done | omega | (simp at hh; done)
      try rw [hh]
      clear hh
      conv => whnf
      refine (cs).mono fun r st e => ?_
      obtain ⟨rfl, rfl⟩ := e
      conv => whnf
      rcases hse with rfl | rfl
      · conv => whnf
        refine ⟨false, [999], ?_⟩
        conv => whnf
        exact ⟨rfl, rfl⟩
      · conv => whnf
        refine ⟨false, [999], ?_⟩
        conv => whnf
        rw [List.length_map]
        exact ⟨rfl, rfl⟩
theorem app_wfq {r : Rk} (h : WFq r) (x : List UInt8) : WFq (appR r x).1 := wfq_do (d := 0) (B := x) (n := 0) h (by decide)
theorem sync_wfq {r : Rk} (h : WFq r) : WFq (syncR r).1 := wfq_do (d := 1) (B := []) (n := 0) h (by decide)
theorem cut_wfq {r : Rk} (h : WFq r) (n : Int) (hn : n < 9223372036854775808) : WFq (cutR r n).1 := wfq_do (d := 2) (B := []) (n := n) h hn
theorem open_wfq {r : Rk} (h : WFq r) : WFq (openR r).1 := by
  have hle : (recsB (r.s ++ r.m)).2 ≤ (r.s ++ r.m).length := recs_le _ _
  have hlen : (r.s ++ r.m).length < 100000000 := by
    obtain ⟨⟨w1, w2, w3, w4, w5⟩, _⟩ := h
    rw [List.length_append]
    omega
  have hc := cut_wfq h ((recsB (r.s ++ r.m)).2 : Int) (by omega)
  unfold openR
  split
  · exact h
  · split
    · split
      · exact h
      · split
        · exact sync_wfq hc
        · exact hc
    · exact sync_wfq h
def putDR (k : Rk) (x : List UInt8) : Rk × Int := if (appR k x).2 = 0 then syncR (appR k x).1 else appR k x
def putR (k : Rk) (m : Int) (br is : Bool) (l : List (List UInt8)) : Rk × Int × Bool × Int := if (!is || br) = true then (k, m, br, 5) else if goodL l = false then (k, m, br, 1) else if l = [] then (k, m, br, 0) else ((putDR k (recL l)).1, (if (putDR k (recL l)).2 = 0 then m + l.length else m), (putDR k (recL l)).2 == 6, (putDR k (recL l)).2)
theorem putD_to (r : Rk) (x : List UInt8) : putD (toP r) x = (toP (putDR r x).1, (putDR r x).2) := by
  unfold putD putDR
  rw [app_to]
  simp only
  split
  · rw [sync_to]
  · rfl
theorem put_to (r : Rk) (m : Int) (br : Bool) (l : List (List UInt8)) : putP (toP r) m br l = (toP (putR r m br true l).1, (putR r m br true l).2) := by
  unfold putP putR
  rw [putD_to]
  simp only [Bool.not_true, Bool.false_or]
  split
  · rfl
  · split
    · rfl
    · split
      · rfl
      · rfl
theorem putDR_wfq {r : Rk} (h : WFq r) (x : List UInt8) : WFq (putDR r x).1 := by
  unfold putDR
  split
  · exact sync_wfq (app_wfq h x)
  · exact app_wfq h x
theorem putR_wfq {r : Rk} (h : WFq r) (m : Int) (br is : Bool) (l : List (List UInt8)) : WFq (putR r m br is l).1 := by
  unfold putR
  split
  · exact h
  · split
    · exact h
    · split
      · exact h
      · exact putDR_wfq h _
theorem c_rput (r : Rk) (m : Int) (br is : Bool) (l : List (List UInt8)) (hw : WFq r) (hl : l.length ≤ 100) (hb : ∀ b ∈ l, b.length ≤ 1000) (hm0 : 0 ≤ m) (hm : m ≤ 1000000000) (q : Rk × Int × Bool × Int) (hq : putR r m br is l = q) : FnOK Try.prog D 39 [.st [(AV.st [.sl .lf (by8 (r).s) .ro, .sl .lf (by8 (r).m) .ro, .sl .lf (by8 (r).h) .ro, .sc (.int .i64 (r).room), .sc (.int .i64 (r).armed), .sc (.bool (r).dead)]), (AV.sc (.int .i64 (m))), (AV.sc (.bool (br))), (AV.sc (.bool (is)))], (AV.sl .lf ((l).map fun b => AV.sl .lf (by8 b) .ro) .ro)] [] (fun p st => p = .tup [.st [(AV.st [.sl .lf (by8 (q.1).s) .ro, .sl .lf (by8 (q.1).m) .ro, .sl .lf (by8 (q.1).h) .ro, .sc (.int .i64 (q.1).room), .sc (.int .i64 (q.1).armed), .sc (.bool (q.1).dead)]), (AV.sc (.int .i64 (q.2.1))), (AV.sc (.bool (q.2.2.1))), (AV.sc (.bool (is)))], (AV.sc (.int .i64 (q.2.2.2)))] ∧ st = []) := by
  by_cases h0 : (!is || br) = true
  · have e : q = (r, m, br, 5) := by rw [← hq, putR, if_pos h0]
    subst e
    refine fnok_of_Ws [1704006] hmix tabOK Try.func39 rfl rfl (Nat.le_of_ble_eq_true rfl) ?_
    conv => whnf
    cases is with
    | false =>
      conv => whnf
      refine ⟨false, [999], ?_⟩
      conv => whnf
      exact ⟨rfl, rfl⟩
    | true =>
      cases br with
      | true =>
        conv => whnf
        refine ⟨false, [999], ?_⟩
        conv => whnf
        exact ⟨rfl, rfl⟩
      | false => cases h0
  have hib : is = true ∧ br = false := by cases is <;> cases br <;> simp at h0 ⊢
  obtain ⟨rfl, rfl⟩ := hib
  have hq1 : putR r m false true l = if goodL l = false then (r, m, false, 1) else if l = [] then (r, m, false, 0) else ((putDR r (recL l)).1, (if (putDR r (recL l)).2 = 0 then m + l.length else m), (putDR r (recL l)).2 == 6, (putDR r (recL l)).2) := rfl
  rw [hq1] at hq
  clear hq1 h0
  refine fnok_of_Ws [1704006] hmix tabOK Try.func39 rfl rfl (Nat.le_of_ble_eq_true rfl) ?_
  conv => whnf
  refine ⟨false, [1, 2, 4, 6, 7], fun τ => ∃ i : Nat, i ≤ l.length ∧ (∀ b ∈ l.take i, b ≠ []) ∧ τ = ⟨80, [(1, (AV.sl .lf ((l).map fun b => AV.sl .lf (by8 b) .ro) .ro)), (2, .pt 0 []), (4, .pt 1 []), (6, (AV.sl .lf (by8 ((recL (l.take i)))) (.own 0))), (7, (AV.sc (.int .i64 ((i : Int)))))], ⟨[(.st [(AV.st [.sl .lf (by8 (r).s) .ro, .sl .lf (by8 (r).m) .ro, .sl .lf (by8 (r).h) .ro, .sc (.int .i64 (r).room), .sc (.int .i64 (r).armed), .sc (.bool (r).dead)]), (AV.sc (.int .i64 (m))), (AV.sc (.bool (false))), (AV.sc (.bool (true)))], false), (.st [.st [.sl .lf [] .ex, .sl .lf [] .ex, .sl .lf [] .ex, (AV.sc (.int .i64 (0))), (AV.sc (.int .i64 (0))), (AV.sc (.bool (false)))], (AV.sc (.int .i64 (0))), (AV.sc (.bool (false))), (AV.sc (.bool (false)))], false)], [0], 1⟩⟩, fun τ => l.length - (slotI τ 7).toNat, ?_, ?_⟩
  · conv => whnf
    exact ⟨0, by omega, by simp, rfl⟩
  rintro τ ⟨i, hi, hg, rfl⟩
  apply enter3
  intro kk kK
  conv => whnf
  rw [List.length_map]
  refine Branch.of (fun h1 => ?_) (fun h1 => ?_) <;> rw [h1] <;> conv => whnf
  rotate_left
  · have h1 := of_decide_eq_false h1
    have e : i = l.length := by omega
    rw [e, List.take_length] at hg
    have hgg := good_all hg
    rw [if_neg (fun e => by rw [hgg] at e; cases e)] at hq
    refine kK _ _ ?_
    conv => whnf
    rw [List.length_map]
    by_cases hl0 : l = []
    · subst hl0
      rw [if_pos rfl] at hq
      subst hq
      conv => whnf
      refine ⟨false, [999], ?_⟩
      conv => whnf
      exact ⟨rfl, rfl⟩
    rw [if_neg hl0] at hq
    refine Branch.no (by rw [beq_eq_false_iff_ne]; intro e; exact hl0 (List.eq_nil_of_length_eq_zero (by omega))) ?_
    conv => whnf
    rw [show l.take i = l by rw [e, List.take_length]]
    have hrl := recL_len l hb
    have ca := c_rapp r (recL l) hw.1 (by omega)
    have haw := (app_wfq hw (recL l)).1
    have hpd : putDR r (recL l) = if (appR r (recL l)).2 = 0 then syncR (appR r (recL l)).1 else appR r (recL l) := rfl
    generalize putDR r (recL l) = pd at hpd hq
    generalize appR r (recL l) = ap at ca haw hpd
    obtain ⟨k2, e2⟩ := ap
    simp only at haw hpd
    have cs := c_rsync k2 haw
    have hse := syncR_e k2
    refine (ca).mono fun r st e => ?_
    obtain ⟨rfl, rfl⟩ := e
    conv => whnf
    by_cases he : e2 = 0
    · subst he
      rw [if_pos rfl] at hpd
      generalize syncR k2 = sp at hpd hse cs
      obtain ⟨k3, e3⟩ := sp
      subst hpd
      simp only at hse hq
      conv => whnf
      refine (cs).mono fun r st e => ?_
      obtain ⟨rfl, rfl⟩ := e
      conv => whnf
      rcases hse with rfl | rfl
      · rw [if_neg (by decide)] at hq
        subst hq
        conv => whnf
        refine ⟨false, [999], ?_⟩
        conv => whnf
        exact ⟨rfl, rfl⟩
      · rw [if_pos rfl] at hq
        subst hq
        conv => whnf
        rw [List.length_map, w64 (x := m + (l.length : Int)) (by omega) (by omega)]
        conv => whnf
        refine ⟨false, [999], ?_⟩
        conv => whnf
        exact ⟨rfl, rfl⟩
    · rw [if_neg he] at hpd
      subst hpd
      simp only at hq
      rw [if_neg he] at hq
      subst hq
      refine Branch.no (beq_eq_false_iff_ne.2 he) ?_
      conv => whnf
      refine Branch.no (beq_eq_false_iff_ne.2 he) ?_
      conv => whnf
      refine ⟨false, [999], ?_⟩
      conv => whnf
      exact ⟨rfl, rfl⟩
  have h1 := of_decide_eq_true h1
  have ih : i < l.length := by omega
  have hmem : l[i] ∈ l := List.getElem_mem ih
  have hbi := hb l[i] hmem
  have hat := at_ro ih
  have hsucc := recL_succ ih
  have htk : ∀ b ∈ l.take (i + 1), b ∈ l.take i ∨ b = l[i] := by
    intro b hb
    rw [List.take_add_one, List.getElem?_eq_getElem ih] at hb
    rcases List.mem_append.1 hb with h | h
    · exact .inl h
    · exact .inr (List.mem_singleton.1 h)
  have hlt : (recL (l.take i)).length ≤ 1008 * i := by
    have := recL_len (l.take i) (fun b h => hb b (List.mem_of_mem_take h))
    rw [List.length_take, Nat.min_eq_left hi] at this
    exact this
  generalize l[i] = b at hmem hbi hat hsucc htk
  refine ⟨by omega, _, hat, ?_⟩
  conv => whnf
  rw [len8]
  by_cases hb0 : b = []
  · have e : q = (r, m, false, 1) := by rw [← hq, if_pos (good_bad hmem hb0)]
    subst e
    subst hb0
    refine Branch.yes (decide_eq_true (by decide)) ?_
    conv => whnf
    refine kK _ _ ?_
    conv => whnf
    refine ⟨false, [999], ?_⟩
    conv => whnf
    exact ⟨rfl, rfl⟩
  · have hbp : 0 < b.length := List.length_pos_iff.2 hb0
    refine Branch.of (fun hh => ?_) (fun hh => ?_)
    · exfalso; simp only [gt_iff_lt, ge_iff_le, decide_eq_true_eq, decide_eq_false_iff_not, beq_iff_eq, beq_eq_false_iff_ne, bne_iff_ne, bne_eq_false_iff_eq, ne_eq] at hh; first | done | omega | (simp at hh; done)
    try rw [hh]
    clear hh
    conv => whnf
    refine ⟨by omega, _, hat, ?_⟩
    conv => whnf
    rw [len8]
    refine Branch.of (fun hh => ?_) (fun hh => ?_)
    · exfalso; simp only [gt_iff_lt, ge_iff_le, decide_eq_true_eq, decide_eq_false_iff_not, beq_iff_eq, beq_eq_false_iff_ne, bne_iff_ne, bne_eq_false_iff_eq, ne_eq] at hh; first | done | omega | (simp at hh; done)
    try rw [hh]
    clear hh
    conv => whnf
    refine ⟨by omega, _, hat, ?_⟩
    conv => whnf
    refine (c_record2 b (by omega)).mono fun r st e => ?_
    obtain ⟨rfl, rfl⟩ := e
    conv => whnf
    refine ⟨by rw [len8, len8, rec_len]; omega, ?_⟩
    conv => whnf
    rw [w64 (x := (i : Int) + 1) (by omega) (by omega)]
    refine kK _ _ ?_
    conv => whnf
    refine ⟨⟨i + 1, by omega, ?_, ?_⟩, ?_⟩
    · intro x hx
      rcases htk x hx with h | h
      · exact hg x h
      · subst h
        exact hb0
    · rw [hsucc]
      rw [← by8_app]
      rfl
    · show l.length - ((i : Int) + 1).toNat < l.length - (i : Int).toNat
      omega
end Go.WL.T5
