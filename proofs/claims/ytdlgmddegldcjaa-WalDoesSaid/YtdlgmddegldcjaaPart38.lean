/- The reference's wal. No condition. -/
import Derived.Test.YtdlgmddegldcjaaPart37
import Derived.Test.YtdlgmddegldcjaaPart16
set_option linter.unusedVariables false
set_option linter.unusedSimpArgs false
namespace Go.WL.T5
open Go.WL Go.Proofs
set_option maxRecDepth 20000
set_option maxHeartbeats 8000000
theorem how_one (e : Nat) (h : e = 0 ∨ e = 2 ∨ e = 3) : ((how e : Nat) : Int) = 1 ↔ e = 0 := by
  rcases h with rfl | rfl | rfl <;> decide
theorem nxt_any (B : List UInt8) : (nxt B).2.2 = 0 ∨ (nxt B).2.2 = 2 ∨ (nxt B).2.2 = 3 := by
  rcases nxt_cases B with ⟨h, _⟩ | ⟨h, _⟩
  · exact .inl h
  · exact .inr h
theorem c_rrecords (B : List UInt8) (hB : B.length < 100000000) : FnOK Try.prog D 84 [(AV.sl .lf (by8 (B)) .ro)] [] (fun r st => r = .tup [.sl .lf ((recsB B).1.map fun b => (AV.sl .lf (by8 (b)) .ro)) .ro, (AV.sl .lf (by8 (B.drop (recsB B).2)) .ro)] ∧ st = []) := by
  refine fnok_of_W hmix tabOK Try.func84 rfl rfl (Nat.le_of_ble_eq_true rfl) ?_
  conv => whnf
  refine ⟨true, [0, 4], fun τ => ∃ (a k : Nat) (out : List (List UInt8)), a ≤ B.length ∧ B.length - a < k ∧ out.length ≤ a ∧ recsB B = (out ++ (recs k (B.drop a)).1, a + (recs k (B.drop a)).2) ∧ τ = ⟨26, [(0, (AV.sl .lf (by8 (B.drop a)) .ro)), (4, .sl .lf (out.map fun b => (AV.sl .lf (by8 (b)) .ro)) (.own 0))], ⟨[], [0], 1⟩⟩, fun τ => match lookV τ.tm 0 with | some (.sl _ xs _) => xs.length | _ => 0, ?_, ?_⟩
  · conv => whnf
    exact ⟨0, B.length + 1, [], by omega, by omega, by simp, by simp [recsB], rfl⟩
  rintro τ ⟨a, k, out, ha, hk, ho, hr, rfl⟩
  have hd : (B.drop a).length = B.length - a := List.length_drop
  have hcn := c_refnextK (B.drop a) (by omega)
  have hfit := nxt_fit (B.drop a)
  have hany := nxt_any (B.drop a)
  have hk1 : ∃ k', k = k' + 1 := ⟨k - 1, by omega⟩
  obtain ⟨k, rfl⟩ := hk1
  have hrec : recs (k + 1) (B.drop a) = if (nxt (B.drop a)).2.2 = 0 then ((nxt (B.drop a)).1 :: (recs k ((B.drop a).drop (nxt (B.drop a)).2.1)).1, (nxt (B.drop a)).2.1 + (recs k ((B.drop a).drop (nxt (B.drop a)).2.1)).2) else ([], 0) := rfl
  rw [hrec] at hr
  generalize nxt (B.drop a) = N at hcn hfit hany hr
  obtain ⟨x, m, e⟩ := N
  simp only at hcn hfit hany hr
  have h1 := how_one e hany
  generalize how e = w at hcn h1
  apply enter3
  intro kk kK
  conv => whnf
  refine (hcn).mono fun r st e => ?_
  obtain ⟨rfl, rfl⟩ := e
  conv => whnf
  by_cases he : e = 0
  · subst he
    obtain ⟨f1, f2, f3⟩ := hfit rfl
    rw [if_pos rfl] at hr
    refine Branch.no (by rw [bne_eq_false_iff_eq]; exact h1.2 rfl) ?_
    conv => whnf
    refine ⟨by rw [List.length_map]; simp; omega, ?_⟩
    conv => whnf
    rw [len8, w64 (x := 8 + (x.length : Int)) (by omega) (by omega), show (8 : Int) + (x.length : Int) = (m : Int) by omega]
    refine ⟨by omega, by rw [len8]; omega, by omega, ?_⟩
    conv => whnf
    rw [Int.toNat_natCast, cut8, List.drop_drop]
    refine kK _ _ ?_
    conv => whnf
    refine ⟨⟨a + m, k, out ++ [x], by omega, by omega, by rw [List.length_append]; simp; omega, ?_, ?_⟩, ?_⟩
    · rw [hr, List.drop_drop]
      simp only [List.append_assoc, List.singleton_append, Nat.add_assoc]
    · rw [List.map_append]
      rfl
    · show (by8 (B.drop (a + m))).length < (by8 (B.drop a)).length
      rw [len8, len8, List.length_drop, List.length_drop]
      omega
  · rw [if_neg he] at hr
    refine Branch.yes (by rw [bne_iff_ne]; exact fun e => he (h1.1 e)) ?_
    conv => whnf
    refine kK _ _ ?_
    conv => whnf
    refine ⟨false, [999], ?_⟩
    conv => whnf
    refine ⟨?_, rfl⟩
    rw [hr]
    simp only [List.append_nil, Nat.add_zero]
theorem c_rspoilt (B : List UInt8) (hB : B.length < 100000000) : FnOK Try.prog D 85 [(AV.sl .lf (by8 (B)) .ro)] [] (fun r st => r = (AV.sc (.bool (spoB B))) ∧ st = []) := by
  have hcn := c_refnextK B hB
  have hany := nxt_any B
  unfold spoB
  generalize hN : nxt B = N at hcn hany ⊢
  obtain ⟨x, m, e⟩ := N
  simp only at hcn hany ⊢
  have lB : (by8 B).length = B.length := len8 B
  refine fnok_of_W hmix tabOK Try.func85 rfl rfl (Nat.le_of_ble_eq_true rfl) ?_
  conv => whnf
  refine (hcn).mono fun r st e => ?_
  obtain ⟨rfl, rfl⟩ := e
  conv => whnf
  by_cases h3 : e = 3
  · subst h3
    conv => whnf
    refine ⟨false, [], ?_⟩
    conv => whnf
    exact ⟨rfl, rfl⟩
  · have hw : ¬ ((how e : Nat) : Int) = 2 := by rcases hany with rfl | rfl | rfl <;> first | decide | exact absurd rfl h3
    refine Branch.no (by rw [beq_eq_false_iff_ne]; exact hw) ?_
    rw [show (e != 3) = true by simpa using h3, Bool.true_and]
    conv => whnf
    refine ⟨false, [0, 5], fun τ => ∃ i : Nat, i ≤ B.length ∧ ((List.range i).any fun i => (nxt (B.drop i)).2.2 == 0) = false ∧ τ = ⟨30, [(0, (AV.sl .lf (by8 (B)) .ro)), (5, (AV.sc (.int .i64 ((i : Int)))))], ⟨[], [], 0⟩⟩, fun τ => B.length - (slotI τ 5).toNat, ?_, ?_⟩
    · conv => whnf
      exact ⟨0, by omega, rfl, rfl⟩
    rintro τ ⟨i, hi, ha, rfl⟩
    apply enter3
    intro kk kK
    conv => whnf
    rw [lB]
    refine Branch.of (fun h1 => ?_) (fun h1 => ?_) <;> rw [h1] <;> conv => whnf
    · have h1 := of_decide_eq_true h1
      have ih : i < B.length := by omega
      refine ⟨by omega, by rw [lB]; omega, by omega, ?_⟩
      conv => whnf
      rw [show (i : Int).toNat = i from Int.toNat_natCast i, cut8]
      have hd : (B.drop i).length = B.length - i := List.length_drop
      have hci := c_refnextK (B.drop i) (by omega)
      have hny := nxt_any (B.drop i)
      have hsuc : ((List.range (i + 1)).any fun i => (nxt (B.drop i)).2.2 == 0) = ((nxt (B.drop i)).2.2 == 0) := by
        rw [List.range_succ, List.any_append, ha]
        simp
      have hsub : ((nxt (B.drop i)).2.2 == 0) = true → ((List.range B.length).any fun i => (nxt (B.drop i)).2.2 == 0) = true := by
        intro h
        rw [List.any_eq_true]
        exact ⟨i, List.mem_range.2 ih, h⟩
      generalize nxt (B.drop i) = N at hci hsuc hsub hny
      obtain ⟨x2, m2, e2⟩ := N
      simp only at hci hsuc hsub hny
      have hw1 := how_one e2 hny
      generalize how e2 = w2 at hci hw1
      refine (hci).mono fun r st e => ?_
      obtain ⟨rfl, rfl⟩ := e
      conv => whnf
      by_cases h0 : e2 = 0
      · subst h0
        refine Branch.yes (by rw [beq_iff_eq]; exact hw1.2 rfl) ?_
        conv => whnf
        refine kK _ _ ?_
        conv => whnf
        rw [hsub rfl]
        refine ⟨false, [], ?_⟩
        conv => whnf
        exact ⟨rfl, rfl⟩
      · refine Branch.no (by rw [beq_eq_false_iff_ne]; exact fun e => h0 (hw1.1 e)) ?_
        conv => whnf
        rw [w64 (x := (i : Int) + 1) (by omega) (by omega)]
        refine kK _ _ ?_
        conv => whnf
        refine ⟨⟨i + 1, by omega, by rw [hsuc]; simpa using h0, rfl⟩, ?_⟩
        show B.length - ((i : Int) + 1).toNat < B.length - (i : Int).toNat
        omega
    · have h1 := of_decide_eq_false h1
      have e : i = B.length := by omega
      refine kK _ _ ?_
      conv => whnf
      rw [← e, ha]
      refine ⟨false, [], ?_⟩
      conv => whnf
      exact ⟨rfl, rfl⟩
def openR (k : Rk) : Rk × Int := if k.dead = true then (k, 6) else if (recsB (k.s ++ k.m)).2 < (k.s ++ k.m).length then (if spoB ((k.s ++ k.m).drop (recsB (k.s ++ k.m)).2) = true then (k, 10) else if (cutR k ((recsB (k.s ++ k.m)).2 : Int)).2 = 0 then syncR (cutR k ((recsB (k.s ++ k.m)).2 : Int)).1 else cutR k ((recsB (k.s ++ k.m)).2 : Int)) else syncR k
theorem open_to (r : Rk) : openP (toP r) = (toP (openR r).1, (openR r).2) := by
  unfold openP openR
  have e0 : (toP r).dead = r.dead := rfl
  have e1 : (toP r).b = r.s ++ r.m := rfl
  rw [e0, e1]
  split
  · rfl
  · split
    · split
      · rfl
      · rw [cut_to]
        simp only
        split
        · rw [sync_to]
        · rfl
    · rw [sync_to]
theorem cut_wf {r : Rk} (h : WFr r) (n : Int) : WFr (cutR r n).1 := by
  have hs := wfq_step h
  obtain ⟨f1, f2, f3, f4⟩ := step_f r
  unfold cutR
  split
  · exact h
  · split
    · exact h
    · split
      · obtain ⟨w1, w2, w3, w4, w5⟩ := hs
        rename_i hn _
        refine ⟨w1, w2, ?_, w4, w5⟩
        show ((((r.s ++ r.m).take n.toNat).length + 0 + (stepR r).1.h.length : Nat) : Int) ≤ (stepR r).1.room
        rw [f1, f2, f3] at w3
        rw [f3, List.length_take, List.length_append]
        omega
      · exact hs
theorem sync_wf {r : Rk} (h : WFr r) : WFr (syncR r).1 := by
  have hs := wfq_step h
  obtain ⟨f1, f2, f3, f4⟩ := step_f r
  unfold syncR
  split
  · exact h
  · split
    · obtain ⟨w1, w2, w3, w4, w5⟩ := hs
      refine ⟨w1, w2, ?_, w4, w5⟩
      show (((r.s ++ r.m).length + 0 + (stepR r).1.h.length : Nat) : Int) ≤ (stepR r).1.room
      rw [f1, f2, f3] at w3
      rw [f3, List.length_append]
      omega
    · exact hs
theorem syncR_e (r : Rk) : (syncR r).2 = 6 ∨ (syncR r).2 = 0 := by
  unfold syncR
  split
  · exact .inl rfl
  · split
    · exact .inr rfl
    · exact .inl rfl
end Go.WL.T5
