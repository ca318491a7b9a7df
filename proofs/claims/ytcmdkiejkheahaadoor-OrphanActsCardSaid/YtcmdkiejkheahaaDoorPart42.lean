/- Blocks whose parents are not there yet: what any acts tell, the walk. No condition. -/
import Derived.Test.YtcmdkiejkheahaaDoorPart41
set_option linter.unusedVariables false
set_option linter.unusedSimpArgs false
namespace Go.WL.T6d
open Go.WL Go.Proofs
set_option maxRecDepth 20000
set_option maxHeartbeats 8000000
def og (l : List Oc) (i : Nat) (W : List Bl) (bx : List (AV × Bool)) : AS := ⟨148, [(0, (AV.sl (.nd [.lf, .nd [.ar 32 .lf, .lf, .lf, .lf, .lf], .lf]) (ocA (l)) .ro)), (3, .pt 0 []), (4, (AV.sl (.nd [.ar 32 .lf, .lf, .lf, .lf, .lf]) (blA (W)) .ro)), (5, (AV.sc (.int .i64 ((i : Int)))))], ⟨bx, [], 0⟩⟩
def HeadO (l : List Oc) (i : Nat) (W : List Bl) (τ : AS) : Prop :=
  (W = [] ∧ τ = og l i W [((.st [.sl (.nd [.ar 32 .lf, .nd [.ar 32 .lf, .lf, .lf, .lf, .lf]]) [] .ex, (AV.sc (.bool (true)))]), false)]) ∨ ∃ cap L, OKE (W.map toE) cap L ∧ τ = og l i W [((.st [.bs 1 [] (.nd [.ar 32 .lf, .nd [.ar 32 .lf, .lf, .lf, .lf, .lf]]) 0 ((W.map toE)).length cap, (AV.sc (.bool (true)))]), false), (.ar cap (.nd [.ar 32 .lf, .nd [.ar 32 .lf, .lf, .lf, .lf, .lf]]) L, false)]
def OrpI (l : List Oc) (τ : AS) : Prop := ∃ (i : Nat) (W : List Bl), i ≤ l.length ∧ FO W ∧ HeadO l i W τ
def OrpJ (l : List Oc) (i : Nat) (τ : AS) : Prop := ∃ W : List Bl, FO W ∧ HeadO l i W τ
theorem c_rall0 : FnOK Tryd.prog D 57 [.sl (.nd [.ar 32 .lf, .lf, .lf, .lf, .lf]) [] .ex, (AV.sl (.nd [.ar 32 .lf, .lf, .lf, .lf, .lf]) (blA (([] : List Bl))) .ro)] [] (fun r st => r = (AV.sc (.bool (true))) ∧ st = []) :=
  (c_rall [] [] (by decide) (fun b hb => by simp at hb)).weak (.cons (.sl (.inl rfl) .nil) (.cons (Weak.refl _) .nil))
theorem c_orphacts (l : List Oc) (hp32 : ∀ a ∈ l, a.b.p.length = 32) : FnOK Tryd.prog D 9 [(AV.sl (.nd [.lf, .nd [.ar 32 .lf, .lf, .lf, .lf, .lf], .lf]) (ocA (l)) .ro)] [] (fun r st => r = (AV.sc (.bool (true))) ∧ st = []) := by
  refine fnok_of_Ws [1005004, 7800013, 7800017, 7800028, 8000000] hmix tabOK Tryd.func9 rfl rfl (Nat.le_of_ble_eq_true rfl) ?_
  conv => whnf
  refine (c_olight l).mono ?_
  rintro r st ⟨rfl | ⟨rfl, hl50, hall⟩, rfl⟩
  · conv => whnf
    refine (c_awake21).mono fun r st e => ?_
    obtain ⟨rfl, rfl⟩ := e
    conv => whnf
    refine ⟨false, [], ?_⟩
    conv => whnf
    exact ⟨rfl, rfl⟩
  conv => whnf
  refine (c_onew).mono fun r st e => ?_
  obtain ⟨rfl, rfl⟩ := e
  conv => whnf
  refine ⟨false, [999999, 0, 3, 4, 5], OrpI l, fun τ => l.length - (slotI τ 5).toNat, ?_, ?_⟩
  · conv => whnf
    refine ⟨0, ?_⟩
    conv => whnf
    exact ⟨0, [], by omega, ⟨by decide, fun b hb => by simp at hb⟩, .inl ⟨rfl, rfl⟩⟩
  rintro τ ⟨i, W, hi, hF, hH⟩
  rcases hH with ⟨rfl, rfl⟩ | ⟨cap, L, hL, rfl⟩
  · apply enter3
    intro kk kK
    conv => whnf
    rw [oc_len]
    refine Branch.of (fun h1 => ?_) (fun h1 => ?_) <;> rw [h1] <;> conv => whnf
    rotate_left
    · have h1 := of_decide_eq_false h1
      refine kK _ _ ?_
      conv => whnf
      refine (c_awake21).mono fun r st e => ?_
      obtain ⟨rfl, rfl⟩ := e
      conv => whnf
      refine ⟨false, [], ?_⟩
      conv => whnf
      exact ⟨rfl, rfl⟩
    have h1 := of_decide_eq_true h1
    have ih : i < l.length := by omega
    have hat := oc_at ih
    have hpa := hp32 l[i] (List.getElem_mem ih)
    have hla := hall l[i] (List.getElem_mem ih)
    generalize l[i] = a at *
    have hokb : OKW a.b := okw_light hla hpa
    have h32 := hF.len
    refine ⟨by omega, _, hat, ?_⟩
    conv => whnf
    obtain ⟨t, ht⟩ : ∃ t : Bool, t = (decide (a.n ≥ 0) && decide (a.n < (([] : List Bl).length : Int))) := ⟨_, rfl⟩
    refine ⟨[0, 3, 4, 5, 6, 7], fun τ => τ = ⟨148, [(0, (AV.sl (.nd [.lf, .nd [.ar 32 .lf, .lf, .lf, .lf, .lf], .lf]) (ocA (l)) .ro)), (3, .pt 0 []), (4, (AV.sl (.nd [.ar 32 .lf, .lf, .lf, .lf, .lf]) (blA (([] : List Bl))) .ro)), (5, (AV.sc (.int .i64 ((i : Int))))), (6, .pt 1 []), (7, (AV.sc (.bool (t))))], ⟨[((.st [.sl (.nd [.ar 32 .lf, .nd [.ar 32 .lf, .lf, .lf, .lf, .lf]]) [] .ex, (AV.sc (.bool (true)))]), false), ((AV.st [.sc (.int .i64 (a).d), (AV.st [.ar 32 .lf (by8 (a).b.p), .sc (.int .i64 (a).b.v), .sc (.int .i64 (a).b.h), .sc (.int .i64 (a).b.by_), .sl (.nd [.lf, .lf, .lf, .lf, .lf, .lf, .lf]) (txsA (a).b.txs) .ro]), .sc (.int .i64 (a).n)]), false)], [], 0⟩⟩, ?_, ?_⟩
    rotate_left
    · conv => whnf
      by_cases g1 : a.n ≥ 0
      · rw [decide_eq_true g1, Bool.true_and] at ht
        rw [decide_eq_true g1]
        conv => whnf
        rw [bl_len, ← ht]
        refine ⟨false, [0, 1], 2, ?_⟩
        conv => whnf
        try exact rfl
      · rw [decide_eq_false g1, Bool.false_and] at ht
        rw [decide_eq_false g1]
        conv => whnf
        rw [← ht]
        refine ⟨false, [0, 1], 2, ?_⟩
        conv => whnf
        try exact rfl
    rintro τ rfl
    have t0 : t = false := by
      rw [ht]
      by_cases g : a.n ≥ 0
      · rw [decide_eq_false (p := a.n < _) (by show ¬ a.n < 0; omega), Bool.and_false]
      · rw [decide_eq_false g, Bool.false_and]
    subst t0
    conv => whnf
    refine ⟨[0, 3, 4, 5], OrpJ l i, ?_, ?_⟩
    · rintro τ ⟨W2, hF2, ⟨rfl, rfl⟩ | ⟨cap2, L2, hL2, rfl⟩⟩
      · conv => whnf
        refine (c_owants0).mono fun r st e => ?_
        obtain ⟨rfl, rfl⟩ := e
        conv => whnf
        refine (c_rwants [] (by decide) (fun b hb => by simp at hb)).mono fun r st e => ?_
        obtain ⟨rfl, rfl⟩ := e
        conv => whnf
        refine (c_oall0).mono fun r st e => ?_
        obtain ⟨rfl, rfl⟩ := e
        conv => whnf
        refine (c_rall0).mono fun r st e => ?_
        obtain ⟨rfl, rfl⟩ := e
        conv => whnf
        refine ⟨false, [0, 3, 4, 5, 15, 16, 17], fun τ => ∃ k : Nat, k ≤ ([] : List (List UInt8)).length ∧ τ = ⟨148, [(0, (AV.sl (.nd [.lf, .nd [.ar 32 .lf, .lf, .lf, .lf, .lf], .lf]) (ocA (l)) .ro)), (3, .pt 0 []), (4, (AV.sl (.nd [.ar 32 .lf, .lf, .lf, .lf, .lf]) (blA (([] : List Bl))) .ro)), (5, (AV.sc (.int .i64 ((i : Int))))), (15, .sl (.ar 32 .lf) (hsA ([] : List (List UInt8))) .ex), (16, .sl (.ar 32 .lf) (hsA ([] : List (List UInt8))) .ro), (17, (AV.sc (.int .i64 ((k : Int)))))], ⟨[((.st [.sl (.nd [.ar 32 .lf, .nd [.ar 32 .lf, .lf, .lf, .lf, .lf]]) [] .ex, (AV.sc (.bool (true)))]), false)], [], 0⟩⟩, fun τ => ([] : List (List UInt8)).length - (slotI τ 17).toNat, ?_, ?_⟩
        · conv => whnf
          exact ⟨0, by omega, rfl⟩
        rintro τ ⟨k, hk, rfl⟩
        apply enter3
        intro k2 kK2
        conv => whnf
        rw [hs_len]
        refine kK2 _ _ ?_
        conv => whnf
        rw [w64 (x := (i : Int) + 1) (by omega) (by omega)]
        refine kK _ _ ?_
        conv => whnf
        refine ⟨0, ?_⟩
        conv => whnf
        refine ⟨⟨i + 1, ([] : List Bl), by omega, hF2, .inl ⟨rfl, rfl⟩⟩, ?_⟩
        show l.length - ((i : Int) + 1).toNat < l.length - (i : Int).toNat
        omega
      · have h32 := hF2.len
        have cw := c_owants1 (W2.map toE) cap2 L2 hL2 (by rw [List.length_map]; omega)
        rw [wnt_map] at cw
        have ca := c_oall1 (W2.map toE) cap2 L2 hL2 (by rw [List.length_map]; omega) (fun e he => by
          obtain ⟨b, hb, rfl⟩ := List.mem_map.1 he
          exact (hF2.ok b hb).1)
        rw [map_toE] at ca
        have cr := c_rwants W2 (by omega) hF2.ok
        have cl := c_rall W2 W2 (by omega) hF2.ok
        rw [decide_eq_true rfl] at cl
        have hwl := wnt_le (hasB W2) W2 W2.length
        rw [List.take_length] at hwl
        generalize wnt (hasB W2) W2 = H at *
        conv => whnf
        refine (cw).mono fun r st e => ?_
        obtain ⟨rfl, rfl⟩ := e
        conv => whnf
        refine (cr).mono fun r st e => ?_
        obtain ⟨rfl, rfl⟩ := e
        conv => whnf
        rw [hs_len]
        rw [show ((H.length : Int) != (H.length : Int)) = false by simp]
        conv => whnf
        refine (ca).mono fun r st e => ?_
        obtain ⟨rfl, rfl⟩ := e
        conv => whnf
        refine (cl).mono fun r st e => ?_
        obtain ⟨rfl, rfl⟩ := e
        conv => whnf
        refine ⟨false, [0, 3, 4, 5, 15, 16, 17], fun τ => ∃ k : Nat, k ≤ H.length ∧ τ = ⟨148, [(0, (AV.sl (.nd [.lf, .nd [.ar 32 .lf, .lf, .lf, .lf, .lf], .lf]) (ocA (l)) .ro)), (3, .pt 0 []), (4, (AV.sl (.nd [.ar 32 .lf, .lf, .lf, .lf, .lf]) (blA (W2)) .ro)), (5, (AV.sc (.int .i64 ((i : Int))))), (15, .sl (.ar 32 .lf) (hsA H) .ro), (16, .sl (.ar 32 .lf) (hsA H) .ro), (17, (AV.sc (.int .i64 ((k : Int)))))], ⟨[((.st [.bs 1 [] (.nd [.ar 32 .lf, .nd [.ar 32 .lf, .lf, .lf, .lf, .lf]]) 0 ((W2.map toE)).length cap2, (AV.sc (.bool (true)))]), false), (.ar cap2 (.nd [.ar 32 .lf, .nd [.ar 32 .lf, .lf, .lf, .lf, .lf]]) L2, false)], [], 0⟩⟩, fun τ => H.length - (slotI τ 17).toNat, ?_, ?_⟩
        · conv => whnf
          exact ⟨0, by omega, rfl⟩
        rintro τ ⟨k, hk, rfl⟩
        apply enter3
        intro k2 kK2
        conv => whnf
        rw [hs_len]
        refine Branch.of (fun h2 => ?_) (fun h2 => ?_) <;> rw [h2] <;> conv => whnf
        rotate_left
        · refine kK2 _ _ ?_
          conv => whnf
          rw [w64 (x := (i : Int) + 1) (by omega) (by omega)]
          refine kK _ _ ?_
          conv => whnf
          refine ⟨1, ?_⟩
          conv => whnf
          refine ⟨⟨i + 1, W2, by omega, hF2, .inr ⟨cap2, L2, hL2, rfl⟩⟩, ?_⟩
          show l.length - ((i : Int) + 1).toNat < l.length - (i : Int).toNat
          omega
        have h2 := of_decide_eq_true h2
        have kh : k < H.length := by omega
        have hot := hs_at kh
        conv => whnf
        refine ⟨tabF9R34, by decide +kernel, ?_⟩
        conv => whnf
        refine ⟨by omega, _, hot, ?_⟩
        conv => whnf
        refine ⟨by omega, _, hot, ?_⟩
        conv => whnf
        refine ⟨H[k], H[k], rfl, rfl, ?_⟩
        conv => whnf
        rw [show (!H[k] == H[k]) = false by rw [beq_self_eq_true]; rfl]
        conv => whnf
        rw [w64 (x := (k : Int) + 1) (by omega) (by omega)]
        refine kK2 _ _ ?_
        conv => whnf
        refine ⟨⟨k + 1, by omega, rfl⟩, ?_⟩
        show H.length - ((k : Int) + 1).toNat < H.length - (k : Int).toNat
        omega
    conv => whnf
    by_cases d1 : a.d = 1
    · rw [show (a.d == 1) = true from decide_eq_true d1]
      conv => whnf
      conv => whnf
      by_cases d2 : a.d = 2
      · rw [show (a.d == 2) = true from decide_eq_true d2]
        conv => whnf
        refine (c_rdrop ([] : List Bl) a.n (by omega)).mono fun r st e => ?_
        obtain ⟨rfl, rfl⟩ := e
        conv => whnf
        refine (c_odrop0 a.n).mono fun r st e => ?_
        obtain ⟨rfl, rfl⟩ := e
        conv => whnf
        refine ⟨false, [0, 1], 1, ?_⟩
        conv => whnf
        exact ⟨[], hF, .inl ⟨rfl, rfl⟩⟩
      rw [show (a.d == 2) = false from decide_eq_false d2]
      conv => whnf
      refine ⟨[0, 3, 4, 5, 12], fun τ => ∃ x : Bl, OKW x ∧ τ = ⟨148, [(0, (AV.sl (.nd [.lf, .nd [.ar 32 .lf, .lf, .lf, .lf, .lf], .lf]) (ocA (l)) .ro)), (3, .pt 0 []), (4, (AV.sl (.nd [.ar 32 .lf, .lf, .lf, .lf, .lf]) (blA (([] : List Bl))) .ro)), (5, (AV.sc (.int .i64 ((i : Int))))), (12, .pt 2 [])], ⟨[((.st [.sl (.nd [.ar 32 .lf, .nd [.ar 32 .lf, .lf, .lf, .lf, .lf]]) [] .ex, (AV.sc (.bool (true)))]), false), ((AV.st [.sc (.int .i64 (a).d), (AV.st [.ar 32 .lf (by8 (a).b.p), .sc (.int .i64 (a).b.v), .sc (.int .i64 (a).b.h), .sc (.int .i64 (a).b.by_), .sl (.nd [.lf, .lf, .lf, .lf, .lf, .lf, .lf]) (txsA (a).b.txs) .ro]), .sc (.int .i64 (a).n)]), false), ((AV.st [.ar 32 .lf (by8 (x).p), .sc (.int .i64 (x).v), .sc (.int .i64 (x).h), .sc (.int .i64 (x).by_), .sl (.nd [.lf, .lf, .lf, .lf, .lf, .lf, .lf]) (txsA (x).txs) .ro]), false)], [], 0⟩⟩, ?_, ?_⟩
      rotate_left
      · conv => whnf
        by_cases d3 : a.d = 3
        · rw [show (a.d == 3) = true from decide_eq_true d3]
          conv => whnf
          refine ⟨false, [0, 1, 2], 3, ?_⟩
          conv => whnf
          exact ⟨a.b, hokb, rfl⟩
        · rw [show (a.d == 3) = false from decide_eq_false d3]
          conv => whnf
          refine ⟨false, [0, 1, 2], 3, ?_⟩
          conv => whnf
          exact ⟨a.b, hokb, rfl⟩
      rintro τ ⟨x, hx, rfl⟩
      obtain ⟨E, hE⟩ : ∃ E, E = opEB ([] : List Bl) x := ⟨_, rfl⟩
      obtain ⟨W2, hW2⟩ : ∃ W2, W2 = opLB ([] : List Bl) x := ⟨_, rfl⟩
      have hF2 : FO W2 := by rw [hW2]; exact hF.put hx
      have cr := c_rput ([] : List Bl) x (by omega) hF.ok hx E hE.symm W2 hW2.symm
      have e1 := opE_map ([] : List Bl) x
      have e2 := opL_map ([] : List Bl) x
      rw [← hE] at e1
      rw [← hW2] at e2
      conv => whnf
      refine (cr).mono fun r st e => ?_
      obtain ⟨rfl, rfl⟩ := e
      conv => whnf
      refine (c_oput0 x hx.1 hx.2.1 hx.2.2 E e1 _ e2).mono ?_
      rintro q st ⟨rfl, ⟨h0, rfl⟩ | ⟨cap, L, hL, rfl⟩⟩
      · conv => whnf
        refine Branch.no (by simp) ?_
        conv => whnf
        refine ⟨false, [0, 1, 2], 1, ?_⟩
        conv => whnf
        exact ⟨W2, hF2, .inl ⟨List.map_eq_nil_iff.1 h0, rfl⟩⟩
      · conv => whnf
        refine Branch.no (by simp) ?_
        conv => whnf
        refine ⟨false, [0, 3, 1, 2], 2, ?_⟩
        conv => whnf
        exact ⟨W2, hF2, .inr ⟨cap, L, hL, rfl⟩⟩
    · rw [show (a.d == 1) = false from decide_eq_false d1]
      conv => whnf
      by_cases d2 : a.d = 2
      · rw [show (a.d == 2) = true from decide_eq_true d2]
        conv => whnf
        refine (c_rdrop ([] : List Bl) a.n (by omega)).mono fun r st e => ?_
        obtain ⟨rfl, rfl⟩ := e
        conv => whnf
        refine (c_odrop0 a.n).mono fun r st e => ?_
        obtain ⟨rfl, rfl⟩ := e
        conv => whnf
        refine ⟨false, [0, 1], 1, ?_⟩
        conv => whnf
        exact ⟨[], hF, .inl ⟨rfl, rfl⟩⟩
      rw [show (a.d == 2) = false from decide_eq_false d2]
      conv => whnf
      refine ⟨[0, 3, 4, 5, 12], fun τ => ∃ x : Bl, OKW x ∧ τ = ⟨148, [(0, (AV.sl (.nd [.lf, .nd [.ar 32 .lf, .lf, .lf, .lf, .lf], .lf]) (ocA (l)) .ro)), (3, .pt 0 []), (4, (AV.sl (.nd [.ar 32 .lf, .lf, .lf, .lf, .lf]) (blA (([] : List Bl))) .ro)), (5, (AV.sc (.int .i64 ((i : Int))))), (12, .pt 2 [])], ⟨[((.st [.sl (.nd [.ar 32 .lf, .nd [.ar 32 .lf, .lf, .lf, .lf, .lf]]) [] .ex, (AV.sc (.bool (true)))]), false), ((AV.st [.sc (.int .i64 (a).d), (AV.st [.ar 32 .lf (by8 (a).b.p), .sc (.int .i64 (a).b.v), .sc (.int .i64 (a).b.h), .sc (.int .i64 (a).b.by_), .sl (.nd [.lf, .lf, .lf, .lf, .lf, .lf, .lf]) (txsA (a).b.txs) .ro]), .sc (.int .i64 (a).n)]), false), ((AV.st [.ar 32 .lf (by8 (x).p), .sc (.int .i64 (x).v), .sc (.int .i64 (x).h), .sc (.int .i64 (x).by_), .sl (.nd [.lf, .lf, .lf, .lf, .lf, .lf, .lf]) (txsA (x).txs) .ro]), false)], [], 0⟩⟩, ?_, ?_⟩
      rotate_left
      · conv => whnf
        by_cases d3 : a.d = 3
        · rw [show (a.d == 3) = true from decide_eq_true d3]
          conv => whnf
          refine ⟨false, [0, 1, 2], 3, ?_⟩
          conv => whnf
          exact ⟨a.b, hokb, rfl⟩
        · rw [show (a.d == 3) = false from decide_eq_false d3]
          conv => whnf
          refine ⟨false, [0, 1, 2], 3, ?_⟩
          conv => whnf
          exact ⟨a.b, hokb, rfl⟩
      rintro τ ⟨x, hx, rfl⟩
      obtain ⟨E, hE⟩ : ∃ E, E = opEB ([] : List Bl) x := ⟨_, rfl⟩
      obtain ⟨W2, hW2⟩ : ∃ W2, W2 = opLB ([] : List Bl) x := ⟨_, rfl⟩
      have hF2 : FO W2 := by rw [hW2]; exact hF.put hx
      have cr := c_rput ([] : List Bl) x (by omega) hF.ok hx E hE.symm W2 hW2.symm
      have e1 := opE_map ([] : List Bl) x
      have e2 := opL_map ([] : List Bl) x
      rw [← hE] at e1
      rw [← hW2] at e2
      conv => whnf
      refine (cr).mono fun r st e => ?_
      obtain ⟨rfl, rfl⟩ := e
      conv => whnf
      refine (c_oput0 x hx.1 hx.2.1 hx.2.2 E e1 _ e2).mono ?_
      rintro q st ⟨rfl, ⟨h0, rfl⟩ | ⟨cap, L, hL, rfl⟩⟩
      · conv => whnf
        refine Branch.no (by simp) ?_
        conv => whnf
        refine ⟨false, [0, 1, 2], 1, ?_⟩
        conv => whnf
        exact ⟨W2, hF2, .inl ⟨List.map_eq_nil_iff.1 h0, rfl⟩⟩
      · conv => whnf
        refine Branch.no (by simp) ?_
        conv => whnf
        refine ⟨false, [0, 3, 1, 2], 2, ?_⟩
        conv => whnf
        exact ⟨W2, hF2, .inr ⟨cap, L, hL, rfl⟩⟩
  · apply enter3
    intro kk kK
    conv => whnf
    rw [oc_len]
    refine Branch.of (fun h1 => ?_) (fun h1 => ?_) <;> rw [h1] <;> conv => whnf
    rotate_left
    · have h1 := of_decide_eq_false h1
      refine kK _ _ ?_
      conv => whnf
      refine (c_awake21).mono fun r st e => ?_
      obtain ⟨rfl, rfl⟩ := e
      conv => whnf
      refine ⟨false, [], ?_⟩
      conv => whnf
      exact ⟨rfl, rfl⟩
    have h1 := of_decide_eq_true h1
    have ih : i < l.length := by omega
    have hat := oc_at ih
    have hpa := hp32 l[i] (List.getElem_mem ih)
    have hla := hall l[i] (List.getElem_mem ih)
    generalize l[i] = a at *
    have hokb : OKW a.b := okw_light hla hpa
    have h32 := hF.len
    refine ⟨by omega, _, hat, ?_⟩
    conv => whnf
    obtain ⟨t, ht⟩ : ∃ t : Bool, t = (decide (a.n ≥ 0) && decide (a.n < (W.length : Int))) := ⟨_, rfl⟩
    refine ⟨[0, 3, 4, 5, 6, 7], fun τ => τ = ⟨148, [(0, (AV.sl (.nd [.lf, .nd [.ar 32 .lf, .lf, .lf, .lf, .lf], .lf]) (ocA (l)) .ro)), (3, .pt 0 []), (4, (AV.sl (.nd [.ar 32 .lf, .lf, .lf, .lf, .lf]) (blA (W)) .ro)), (5, (AV.sc (.int .i64 ((i : Int))))), (6, .pt 2 []), (7, (AV.sc (.bool (t))))], ⟨[((.st [.bs 1 [] (.nd [.ar 32 .lf, .nd [.ar 32 .lf, .lf, .lf, .lf, .lf]]) 0 ((W.map toE)).length cap, (AV.sc (.bool (true)))]), false), (.ar cap (.nd [.ar 32 .lf, .nd [.ar 32 .lf, .lf, .lf, .lf, .lf]]) L, false), ((AV.st [.sc (.int .i64 (a).d), (AV.st [.ar 32 .lf (by8 (a).b.p), .sc (.int .i64 (a).b.v), .sc (.int .i64 (a).b.h), .sc (.int .i64 (a).b.by_), .sl (.nd [.lf, .lf, .lf, .lf, .lf, .lf, .lf]) (txsA (a).b.txs) .ro]), .sc (.int .i64 (a).n)]), false)], [], 0⟩⟩, ?_, ?_⟩
    rotate_left
    · conv => whnf
      by_cases g1 : a.n ≥ 0
      · rw [decide_eq_true g1, Bool.true_and] at ht
        rw [decide_eq_true g1]
        conv => whnf
        rw [bl_len, ← ht]
        refine ⟨false, [0, 1, 2], 3, ?_⟩
        conv => whnf
        try exact rfl
      · rw [decide_eq_false g1, Bool.false_and] at ht
        rw [decide_eq_false g1]
        conv => whnf
        rw [← ht]
        refine ⟨false, [0, 1, 2], 3, ?_⟩
        conv => whnf
        try exact rfl
    rintro τ rfl
    conv => whnf
    refine ⟨[0, 3, 4, 5], OrpJ l i, ?_, ?_⟩
    · rintro τ ⟨W2, hF2, ⟨rfl, rfl⟩ | ⟨cap2, L2, hL2, rfl⟩⟩
      · conv => whnf
        refine (c_owants0).mono fun r st e => ?_
        obtain ⟨rfl, rfl⟩ := e
        conv => whnf
        refine (c_rwants [] (by decide) (fun b hb => by simp at hb)).mono fun r st e => ?_
        obtain ⟨rfl, rfl⟩ := e
        conv => whnf
        refine (c_oall0).mono fun r st e => ?_
        obtain ⟨rfl, rfl⟩ := e
        conv => whnf
        refine (c_rall0).mono fun r st e => ?_
        obtain ⟨rfl, rfl⟩ := e
        conv => whnf
        refine ⟨false, [0, 3, 4, 5, 15, 16, 17], fun τ => ∃ k : Nat, k ≤ ([] : List (List UInt8)).length ∧ τ = ⟨148, [(0, (AV.sl (.nd [.lf, .nd [.ar 32 .lf, .lf, .lf, .lf, .lf], .lf]) (ocA (l)) .ro)), (3, .pt 0 []), (4, (AV.sl (.nd [.ar 32 .lf, .lf, .lf, .lf, .lf]) (blA (([] : List Bl))) .ro)), (5, (AV.sc (.int .i64 ((i : Int))))), (15, .sl (.ar 32 .lf) (hsA ([] : List (List UInt8))) .ex), (16, .sl (.ar 32 .lf) (hsA ([] : List (List UInt8))) .ro), (17, (AV.sc (.int .i64 ((k : Int)))))], ⟨[((.st [.sl (.nd [.ar 32 .lf, .nd [.ar 32 .lf, .lf, .lf, .lf, .lf]]) [] .ex, (AV.sc (.bool (true)))]), false)], [], 0⟩⟩, fun τ => ([] : List (List UInt8)).length - (slotI τ 17).toNat, ?_, ?_⟩
        · conv => whnf
          exact ⟨0, by omega, rfl⟩
        rintro τ ⟨k, hk, rfl⟩
        apply enter3
        intro k2 kK2
        conv => whnf
        rw [hs_len]
        refine kK2 _ _ ?_
        conv => whnf
        rw [w64 (x := (i : Int) + 1) (by omega) (by omega)]
        refine kK _ _ ?_
        conv => whnf
        refine ⟨0, ?_⟩
        conv => whnf
        refine ⟨⟨i + 1, ([] : List Bl), by omega, hF2, .inl ⟨rfl, rfl⟩⟩, ?_⟩
        show l.length - ((i : Int) + 1).toNat < l.length - (i : Int).toNat
        omega
      · have h32 := hF2.len
        have cw := c_owants1 (W2.map toE) cap2 L2 hL2 (by rw [List.length_map]; omega)
        rw [wnt_map] at cw
        have ca := c_oall1 (W2.map toE) cap2 L2 hL2 (by rw [List.length_map]; omega) (fun e he => by
          obtain ⟨b, hb, rfl⟩ := List.mem_map.1 he
          exact (hF2.ok b hb).1)
        rw [map_toE] at ca
        have cr := c_rwants W2 (by omega) hF2.ok
        have cl := c_rall W2 W2 (by omega) hF2.ok
        rw [decide_eq_true rfl] at cl
        have hwl := wnt_le (hasB W2) W2 W2.length
        rw [List.take_length] at hwl
        generalize wnt (hasB W2) W2 = H at *
        conv => whnf
        refine (cw).mono fun r st e => ?_
        obtain ⟨rfl, rfl⟩ := e
        conv => whnf
        refine (cr).mono fun r st e => ?_
        obtain ⟨rfl, rfl⟩ := e
        conv => whnf
        rw [hs_len]
        rw [show ((H.length : Int) != (H.length : Int)) = false by simp]
        conv => whnf
        refine (ca).mono fun r st e => ?_
        obtain ⟨rfl, rfl⟩ := e
        conv => whnf
        refine (cl).mono fun r st e => ?_
        obtain ⟨rfl, rfl⟩ := e
        conv => whnf
        refine ⟨false, [0, 3, 4, 5, 15, 16, 17], fun τ => ∃ k : Nat, k ≤ H.length ∧ τ = ⟨148, [(0, (AV.sl (.nd [.lf, .nd [.ar 32 .lf, .lf, .lf, .lf, .lf], .lf]) (ocA (l)) .ro)), (3, .pt 0 []), (4, (AV.sl (.nd [.ar 32 .lf, .lf, .lf, .lf, .lf]) (blA (W2)) .ro)), (5, (AV.sc (.int .i64 ((i : Int))))), (15, .sl (.ar 32 .lf) (hsA H) .ro), (16, .sl (.ar 32 .lf) (hsA H) .ro), (17, (AV.sc (.int .i64 ((k : Int)))))], ⟨[((.st [.bs 1 [] (.nd [.ar 32 .lf, .nd [.ar 32 .lf, .lf, .lf, .lf, .lf]]) 0 ((W2.map toE)).length cap2, (AV.sc (.bool (true)))]), false), (.ar cap2 (.nd [.ar 32 .lf, .nd [.ar 32 .lf, .lf, .lf, .lf, .lf]]) L2, false)], [], 0⟩⟩, fun τ => H.length - (slotI τ 17).toNat, ?_, ?_⟩
        · conv => whnf
          exact ⟨0, by omega, rfl⟩
        rintro τ ⟨k, hk, rfl⟩
        apply enter3
        intro k2 kK2
        conv => whnf
        rw [hs_len]
        refine Branch.of (fun h2 => ?_) (fun h2 => ?_) <;> rw [h2] <;> conv => whnf
        rotate_left
        · refine kK2 _ _ ?_
          conv => whnf
          rw [w64 (x := (i : Int) + 1) (by omega) (by omega)]
          refine kK _ _ ?_
          conv => whnf
          refine ⟨1, ?_⟩
          conv => whnf
          refine ⟨⟨i + 1, W2, by omega, hF2, .inr ⟨cap2, L2, hL2, rfl⟩⟩, ?_⟩
          show l.length - ((i : Int) + 1).toNat < l.length - (i : Int).toNat
          omega
        have h2 := of_decide_eq_true h2
        have kh : k < H.length := by omega
        have hot := hs_at kh
        conv => whnf
        refine ⟨tabF9R34, by decide +kernel, ?_⟩
        conv => whnf
        refine ⟨by omega, _, hot, ?_⟩
        conv => whnf
        refine ⟨by omega, _, hot, ?_⟩
        conv => whnf
        refine ⟨H[k], H[k], rfl, rfl, ?_⟩
        conv => whnf
        rw [show (!H[k] == H[k]) = false by rw [beq_self_eq_true]; rfl]
        conv => whnf
        rw [w64 (x := (k : Int) + 1) (by omega) (by omega)]
        refine kK2 _ _ ?_
        conv => whnf
        refine ⟨⟨k + 1, by omega, rfl⟩, ?_⟩
        show H.length - ((k : Int) + 1).toNat < H.length - (k : Int).toNat
        omega
    conv => whnf
    by_cases d1 : a.d = 1
    · rw [show (a.d == 1) = true from decide_eq_true d1]
      conv => whnf
      cases t with
      | false =>
        conv => whnf
        by_cases d2 : a.d = 2
        · rw [show (a.d == 2) = true from decide_eq_true d2]
          conv => whnf
          refine (c_rdrop W a.n (by omega)).mono fun r st e => ?_
          obtain ⟨rfl, rfl⟩ := e
          conv => whnf
          have cd := c_odrop1 a.n (W.map toE) cap L hL (by rw [List.length_map]; omega)
          rw [filD, filD'] at cd
          refine cd.mono ?_
          rintro q st ⟨rfl, L2, hL2, rfl⟩
          conv => whnf
          have hsum := fil_sum (fun b => decide (b.v ≤ a.n)) W
          rw [bl_len, bl_len, w64 (by omega) (by omega)]
          refine Branch.no (by rw [bne_eq_false_iff_eq]; omega) ?_
          conv => whnf
          refine ⟨false, [0, 1, 2], 2, ?_⟩
          conv => whnf
          exact ⟨_, hF.fil _, .inr ⟨cap, L2, hL2, rfl⟩⟩
        rw [show (a.d == 2) = false from decide_eq_false d2]
        conv => whnf
        refine ⟨[0, 3, 4, 5, 12], fun τ => ∃ x : Bl, OKW x ∧ τ = ⟨148, [(0, (AV.sl (.nd [.lf, .nd [.ar 32 .lf, .lf, .lf, .lf, .lf], .lf]) (ocA (l)) .ro)), (3, .pt 0 []), (4, (AV.sl (.nd [.ar 32 .lf, .lf, .lf, .lf, .lf]) (blA (W)) .ro)), (5, (AV.sc (.int .i64 ((i : Int))))), (12, .pt 3 [])], ⟨[((.st [.bs 1 [] (.nd [.ar 32 .lf, .nd [.ar 32 .lf, .lf, .lf, .lf, .lf]]) 0 ((W.map toE)).length cap, (AV.sc (.bool (true)))]), false), (.ar cap (.nd [.ar 32 .lf, .nd [.ar 32 .lf, .lf, .lf, .lf, .lf]]) L, false), ((AV.st [.sc (.int .i64 (a).d), (AV.st [.ar 32 .lf (by8 (a).b.p), .sc (.int .i64 (a).b.v), .sc (.int .i64 (a).b.h), .sc (.int .i64 (a).b.by_), .sl (.nd [.lf, .lf, .lf, .lf, .lf, .lf, .lf]) (txsA (a).b.txs) .ro]), .sc (.int .i64 (a).n)]), false), ((AV.st [.ar 32 .lf (by8 (x).p), .sc (.int .i64 (x).v), .sc (.int .i64 (x).h), .sc (.int .i64 (x).by_), .sl (.nd [.lf, .lf, .lf, .lf, .lf, .lf, .lf]) (txsA (x).txs) .ro]), false)], [], 0⟩⟩, ?_, ?_⟩
        rotate_left
        · conv => whnf
          by_cases d3 : a.d = 3
          · rw [show (a.d == 3) = true from decide_eq_true d3]
            conv => whnf
            refine ⟨false, [0, 1, 2, 3], 4, ?_⟩
            conv => whnf
            exact ⟨a.b, hokb, rfl⟩
          · rw [show (a.d == 3) = false from decide_eq_false d3]
            conv => whnf
            refine ⟨false, [0, 1, 2, 3], 4, ?_⟩
            conv => whnf
            exact ⟨a.b, hokb, rfl⟩
        rintro τ ⟨x, hx, rfl⟩
        obtain ⟨E, hE⟩ : ∃ E, E = opEB W x := ⟨_, rfl⟩
        obtain ⟨W2, hW2⟩ : ∃ W2, W2 = opLB W x := ⟨_, rfl⟩
        have hF2 : FO W2 := by rw [hW2]; exact hF.put hx
        have cr := c_rput W x (by omega) hF.ok hx E hE.symm W2 hW2.symm
        have e1 := opE_map W x
        have e2 := opL_map W x
        rw [← hE] at e1
        rw [← hW2] at e2
        conv => whnf
        refine (cr).mono fun r st e => ?_
        obtain ⟨rfl, rfl⟩ := e
        conv => whnf
        refine (c_oput1 x (W.map toE) cap L hL (by rw [List.length_map]; omega) hx.1 hx.2.1 hx.2.2 E e1 _ e2).mono ?_
        rintro q st ⟨rfl, cap2, L2, hL2, rfl | ⟨cj, Lj, rfl⟩⟩
        · conv => whnf
          refine Branch.no (by simp) ?_
          conv => whnf
          refine ⟨false, [0, 1, 2, 3], 2, ?_⟩
          conv => whnf
          exact ⟨W2, hF2, .inr ⟨cap2, L2, hL2, rfl⟩⟩
        · conv => whnf
          refine Branch.no (by simp) ?_
          conv => whnf
          refine ⟨false, [0, 4, 1, 2, 3], 2, ?_⟩
          conv => whnf
          exact ⟨W2, hF2, .inr ⟨cap2, L2, hL2, rfl⟩⟩
      | true =>
        conv => whnf
        rw [eq_comm, Bool.and_eq_true, decide_eq_true_eq, decide_eq_true_eq] at ht
        obtain ⟨k, hk⟩ : ∃ k : Nat, a.n = k := ⟨a.n.toNat, by omega⟩
        have hkW : k < W.length := by omega
        have hw := bl_at hkW
        rw [← hk] at hw
        refine ⟨by omega, _, hw, ?_⟩
        conv => whnf
        generalize W[k].p = u
        refine (c_rtake W u (by omega)).mono fun r st e => ?_
        obtain ⟨rfl, rfl⟩ := e
        conv => whnf
        have ct := c_otake1 u (W.map toE) cap L hL (by rw [List.length_map]; omega)
        have hfe := filT W u
        rw [filT, filT'] at ct
        refine ct.mono ?_
        rintro q st ⟨⟨h0, rfl⟩ | rfl, L2, hL2, rfl⟩
        · rw [h0] at hfe
          have hfe : W.filter (fun b => b.p == u) = [] := hfe.symm
          rw [hfe]
          conv => whnf
          refine (c_rall0).mono fun r st e => ?_
          obtain ⟨rfl, rfl⟩ := e
          conv => whnf
          refine ⟨false, [0, 1, 2, 3], 2, ?_⟩
          conv => whnf
          exact ⟨_, hF.fil _, .inr ⟨cap, L2, hL2, rfl⟩⟩
        · have cl := c_rall (W.filter fun b => b.p == u) (W.filter fun b => b.p == u) (by have := List.length_filter_le (fun b : Bl => b.p == u) W; omega) (hF.fil _).ok
          rw [decide_eq_true rfl] at cl
          conv => whnf
          refine (cl).mono fun r st e => ?_
          obtain ⟨rfl, rfl⟩ := e
          conv => whnf
          refine ⟨false, [0, 1, 2, 3], 2, ?_⟩
          conv => whnf
          exact ⟨_, hF.fil _, .inr ⟨cap, L2, hL2, rfl⟩⟩
    · rw [show (a.d == 1) = false from decide_eq_false d1]
      conv => whnf
      by_cases d2 : a.d = 2
      · rw [show (a.d == 2) = true from decide_eq_true d2]
        conv => whnf
        refine (c_rdrop W a.n (by omega)).mono fun r st e => ?_
        obtain ⟨rfl, rfl⟩ := e
        conv => whnf
        have cd := c_odrop1 a.n (W.map toE) cap L hL (by rw [List.length_map]; omega)
        rw [filD, filD'] at cd
        refine cd.mono ?_
        rintro q st ⟨rfl, L2, hL2, rfl⟩
        conv => whnf
        have hsum := fil_sum (fun b => decide (b.v ≤ a.n)) W
        rw [bl_len, bl_len, w64 (by omega) (by omega)]
        refine Branch.no (by rw [bne_eq_false_iff_eq]; omega) ?_
        conv => whnf
        refine ⟨false, [0, 1, 2], 2, ?_⟩
        conv => whnf
        exact ⟨_, hF.fil _, .inr ⟨cap, L2, hL2, rfl⟩⟩
      rw [show (a.d == 2) = false from decide_eq_false d2]
      conv => whnf
      refine ⟨[0, 3, 4, 5, 12], fun τ => ∃ x : Bl, OKW x ∧ τ = ⟨148, [(0, (AV.sl (.nd [.lf, .nd [.ar 32 .lf, .lf, .lf, .lf, .lf], .lf]) (ocA (l)) .ro)), (3, .pt 0 []), (4, (AV.sl (.nd [.ar 32 .lf, .lf, .lf, .lf, .lf]) (blA (W)) .ro)), (5, (AV.sc (.int .i64 ((i : Int))))), (12, .pt 3 [])], ⟨[((.st [.bs 1 [] (.nd [.ar 32 .lf, .nd [.ar 32 .lf, .lf, .lf, .lf, .lf]]) 0 ((W.map toE)).length cap, (AV.sc (.bool (true)))]), false), (.ar cap (.nd [.ar 32 .lf, .nd [.ar 32 .lf, .lf, .lf, .lf, .lf]]) L, false), ((AV.st [.sc (.int .i64 (a).d), (AV.st [.ar 32 .lf (by8 (a).b.p), .sc (.int .i64 (a).b.v), .sc (.int .i64 (a).b.h), .sc (.int .i64 (a).b.by_), .sl (.nd [.lf, .lf, .lf, .lf, .lf, .lf, .lf]) (txsA (a).b.txs) .ro]), .sc (.int .i64 (a).n)]), false), ((AV.st [.ar 32 .lf (by8 (x).p), .sc (.int .i64 (x).v), .sc (.int .i64 (x).h), .sc (.int .i64 (x).by_), .sl (.nd [.lf, .lf, .lf, .lf, .lf, .lf, .lf]) (txsA (x).txs) .ro]), false)], [], 0⟩⟩, ?_, ?_⟩
      rotate_left
      · conv => whnf
        by_cases d3 : a.d = 3
        · rw [show (a.d == 3) = true from decide_eq_true d3]
          conv => whnf
          cases t with
          | false =>
            conv => whnf
            refine ⟨false, [0, 1, 2, 3], 4, ?_⟩
            conv => whnf
            exact ⟨a.b, hokb, rfl⟩
          | true =>
            conv => whnf
            rw [eq_comm, Bool.and_eq_true, decide_eq_true_eq, decide_eq_true_eq] at ht
            obtain ⟨k, hk⟩ : ∃ k : Nat, a.n = k := ⟨a.n.toNat, by omega⟩
            have hkW : k < W.length := by omega
            have hw := bl_at hkW
            rw [← hk] at hw
            have hkk := hF.ok W[k] (List.getElem_mem hkW)
            have ch := c_bhashR W[k] hkk.1 hkk.2.1 hkk.2.2
            have hHl := blH_len W[k]
            refine ⟨by omega, _, hw, ?_⟩
            conv => whnf
            refine (ch).mono fun r st e => ?_
            obtain ⟨rfl, rfl⟩ := e
            conv => whnf
            generalize blH W[k] = H at hHl ⊢
            refine ⟨false, [0, 1, 2, 3], 4, ?_⟩
            conv => whnf
            exact ⟨⟨H, a.b.v, a.b.h, a.b.by_, a.b.txs⟩, ⟨hokb.1, hokb.2.1, hHl⟩, rfl⟩
        · rw [show (a.d == 3) = false from decide_eq_false d3]
          conv => whnf
          refine ⟨false, [0, 1, 2, 3], 4, ?_⟩
          conv => whnf
          exact ⟨a.b, hokb, rfl⟩
      rintro τ ⟨x, hx, rfl⟩
      obtain ⟨E, hE⟩ : ∃ E, E = opEB W x := ⟨_, rfl⟩
      obtain ⟨W2, hW2⟩ : ∃ W2, W2 = opLB W x := ⟨_, rfl⟩
      have hF2 : FO W2 := by rw [hW2]; exact hF.put hx
      have cr := c_rput W x (by omega) hF.ok hx E hE.symm W2 hW2.symm
      have e1 := opE_map W x
      have e2 := opL_map W x
      rw [← hE] at e1
      rw [← hW2] at e2
      conv => whnf
      refine (cr).mono fun r st e => ?_
      obtain ⟨rfl, rfl⟩ := e
      conv => whnf
      refine (c_oput1 x (W.map toE) cap L hL (by rw [List.length_map]; omega) hx.1 hx.2.1 hx.2.2 E e1 _ e2).mono ?_
      rintro q st ⟨rfl, cap2, L2, hL2, rfl | ⟨cj, Lj, rfl⟩⟩
      · conv => whnf
        refine Branch.no (by simp) ?_
        conv => whnf
        refine ⟨false, [0, 1, 2, 3], 2, ?_⟩
        conv => whnf
        exact ⟨W2, hF2, .inr ⟨cap2, L2, hL2, rfl⟩⟩
      · conv => whnf
        refine Branch.no (by simp) ?_
        conv => whnf
        refine ⟨false, [0, 4, 1, 2, 3], 2, ?_⟩
        conv => whnf
        exact ⟨W2, hF2, .inr ⟨cap2, L2, hL2, rfl⟩⟩
end Go.WL.T6d
