/- Pairs: light, awake, and the laws. No condition. -/
import Derived.Test.YtdlgmddegldcjaaPart11
set_option linter.unusedVariables false
set_option linter.unusedSimpArgs false
namespace Go.WL.T5
open Go.WL Go.Proofs
set_option maxRecDepth 20000
set_option maxHeartbeats 8000000
def kLight (l : List Pr) (k v : List UInt8) : Prop := l.length ≤ 120 ∧ k.length ≤ 100 ∧ v.length ≤ 300 ∧ ∀ x ∈ l, x.key.length ≤ 100
theorem c_klight (l : List Pr) (k v : List UInt8) : FnOK Try.prog D 41 [(AV.sl (.nd [.lf, .lf]) (prA (l)) .ro), (AV.sc (.string (strB (k)))), (AV.sc (.string (strB (v))))] [] (fun r st => (r = (AV.sc (.bool (false))) ∨ (r = (AV.sc (.bool (true))) ∧ kLight l k v)) ∧ st = []) := by
  have hll := lenPr l
  refine fnok_of_W hmix tabOK Try.func41 rfl rfl (Nat.le_of_ble_eq_true rfl) ?_
  conv => whnf
  refine ⟨false, [0, 1, 2, 7], fun τ => ∃ i : Nat, i ≤ l.length ∧ i ≤ 121 ∧ (∀ y ∈ l.take i, y.key.length ≤ 100) ∧ τ = ⟨47, [(0, (AV.sl (.nd [.lf, .lf]) (prA (l)) .ro)), (1, (AV.sc (.string (strB (k))))), (2, (AV.sc (.string (strB (v))))), (7, (AV.sc (.int .i64 ((i : Int)))))], ⟨[], [], 0⟩⟩, fun τ => 121 - (slotI τ 7).toNat, ?_, ?_⟩
  · conv => whnf
    exact ⟨0, by omega, by omega, by simp, rfl⟩
  rintro τ ⟨i, hi, hi2, ha, rfl⟩
  apply enter3
  intro kk kK
  conv => whnf
  rw [hll]
  cases h1 : decide ((i : Int) < (l.length : Int))
  · simp only [decide_eq_false_iff_not] at h1
    have e : i = l.length := by omega
    subst e
    rw [List.take_length] at ha
    conv => whnf
    refine kK _ _ ?_
    conv => whnf
    rw [hll]
    cases h2 : decide ((l.length : Int) ≤ 120)
    · conv => whnf
      refine ⟨false, [], ?_⟩
      conv => whnf
      exact ⟨.inl rfl, rfl⟩
    conv => whnf
    rw [strB_size]
    cases h3 : decide ((k.length : Int) ≤ 100)
    · conv => whnf
      refine ⟨false, [], ?_⟩
      conv => whnf
      exact ⟨.inl rfl, rfl⟩
    conv => whnf
    rw [strB_size]
    cases h4 : decide ((v.length : Int) ≤ 300)
    · conv => whnf
      refine ⟨false, [], ?_⟩
      conv => whnf
      exact ⟨.inl rfl, rfl⟩
    simp only [decide_eq_true_eq] at h2 h3 h4
    conv => whnf
    refine ⟨false, [], ?_⟩
    conv => whnf
    exact ⟨.inr ⟨rfl, by omega, by omega, by omega, ha⟩, rfl⟩
  · simp only [decide_eq_true_eq] at h1
    have hil : i < l.length := by omega
    conv => whnf
    cases h2 : decide ((i : Int) ≤ 120)
    · simp only [decide_eq_false_iff_not] at h2
      conv => whnf
      refine kK _ _ ?_
      conv => whnf
      rw [hll, decide_eq_false (show ¬ (l.length : Int) ≤ 120 by omega)]
      conv => whnf
      refine ⟨false, [], ?_⟩
      conv => whnf
      exact ⟨.inl rfl, rfl⟩
    · simp only [decide_eq_true_eq] at h2
      conv => whnf
      repeat (refine And.intro (by first | omega) ?_; conv => whnf)
      refine ⟨_, atPr hil, ?_⟩
      conv => whnf
      rw [strB_size]
      cases h3 : decide ((l[i].key.length : Int) > 100)
      rotate_left
      · conv => whnf
        refine kK _ _ ?_
        conv => whnf
        refine ⟨false, [], ?_⟩
        conv => whnf
        exact ⟨.inl rfl, rfl⟩
      simp only [gt_iff_lt, decide_eq_false_iff_not] at h3
      conv => whnf
      repeat (refine And.intro (by first | omega) ?_; conv => whnf)
      refine ⟨_, atPr hil, ?_⟩
      conv => whnf
      rw [strB_size]
      cases h4 : decide ((l[i].val.length : Int) > 100)
      rotate_left
      · conv => whnf
        refine kK _ _ ?_
        conv => whnf
        refine ⟨false, [], ?_⟩
        conv => whnf
        exact ⟨.inl rfl, rfl⟩
      conv => whnf
      rw [w64 (x := (i : Int) + 1) (by omega) (by omega)]
      refine kK _ _ ?_
      conv => whnf
      refine ⟨⟨i + 1, by omega, by omega, ?_, rfl⟩, ?_⟩
      · intro y hy
        rw [List.take_succ_eq_append_getElem hil, List.mem_append, List.mem_singleton] at hy
        rcases hy with hy | rfl
        · exact ha y hy
        · omega
      show 121 - ((i : Int) + 1).toNat < 121 - (i : Int).toNat
      omega
theorem weakPrs (l : List Pr) : Weak (.sl (.nd [.lf, .lf]) (prA l) .ex) (AV.sl (.nd [.lf, .lf]) (prA (l)) .ro) := .ro
theorem put_ab : kvPut [] [97] [98] = ([⟨[97], [98]⟩], 0) := by decide +kernel
theorem get_ab : kvGet [⟨[97], [98]⟩] [97] = ([98], true) := by decide +kernel
theorem may_ab : mayP okKey [⟨[97], [98]⟩] = true := by decide +kernel
theorem c_awake23 : FnOK Try.prog D 42 [] [] (fun r st => r = (AV.sc (.bool (true))) ∧ st = []) := by
  have c1 : FnOK Try.prog D 43 [.sl (.nd [.lf, .lf]) [] .ex, (AV.sc (.string (strB ([97])))), (AV.sc (.string (strB ([98]))))] [] (fun r st => r = .tup [(AV.sl (.nd [.lf, .lf]) (prA ([(⟨[97], [98]⟩ : Pr)])) .ro), (AV.sc (.int .i64 (0)))] ∧ st = []) := by
    have := (c_kput [] [97] [98] (by decide)).weak (.cons (weakPrs []) (Weaks.refl _))
    rwa [put_ab] at this
  have c2 : FnOK Try.prog D 48 [(AV.sl (.nd [.lf, .lf]) (prA ([(⟨[97], [98]⟩ : Pr)])) .ro), (AV.sc (.string (strB ([97]))))] [] (fun r st => r = .tup [(AV.sc (.string (strB ([98])))), (AV.sc (.bool (true)))] ∧ st = []) := by
    have := c_kget [⟨[97], [98]⟩] [97] (by decide)
    rwa [get_ab] at this
  have c3 := c_kcheck1 may_ab
  refine fnok_of_W hmix tabOK Try.func42 rfl rfl (Nat.le_of_ble_eq_true rfl) ?_
  conv => whnf
  refine (c1).mono fun r st e => ?_
  obtain ⟨rfl, rfl⟩ := e
  conv => whnf
  refine (c2).mono fun r st e => ?_
  obtain ⟨rfl, rfl⟩ := e
  conv => whnf
  rw [show ((strB [98]).toList == ({ data := #[98] } : ByteArray).toList) = true by rw [strB_list, ByteArray.toList_eq]; rfl]
  conv => whnf
  refine (c3).mono fun r st e => ?_
  obtain ⟨rfl, rfl⟩ := e
  conv => whnf
  refine ⟨false, [], ?_⟩
  conv => whnf
  exact ⟨rfl, rfl⟩
theorem kput_len (l : List Pr) (k v : List UInt8) : (kvPut l k v).1.length ≤ l.length + 1 := by
  unfold kvPut
  split
  · rename_i h
    have hs := ((mayP_iff _ _).1 h.1).2.2
    split
    · simp
    · split
      · simp
      · have := put_len (x := (⟨k, v⟩ : Pr)) hs
        have h2 : (dropL Pr.key l k).length ≤ l.length := List.length_filter_le _ _
        dsimp only at this ⊢
        omega
  · simp
theorem kdrop_len (l : List Pr) (k : List UInt8) : (kvDrop l k).1.length ≤ l.length := by
  unfold kvDrop
  split
  · split
    · exact List.length_filter_le _ _
    · simp
  · simp
theorem c_kvputs_aux (l : List Pr) (k v : List UInt8) (A B : List Pr × Int) (M : Bool) (g : List UInt8 × Bool) (G : Option Pr)
    (hg : g = if M = true then ((G.map Pr.val).getD [], G.isSome) else ([], false))
    (cw : FnOK Try.prog D 42 [] [] (fun r st => r = (AV.sc (.bool (true))) ∧ st = []))
    (c1 : kLight l k v → FnOK Try.prog D 43 [(AV.sl (.nd [.lf, .lf]) (prA (l)) .ro), (AV.sc (.string (strB (k)))), (AV.sc (.string (strB (v))))] [] (fun r st => r = .tup [(AV.sl (.nd [.lf, .lf]) (prA (A.1)) .ro), (AV.sc (.int .i64 (A.2)))] ∧ st = []))
    (c2 : kLight l k v → FnOK Try.prog D 45 [(AV.sl (.nd [.lf, .lf]) (prA (l)) .ro), (AV.sc (.string (strB (k))))] [] (fun r st => r = .tup [(AV.sl (.nd [.lf, .lf]) (prA (B.1)) .ro), (AV.sc (.int .i64 (B.2)))] ∧ st = []))
    (c3 : kLight l k v → FnOK Try.prog D 46 [(AV.sl (.nd [.lf, .lf]) (prA (l)) .ro), (AV.sc (.string (strB (k)))), (AV.sc (.string (strB (v))))] [] (fun r st => r = .tup [(AV.sl (.nd [.lf, .lf]) (prA (A.1)) .ro), (AV.sc (.int .i64 (A.2)))] ∧ st = []))
    (c4 : kLight l k v → FnOK Try.prog D 47 [(AV.sl (.nd [.lf, .lf]) (prA (l)) .ro), (AV.sc (.string (strB (k))))] [] (fun r st => r = .tup [(AV.sl (.nd [.lf, .lf]) (prA (B.1)) .ro), (AV.sc (.int .i64 (B.2)))] ∧ st = []))
    (c5 : kLight l k v → FnOK Try.prog D 48 [(AV.sl (.nd [.lf, .lf]) (prA (l)) .ro), (AV.sc (.string (strB (k))))] [] (fun r st => r = .tup [(AV.sc (.string (strB (g.1)))), (AV.sc (.bool (g.2)))] ∧ st = []))
    (c6 : kLight l k v → FnOK Try.prog D 49 [(AV.sl (.nd [.lf, .lf]) (prA (l)) .ro)] [] (fun r st => r = (AV.sc (.bool (M))) ∧ st = []))
    (c7 : kLight l k v → FnOK Try.prog D 50 [(AV.sl (.nd [.lf, .lf]) (prA (l)) .ro)] [] (fun r st => r = (AV.sc (.int .i64 (if M = true then 0 else 1))) ∧ st = []))
    (c8 : kLight l k v → FnOK Try.prog D 44 [(AV.sl (.nd [.lf, .lf]) (prA (A.1)) .ro), (AV.sl (.nd [.lf, .lf]) (prA (A.1)) .ro)] [] (fun r st => r = (AV.sc (.bool (true))) ∧ st = []))
    (c9 : kLight l k v → FnOK Try.prog D 44 [(AV.sl (.nd [.lf, .lf]) (prA (B.1)) .ro), (AV.sl (.nd [.lf, .lf]) (prA (B.1)) .ro)] [] (fun r st => r = (AV.sc (.bool (true))) ∧ st = []))
    (ca : kLight l k v → FnOK Try.prog D 51 [(AV.sl (.nd [.lf, .lf]) (prA (l)) .ro), (AV.sc (.string (strB (k))))] [] (fun r st => r = .tup [(AV.sc (.string (strB ((G.map Pr.val).getD [])))), (AV.sc (.bool (G.isSome)))] ∧ st = [])) :
    FnOK Try.prog D 10 [(AV.sl (.nd [.lf, .lf]) (prA (l)) .ro), (AV.sc (.string (strB (k)))), (AV.sc (.string (strB (v))))] [] (fun r _ => r = (AV.sc (.bool (true)))) := by
  have hS : (A.2 != A.2) = false := by simp
  have hT : (B.2 != B.2) = false := by simp
  refine fnok_of_W hmix tabOK Try.func10 rfl rfl (Nat.le_of_ble_eq_true rfl) ?_
  conv => whnf
  refine (c_klight l k v).mono fun r st e => ?_
  obtain ⟨rfl | ⟨rfl, hlight⟩, rfl⟩ := e
  · conv => whnf
    refine (cw).mono fun r st e => ?_
    obtain ⟨rfl, rfl⟩ := e
    conv => whnf
    refine ⟨false, [], ?_⟩
    conv => whnf
  have c1 := c1 hlight
  have c2 := c2 hlight
  have c3 := c3 hlight
  have c4 := c4 hlight
  have c5 := c5 hlight
  have c6 := c6 hlight
  have c7 := c7 hlight
  have c8 := c8 hlight
  have c9 := c9 hlight
  have ca := ca hlight
  cases M with
  | false =>
    rw [if_neg (by simp)] at hg
    rw [if_neg (by simp)] at c7
    subst hg
    conv => whnf
    refine (c1).mono fun r st e => ?_
    obtain ⟨rfl, rfl⟩ := e
    conv => whnf
    refine (c2).mono fun r st e => ?_
    obtain ⟨rfl, rfl⟩ := e
    conv => whnf
    refine (c3).mono fun r st e => ?_
    obtain ⟨rfl, rfl⟩ := e
    conv => whnf
    refine (c4).mono fun r st e => ?_
    obtain ⟨rfl, rfl⟩ := e
    conv => whnf
    refine (c5).mono fun r st e => ?_
    obtain ⟨rfl, rfl⟩ := e
    conv => whnf
    refine (c6).mono fun r st e => ?_
    obtain ⟨rfl, rfl⟩ := e
    conv => whnf
    refine (c7).mono fun r st e => ?_
    obtain ⟨rfl, rfl⟩ := e
    conv => whnf
    rw [hS]
    conv => whnf
    rw [hT]
    conv => whnf
    refine (c8).mono fun r st e => ?_
    obtain ⟨rfl, rfl⟩ := e
    conv => whnf
    refine (c9).mono fun r st e => ?_
    obtain ⟨rfl, rfl⟩ := e
    conv => whnf
    rw [show ((strB ([] : List UInt8)).toList == ({ data := #[] } : ByteArray).toList) = true by rw [strB_list, ByteArray.toList_eq]; rfl]
    conv => whnf
    refine (cw).mono fun r st e => ?_
    obtain ⟨rfl, rfl⟩ := e
    conv => whnf
    refine ⟨false, [], ?_⟩
    conv => whnf
  | true =>
    rw [if_pos rfl] at hg
    rw [if_pos rfl] at c7
    subst hg
    generalize (G.map Pr.val).getD [] = y at c5 ca
    generalize G.isSome = z at c5 ca
    conv => whnf
    refine (c1).mono fun r st e => ?_
    obtain ⟨rfl, rfl⟩ := e
    conv => whnf
    refine (c2).mono fun r st e => ?_
    obtain ⟨rfl, rfl⟩ := e
    conv => whnf
    refine (c3).mono fun r st e => ?_
    obtain ⟨rfl, rfl⟩ := e
    conv => whnf
    refine (c4).mono fun r st e => ?_
    obtain ⟨rfl, rfl⟩ := e
    conv => whnf
    refine (c5).mono fun r st e => ?_
    obtain ⟨rfl, rfl⟩ := e
    conv => whnf
    refine (c6).mono fun r st e => ?_
    obtain ⟨rfl, rfl⟩ := e
    conv => whnf
    refine (c7).mono fun r st e => ?_
    obtain ⟨rfl, rfl⟩ := e
    conv => whnf
    rw [hS]
    conv => whnf
    rw [hT]
    conv => whnf
    refine (c8).mono fun r st e => ?_
    obtain ⟨rfl, rfl⟩ := e
    conv => whnf
    refine (c9).mono fun r st e => ?_
    obtain ⟨rfl, rfl⟩ := e
    conv => whnf
    refine (ca).mono fun r st e => ?_
    obtain ⟨rfl, rfl⟩ := e
    conv => whnf
    rw [beq_strB, show (y == y) = true by simp]
    conv => whnf
    rw [show (z == z) = true by simp]
    conv => whnf
    refine (cw).mono fun r st e => ?_
    obtain ⟨rfl, rfl⟩ := e
    conv => whnf
    refine ⟨false, [], ?_⟩
    conv => whnf
theorem c_kvputs (l : List Pr) (k v : List UInt8) : FnOK Try.prog D 10 [(AV.sl (.nd [.lf, .lf]) (prA (l)) .ro), (AV.sc (.string (strB (k)))), (AV.sc (.string (strB (v))))] [] (fun r _ => r = (AV.sc (.bool (true)))) := by
  have hs : ∀ x : List Pr, x.length < 4294967296 → FnOK Try.prog D 44 [(AV.sl (.nd [.lf, .lf]) (prA (x)) .ro), (AV.sl (.nd [.lf, .lf]) (prA (x)) .ro)] [] (fun r st => r = (AV.sc (.bool (true))) ∧ st = []) := fun x hx => by
    have := c_ksame x x hx
    rwa [decide_eq_true rfl] at this
  have hp := kput_len l k v
  have hd := kdrop_len l k
  refine c_kvputs_aux l k v (kvPut l k v) (kvDrop l k) (mayP okKey l) (kvGet l k) (getL Pr.key l k) ?_ c_awake23 (fun h => c_kput l k v (by have := h.1; omega)) (fun h => c_kdrop l k (by have := h.1; omega))
    (fun h => c_kputR l k v (by have := h.1; omega) (fun x hx => by have := h.2.2.2 x hx; omega) (by have := h.2.1; omega)) (fun h => c_kdropR l k (by have := h.1; omega) (fun x hx => by have := h.2.2.2 x hx; omega)) (fun h => c_kget l k (by have := h.1; omega))
    (fun h => c_kmayR l (by have := h.1; omega) (fun x hx => by have := h.2.2.2 x hx; omega)) (fun h => c_kcheck l (by have := h.1; omega)) (fun h => hs _ (by have := h.1; omega)) (fun h => hs _ (by have := h.1; omega)) (fun h => c_kgetR l k (by have := h.1; omega))
  unfold kvGet
  split
  · cases getL Pr.key l k <;> rfl
  · rfl
end Go.WL.T5
