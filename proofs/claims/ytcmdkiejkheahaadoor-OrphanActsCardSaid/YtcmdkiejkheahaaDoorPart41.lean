/- Blocks whose parents are not there yet: what the buffer's entries say of the list of blocks. No condition. -/
import Derived.Test.YtcmdkiejkheahaaDoorPart40
set_option linter.unusedVariables false
set_option linter.unusedSimpArgs false
namespace Go.WL.T6d
open Go.WL Go.Proofs
set_option maxRecDepth 20000
set_option maxHeartbeats 8000000
structure Oc where
  d : Int
  b : Bl
  n : Int
def ocA (l : List Oc) : List AV := l.map fun a => (AV.st [.sc (.int .i64 (a).d), (AV.st [.ar 32 .lf (by8 (a).b.p), .sc (.int .i64 (a).b.v), .sc (.int .i64 (a).b.h), .sc (.int .i64 (a).b.by_), .sl (.nd [.lf, .lf, .lf, .lf, .lf, .lf, .lf]) (txsA (a).b.txs) .ro]), .sc (.int .i64 (a).n)])
theorem oc_len (l : List Oc) : (ocA l).length = l.length := List.length_map ..
theorem oc_at {l : List Oc} {i : Nat} (h : i < l.length) : (ocA l)[((i : Nat) : Int).toNat]? = some (AV.st [.sc (.int .i64 (l[i]).d), (AV.st [.ar 32 .lf (by8 (l[i]).b.p), .sc (.int .i64 (l[i]).b.v), .sc (.int .i64 (l[i]).b.h), .sc (.int .i64 (l[i]).b.by_), .sl (.nd [.lf, .lf, .lf, .lf, .lf, .lf, .lf]) (txsA (l[i]).b.txs) .ro]), .sc (.int .i64 (l[i]).n)]) := by simp [ocA, h]
theorem c_onew : FnOK Tryd.prog D 55 [] [] (fun r st => r = .pt 0 [] ∧ st = [.st [.sl (.nd [.ar 32 .lf, .nd [.ar 32 .lf, .lf, .lf, .lf, .lf]]) [] .ex, (AV.sc (.bool (true)))]]) := by
  refine fnok_of_W hmix tabOK Tryd.func55 rfl rfl (Nat.le_of_ble_eq_true rfl) ?_
  conv => whnf
  refine ⟨false, [0], ?_⟩
  conv => whnf
  exact ⟨rfl, rfl⟩
theorem c_olight (l : List Oc) : FnOK Tryd.prog D 53 [(AV.sl (.nd [.lf, .nd [.ar 32 .lf, .lf, .lf, .lf, .lf], .lf]) (ocA (l)) .ro)] [] (fun r st => (r = (AV.sc (.bool (false))) ∨ (r = (AV.sc (.bool (true))) ∧ l.length ≤ 50 ∧ ∀ a ∈ l, lightB a.b)) ∧ st = []) := by
  refine fnok_of_W hmix tabOK Tryd.func53 rfl rfl (Nat.le_of_ble_eq_true rfl) ?_
  conv => whnf
  refine ⟨false, [0, 3], fun τ => ∃ i : Nat, i ≤ l.length ∧ i ≤ 51 ∧ (∀ (j : Nat) (h : j < l.length), j < i → lightB l[j].b) ∧ τ = ⟨24, [(0, (AV.sl (.nd [.lf, .nd [.ar 32 .lf, .lf, .lf, .lf, .lf], .lf]) (ocA (l)) .ro)), (3, (AV.sc (.int .i64 ((i : Int)))))], ⟨[], [], 0⟩⟩, fun τ => l.length - (slotI τ 3).toNat, ?_, ?_⟩
  · conv => whnf
    exact ⟨0, by omega, by omega, fun j _ h => by omega, rfl⟩
  rintro τ ⟨i, hi, hi5, hall, rfl⟩
  apply enter3
  intro kk kK
  conv => whnf
  rw [oc_len]
  have stop : ¬ (i < l.length ∧ i ≤ 50) → ((AV.sc (.bool (decide ((l.length : Int) ≤ 50)))) = (AV.sc (.bool (false))) ∨ ((AV.sc (.bool (decide ((l.length : Int) ≤ 50)))) = (AV.sc (.bool (true))) ∧ l.length ≤ 50 ∧ ∀ a ∈ l, lightB a.b)) := by
    intro h
    by_cases h4 : l.length ≤ 50
    · refine .inr ⟨by congr 2; exact decide_eq_true (by omega), h4, fun t ht => ?_⟩
      obtain ⟨j, hj, rfl⟩ := List.getElem_of_mem ht
      exact hall j hj (by omega)
    · exact .inl (by congr 2; exact decide_eq_false (by omega))
  refine Branch.of (fun h1 => ?_) (fun h1 => ?_) <;> rw [h1] <;> conv => whnf
  rotate_left
  · have h1 := of_decide_eq_false h1
    refine kK _ _ ?_
    conv => whnf
    rw [oc_len]
    refine ⟨false, [], ?_⟩
    conv => whnf
    exact ⟨stop (by omega), rfl⟩
  have h1 := of_decide_eq_true h1
  have ih : i < l.length := by omega
  have hat := oc_at ih
  refine Branch.of (fun h2 => ?_) (fun h2 => ?_) <;> rw [h2] <;> conv => whnf
  rotate_left
  · have h2 := of_decide_eq_false h2
    refine kK _ _ ?_
    conv => whnf
    rw [oc_len]
    refine ⟨false, [], ?_⟩
    conv => whnf
    exact ⟨stop (by omega), rfl⟩
  have h2 := of_decide_eq_true h2
  refine ⟨by omega, _, hat, ?_⟩
  conv => whnf
  refine (c_blight l[i].b).mono ?_
  rintro r st ⟨rfl | ⟨rfl, hb⟩, rfl⟩
  · conv => whnf
    refine kK _ _ ?_
    conv => whnf
    refine ⟨false, [], ?_⟩
    conv => whnf
    exact ⟨.inl rfl, rfl⟩
  · conv => whnf
    rw [w64 (x := (i : Int) + 1) (by omega) (by omega)]
    refine kK _ _ ?_
    conv => whnf
    refine ⟨⟨i + 1, by omega, by omega, fun j hj hji => ?_, rfl⟩, ?_⟩
    · by_cases e : j = i
      · subst e
        exact hb
      · exact hall j hj (by omega)
    · show l.length - ((i : Int) + 1).toNat < l.length - (i : Int).toNat
      omega
def b7 : Bl := ⟨[7, 0, 0, 0, 0, 0, 0, 0, 0, 0, 0, 0, 0, 0, 0, 0, 0, 0, 0, 0, 0, 0, 0, 0, 0, 0, 0, 0, 0, 0, 0, 0], 3, 2, 1, []⟩
theorem may7 : mayB b7 = true := by rw [mayB_eq]; decide +kernel
theorem hash7 : (blH b7 == b7.p) = false := by
  unfold blH
  rw [if_pos ⟨may7, by decide +kernel⟩]
  have : [98, 108, 111, 99, 107] ++ blB b7 = [98, 108, 111, 99, 107] ++ (b7.p ++ [3, 2, 1, 0]) := by
    unfold blB
    show _ ++ (b7.p ++ num (3 : Int).toNat ++ num (2 : Int).toNat ++ num (1 : Int).toNat ++ num 0 ++ txsB []) = _
    simp [num_low, txsB]
  rw [this]
  decide +kernel
theorem ok7 : OKW b7 := ⟨by decide, (fun t h => by cases h), rfl⟩
theorem weak7 : Weak (.st [.ar 32 .lf [(AV.sc (.int .u8 (7))), (AV.sc (.int .u8 (0))), (AV.sc (.int .u8 (0))), (AV.sc (.int .u8 (0))), (AV.sc (.int .u8 (0))), (AV.sc (.int .u8 (0))), (AV.sc (.int .u8 (0))), (AV.sc (.int .u8 (0))), (AV.sc (.int .u8 (0))), (AV.sc (.int .u8 (0))), (AV.sc (.int .u8 (0))), (AV.sc (.int .u8 (0))), (AV.sc (.int .u8 (0))), (AV.sc (.int .u8 (0))), (AV.sc (.int .u8 (0))), (AV.sc (.int .u8 (0))), (AV.sc (.int .u8 (0))), (AV.sc (.int .u8 (0))), (AV.sc (.int .u8 (0))), (AV.sc (.int .u8 (0))), (AV.sc (.int .u8 (0))), (AV.sc (.int .u8 (0))), (AV.sc (.int .u8 (0))), (AV.sc (.int .u8 (0))), (AV.sc (.int .u8 (0))), (AV.sc (.int .u8 (0))), (AV.sc (.int .u8 (0))), (AV.sc (.int .u8 (0))), (AV.sc (.int .u8 (0))), (AV.sc (.int .u8 (0))), (AV.sc (.int .u8 (0))), (AV.sc (.int .u8 (0)))], (AV.sc (.int .i64 (3))), (AV.sc (.int .i64 (2))), (AV.sc (.int .i64 (1))), .sl (.nd [.lf, .lf, .lf, .lf, .lf, .lf, .lf]) [] .ex]) (AV.st [.ar 32 .lf (by8 (b7).p), .sc (.int .i64 (b7).v), .sc (.int .i64 (b7).h), .sc (.int .i64 (b7).by_), .sl (.nd [.lf, .lf, .lf, .lf, .lf, .lf, .lf]) (txsA (b7).txs) .ro]) :=
  .st rfl (.cons (Weak.refl _) (.cons (Weak.refl _) (.cons (Weak.refl _) (.cons (Weak.refl _) (.cons (.sl (.inl rfl) .nil) .nil)))))
theorem c_awake21_aux (H : List UInt8) (hH : (H == b7.p) = false) (cp : FnOK Tryd.prog D 62 [.pt 0 [], (.st [.ar 32 .lf [(AV.sc (.int .u8 (7))), (AV.sc (.int .u8 (0))), (AV.sc (.int .u8 (0))), (AV.sc (.int .u8 (0))), (AV.sc (.int .u8 (0))), (AV.sc (.int .u8 (0))), (AV.sc (.int .u8 (0))), (AV.sc (.int .u8 (0))), (AV.sc (.int .u8 (0))), (AV.sc (.int .u8 (0))), (AV.sc (.int .u8 (0))), (AV.sc (.int .u8 (0))), (AV.sc (.int .u8 (0))), (AV.sc (.int .u8 (0))), (AV.sc (.int .u8 (0))), (AV.sc (.int .u8 (0))), (AV.sc (.int .u8 (0))), (AV.sc (.int .u8 (0))), (AV.sc (.int .u8 (0))), (AV.sc (.int .u8 (0))), (AV.sc (.int .u8 (0))), (AV.sc (.int .u8 (0))), (AV.sc (.int .u8 (0))), (AV.sc (.int .u8 (0))), (AV.sc (.int .u8 (0))), (AV.sc (.int .u8 (0))), (AV.sc (.int .u8 (0))), (AV.sc (.int .u8 (0))), (AV.sc (.int .u8 (0))), (AV.sc (.int .u8 (0))), (AV.sc (.int .u8 (0))), (AV.sc (.int .u8 (0)))], (AV.sc (.int .i64 (3))), (AV.sc (.int .i64 (2))), (AV.sc (.int .i64 (1))), .sl (.nd [.lf, .lf, .lf, .lf, .lf, .lf, .lf]) [] .ex])] [.st [.sl (.nd [.ar 32 .lf, .nd [.ar 32 .lf, .lf, .lf, .lf, .lf]]) [] .ex, (AV.sc (.bool (true)))]] (fun r st => r = (AV.sc (.int .i64 (0))) ∧ O0 [⟨H, b7⟩] st)) : FnOK Tryd.prog D 54 [] [] (fun r st => r = (AV.sc (.bool (true))) ∧ st = []) := by
  refine fnok_of_W hmix tabOK Tryd.func54 rfl rfl (Nat.le_of_ble_eq_true rfl) ?_
  conv => whnf
  refine (c_onew).mono fun r st e => ?_
  obtain ⟨rfl, rfl⟩ := e
  conv => whnf
  refine cp.mono ?_
  rintro r st ⟨rfl, ⟨h, _⟩ | ⟨cap, L, hL, rfl⟩⟩
  · exact absurd h (by simp)
  have cw := c_owants1 [⟨H, b7⟩] cap L hL (by simp)
  rw [show wnt (hasE [⟨H, b7⟩]) (([⟨H, b7⟩] : List En).map En.b) = [b7.p] by simp [wnt, wst, hasE, hH]] at cw
  have ca := c_oall1 [⟨H, b7⟩] cap L hL (by simp) (fun e he => by simp at he; subst he; exact (by decide : (0 : Nat) < 4294967296))
  conv => whnf
  refine (cw).mono fun r st e => ?_
  obtain ⟨rfl, rfl⟩ := e
  conv => whnf
  refine ⟨by decide, _, rfl, ?_⟩
  conv => whnf
  refine ⟨b7.p, b7.p, rfl, rfl, ?_⟩
  rw [beq_self_eq_true]
  conv => whnf
  refine (ca).mono fun r st e => ?_
  obtain ⟨rfl, rfl⟩ := e
  conv => whnf
  refine ⟨false, [], ?_⟩
  conv => whnf
  exact ⟨rfl, rfl⟩
theorem c_awake21 : FnOK Tryd.prog D 54 [] [] (fun r st => r = (AV.sc (.bool (true))) ∧ st = []) := by
  have hE : opE [] b7 = 0 := by
    unfold opE
    rw [if_neg (by rw [may7]; decide), if_neg (by simp [hasE])]
  have hL : opL [] b7 = [⟨blH b7, b7⟩] := by
    unfold opL
    rw [if_pos hE, if_neg (by simp)]
    rfl
  exact c_awake21_aux (blH b7) hash7 ((c_oput0 b7 (by decide) ok7.2.1 rfl 0 hE _ hL).weak (.cons (Weak.refl _) (.cons weak7 .nil)))
end Go.WL.T6d
namespace Go.WL.T6d
open Go.WL Go.Proofs
set_option maxRecDepth 20000
set_option maxHeartbeats 8000000
def toE (b : Bl) : En := ⟨blH b, b⟩
theorem hasE_map (W : List Bl) (h : List UInt8) : hasE (W.map toE) h = hasB W h := by
  unfold hasE hasB
  rw [List.any_map]
  rfl
theorem map_toE (W : List Bl) : (W.map toE).map En.b = W := by
  rw [List.map_map]
  exact List.map_id W
theorem opE_map (W : List Bl) (x : Bl) : opE (W.map toE) x = opEB W x := by
  unfold opE opEB
  rw [hasE_map]
theorem opL_map (W : List Bl) (x : Bl) : opL (W.map toE) x = (opLB W x).map toE := by
  unfold opL opLB
  rw [opE_map]
  have e : W.map toE ++ [(⟨blH x, x⟩ : En)] = (W ++ [x]).map toE := by rw [List.map_append]; rfl
  rw [e, List.length_map]
  by_cases h : opEB W x = 0
  · rw [if_pos h, if_pos h]
    by_cases h2 : 32 < (W ++ [x]).length
    · rw [if_pos h2, if_pos h2, List.map_drop]
    · rw [if_neg h2, if_neg h2]
  · rw [if_neg h, if_neg h]
theorem wnt_congr {f g : List UInt8 → Bool} (h : ∀ x, f x = g x) (l : List Bl) : wnt f l = wnt g l := by
  rw [show f = g from funext h]
theorem wnt_map (W : List Bl) : wnt (hasE (W.map toE)) ((W.map toE).map En.b) = wnt (hasB W) W := by
  rw [map_toE]
  exact wnt_congr (hasE_map W) W
theorem filT (W : List Bl) (u : List UInt8) : ((W.map toE).filter (pfT u)).map En.b = W.filter fun b => b.p == u := by
  rw [List.filter_map, map_toE]
  rfl
theorem filT' (W : List Bl) (u : List UInt8) : (W.map toE).filter (fun e => !pfT u e) = (W.filter fun b => !(b.p == u)).map toE := by
  rw [List.filter_map]
  rfl
theorem filD (W : List Bl) (u : Int) : ((W.map toE).filter (pfD u)).length = (W.filter fun b => decide (b.v ≤ u)).length := by
  rw [List.filter_map, List.length_map]
  rfl
theorem filD' (W : List Bl) (u : Int) : (W.map toE).filter (fun e => !pfD u e) = (W.filter fun b => !decide (b.v ≤ u)).map toE := by
  rw [List.filter_map]
  rfl
theorem fil_sum (p : Bl → Bool) (W : List Bl) : (W.filter p).length + (W.filter fun b => !p b).length = W.length := by
  induction W with
  | nil => rfl
  | cons x W ih =>
    rw [List.filter_cons, List.filter_cons]
    cases p x <;> simp <;> omega
structure FO (W : List Bl) : Prop where
  len : W.length ≤ 32
  ok : ∀ b ∈ W, OKW b
theorem FO.fil {W : List Bl} (h : FO W) (p : Bl → Bool) : FO (W.filter p) :=
  ⟨Nat.le_trans (List.length_filter_le ..) h.len, fun b hb => h.ok b (List.mem_filter.1 hb).1⟩
theorem FO.put {W : List Bl} (h : FO W) {x : Bl} (hx : OKW x) : FO (opLB W x) := by
  unfold opLB
  have ha : ∀ b ∈ W ++ [x], OKW b := fun b hb => by
    rcases List.mem_append.1 hb with hb | hb
    · exact h.ok b hb
    · rw [List.mem_singleton.1 hb]
      exact hx
  split
  · split
    · refine ⟨?_, fun b hb => ha b (List.mem_of_mem_drop hb)⟩
      rw [List.length_drop, List.length_append, List.length_singleton]
      have := h.len
      omega
    · exact ⟨by omega, ha⟩
  · exact h
theorem okw_light {b : Bl} (h : lightB b) (hp : b.p.length = 32) : OKW b :=
  ⟨by have := h.1; omega, fun t ht => by have := (h.2 t ht).1; omega, hp⟩
end Go.WL.T6d
