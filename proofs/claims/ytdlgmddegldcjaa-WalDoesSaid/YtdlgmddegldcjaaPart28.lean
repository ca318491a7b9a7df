/- The wal: records are put. No condition. -/
import Derived.Test.YtdlgmddegldcjaaPart27
set_option linter.unusedVariables false
set_option linter.unusedSimpArgs false
namespace Go.WL.T5
open Go.WL Go.Proofs
set_option maxRecDepth 20000
set_option maxHeartbeats 8000000
def goodL (l : List (List UInt8)) : Bool := l.all fun b => !b.isEmpty
def recL (l : List (List UInt8)) : List UInt8 := (l.map rec).flatten
def putD (k : Pk) (x : List UInt8) : Pk × Int := if (appP k x).2 = 0 then syncP (appP k x).1 else appP k x
def putP (k : Pk) (m : Int) (br : Bool) (l : List (List UInt8)) : Pk × Int × Bool × Int := if br = true then (k, m, br, 5) else if goodL l = false then (k, m, br, 1) else if l = [] then (k, m, br, 0) else ((putD k (recL l)).1, (if (putD k (recL l)).2 = 0 then m + l.length else m), (putD k (recL l)).2 == 6, (putD k (recL l)).2)
def PW0 (k : Pk) (m : Int) (br : Bool) (st : List AV) : Prop := (k.b = [] ∧ st = [.st [.pt 1 [], (AV.sc (.int .i64 (m))), (AV.sc (.bool (br)))], (AV.st [.sl .lf [] .ex, .sc (.int .i64 (k).sf), .sc (.int .i64 (k).room), .sc (.bool true), .sc (.int .i64 (k).armed), .sc (.bool (k).dead), .sl .lf (by8 (k).h) .ro])]) ∨ ∃ cap c2 L, OKL k.b cap c2 L ∧ st = [.st [.pt 1 [], (AV.sc (.int .i64 (m))), (AV.sc (.bool (br)))], (AV.st [.bs 2 [] .lf 0 (k).b.length cap, .sc (.int .i64 (k).sf), .sc (.int .i64 (k).room), .sc (.bool true), .sc (.int .i64 (k).armed), .sc (.bool (k).dead), .sl .lf (by8 (k).h) .ro]), .ar c2 .lf L]
def PW1 (k : Pk) (m : Int) (br : Bool) (st : List AV) : Prop := (∃ cap c2 L, OKL k.b cap c2 L ∧ st = [.st [.pt 1 [], (AV.sc (.int .i64 (m))), (AV.sc (.bool (br)))], (AV.st [.bs 2 [] .lf 0 (k).b.length cap, .sc (.int .i64 (k).sf), .sc (.int .i64 (k).room), .sc (.bool true), .sc (.int .i64 (k).armed), .sc (.bool (k).dead), .sl .lf (by8 (k).h) .ro]), .ar c2 .lf L]) ∨ (∃ cap c2 L cj Lj, OKL k.b cap c2 L ∧ st = [.st [.pt 1 [], (AV.sc (.int .i64 (m))), (AV.sc (.bool (br)))], (AV.st [.bs 3 [] .lf 0 (k).b.length cap, .sc (.int .i64 (k).sf), .sc (.int .i64 (k).room), .sc (.bool true), .sc (.int .i64 (k).armed), .sc (.bool (k).dead), .sl .lf (by8 (k).h) .ro]), .ar cj .lf Lj, .ar c2 .lf L]) ∨ (k.b = [] ∧ ∃ cj Lj, st = [.st [.pt 1 [], (AV.sc (.int .i64 (m))), (AV.sc (.bool (br)))], (AV.st [.sl .lf [] .ex, .sc (.int .i64 (k).sf), .sc (.int .i64 (k).room), .sc (.bool true), .sc (.int .i64 (k).armed), .sc (.bool (k).dead), .sl .lf (by8 (k).h) .ro]), .ar cj .lf Lj])
theorem app_armed (k : Pk) (x : List UInt8) (hw : WFk k) : -1 ≤ (appP k x).1.armed ∧ (appP k x).1.armed < 9223372036854775808 := by
  have hs := step_armed k hw.2.2.2.2.2.1 hw.2.2.2.2.2.2
  have h0 : -1 ≤ k.armed ∧ k.armed < 9223372036854775808 := ⟨hw.2.2.2.2.2.1, hw.2.2.2.2.2.2⟩
  unfold appP
  split
  · exact h0
  · split
    · exact h0
    · split
      · exact h0
      · split
        · exact hs
        · exact hs
theorem app_e (k : Pk) (x : List UInt8) : (appP k x).2 = 6 ∨ (appP k x).2 = 4 ∨ (appP k x).2 = 0 := by
  unfold appP
  split
  · exact .inl rfl
  · split
    · exact .inr (.inl rfl)
    · split
      · exact .inr (.inr rfl)
      · split
        · exact .inr (.inr rfl)
        · exact .inl rfl
theorem recL_len : ∀ (l : List (List UInt8)), (∀ b ∈ l, b.length ≤ 1000) → (recL l).length ≤ 1008 * l.length
  | [], _ => by simp [recL]
  | b :: l, h => by
    have ih := recL_len l fun x hx => h x (List.mem_cons_of_mem _ hx)
    have hb := h b (by simp)
    have e : recL (b :: l) = rec b ++ recL l := by simp [recL]
    rw [e, List.length_append, rec_len, List.length_cons]
    omega
theorem recL_succ {l : List (List UInt8)} {i : Nat} (h : i < l.length) : recL (l.take (i + 1)) = recL (l.take i) ++ rec l[i] := by
  unfold recL
  rw [List.take_add_one, List.getElem?_eq_getElem h]
  simp only [List.map_append, List.flatten_append, Option.toList_some, List.map_cons, List.map_nil, List.flatten_cons, List.flatten_nil, List.append_nil]
theorem at_ro {l : List (List UInt8)} {i : Nat} (h : i < l.length) : (l.map fun b => (AV.sl .lf (by8 (b)) .ro))[((i : Int)).toNat]? = some ((AV.sl .lf (by8 (l[i])) .ro)) := by
  rw [Int.toNat_natCast, List.getElem?_map, List.getElem?_eq_getElem h]
  rfl
theorem good_bad {l : List (List UInt8)} {b : List UInt8} (h : b ∈ l) (h0 : b = []) : goodL l = false := by
  unfold goodL
  rw [List.all_eq_false]
  exact ⟨b, h, by subst h0; simp⟩
theorem good_all {l : List (List UInt8)} (h : ∀ b ∈ l, b ≠ []) : goodL l = true := by
  unfold goodL
  rw [List.all_eq_true]
  intro b hb
  have := h b hb
  cases b with
  | nil => exact absurd rfl this
  | cons x xs => rfl
theorem c_put0 (k : Pk) (m : Int) (br : Bool) (l : List (List UInt8)) (hb0 : k.b = []) (hw : WFk k) (hl : l.length ≤ 100) (hb : ∀ b ∈ l, b.length ≤ 1000) (hm0 : 0 ≤ m) (hm : m ≤ 1000000000) (q : Pk × Int × Bool × Int) (hq : putP k m br l = q) : FnOK Try.prog D 34 [.pt 0 [], .sl .lf (l.map fun b => (AV.sl .lf (by8 (b)) .ro)) .ro] [.st [.pt 1 [], (AV.sc (.int .i64 (m))), (AV.sc (.bool (br)))], (AV.st [.sl .lf [] .ex, .sc (.int .i64 (k).sf), .sc (.int .i64 (k).room), .sc (.bool true), .sc (.int .i64 (k).armed), .sc (.bool (k).dead), .sl .lf (by8 (k).h) .ro])] (fun r st => r = (AV.sc (.int .i64 (q.2.2.2))) ∧ PW0 q.1 q.2.1 q.2.2.1 st) := by
  cases br with
  | true =>
    have e : q = (k, m, true, 5) := by rw [← hq, putP, if_pos rfl]
    subst e
    refine fnok_of_W hmix tabOK Try.func34 rfl rfl (Nat.le_of_ble_eq_true rfl) ?_
    conv => whnf
    refine (c_wbroken0 k m true).mono fun r st e => ?_
    obtain ⟨rfl, rfl⟩ := e
    conv => whnf
    refine ⟨false, [], ?_⟩
    conv => whnf
    exact ⟨rfl, .inl ⟨hb0, rfl⟩⟩
  | false =>
    have hq1 : putP k m false l = if goodL l = false then (k, m, false, 1) else if l = [] then (k, m, false, 0) else ((putD k (recL l)).1, (if (putD k (recL l)).2 = 0 then m + l.length else m), (putD k (recL l)).2 == 6, (putD k (recL l)).2) := rfl
    rw [hq1] at hq
    clear hq1
    refine fnok_of_W hmix tabOK Try.func34 rfl rfl (Nat.le_of_ble_eq_true rfl) ?_
    conv => whnf
    refine (c_wbroken0 k m false).mono fun r st e => ?_
    obtain ⟨rfl, rfl⟩ := e
    conv => whnf
    refine ⟨false, [0, 1, 13, 14, 15, 5], fun τ => ∃ i : Nat, i ≤ l.length ∧ (∀ b ∈ l.take i, b ≠ []) ∧ ((i = 0 ∧ τ = ⟨64, [(0, .pt 0 []), (1, .sl .lf (l.map fun b => (AV.sl .lf (by8 (b)) .ro)) .ro), (13, .sl .lf (l.map fun b => (AV.sl .lf (by8 (b)) .ro)) .ro), (14, (AV.sc (.int .i64 ((l.length : Int))))), (15, (AV.sc (.int .i64 ((i : Int))))), (5, .sl .lf [] .ex)], ⟨[(.st [.pt 1 [], (AV.sc (.int .i64 (m))), (AV.sc (.bool (false)))], false), ((AV.st [.sl .lf [] .ex, .sc (.int .i64 (k).sf), .sc (.int .i64 (k).room), .sc (.bool true), .sc (.int .i64 (k).armed), .sc (.bool (k).dead), .sl .lf (by8 (k).h) .ro]), false)], [], 0⟩⟩) ∨ τ = ⟨64, [(0, .pt 0 []), (1, .sl .lf (l.map fun b => (AV.sl .lf (by8 (b)) .ro)) .ro), (13, .sl .lf (l.map fun b => (AV.sl .lf (by8 (b)) .ro)) .ro), (14, (AV.sc (.int .i64 ((l.length : Int))))), (15, (AV.sc (.int .i64 ((i : Int))))), (5, (AV.sl .lf (by8 ((recL (l.take i)))) (.own 0)))], ⟨[(.st [.pt 1 [], (AV.sc (.int .i64 (m))), (AV.sc (.bool (false)))], false), ((AV.st [.sl .lf [] .ex, .sc (.int .i64 (k).sf), .sc (.int .i64 (k).room), .sc (.bool true), .sc (.int .i64 (k).armed), .sc (.bool (k).dead), .sl .lf (by8 (k).h) .ro]), false)], [0], 1⟩⟩), fun τ => l.length - (slotI τ 15).toNat, ?_, ?_⟩
    · conv => whnf
      rw [List.length_map]
      exact ⟨0, by omega, by simp, .inl ⟨rfl, rfl⟩⟩
    rintro τ ⟨i, hi, hg, h⟩
    rcases h with ⟨hi0, rfl⟩ | rfl
    · apply enter3
      intro kk kK
      conv => whnf
      refine Branch.of (fun h1 => ?_) (fun h1 => ?_) <;> rw [h1] <;> conv => whnf
      rotate_left
      · have h1 := of_decide_eq_false h1
        have e : i = l.length := by omega
        rw [e, List.take_length] at hg
        have hgg := good_all hg
        rw [if_neg (fun e => by rw [hgg] at e; cases e)] at hq
        refine kK _ _ ?_
        conv => whnf
        rw [List.length_map]
        have hl0 : l = [] := List.eq_nil_of_length_eq_zero (by omega)
        subst hl0
        rw [if_pos rfl] at hq
        subst hq
        conv => whnf
        refine ⟨false, [], ?_⟩
        conv => whnf
        exact ⟨rfl, .inl ⟨hb0, rfl⟩⟩
      have h1 := of_decide_eq_true h1
      have ih : i < l.length := by omega
      have hmem : l[i] ∈ l := List.getElem_mem ih
      have hbi := hb l[i] hmem
      have hat := at_ro ih
      have hsucc := recL_succ ih
      have htk : ∀ b ∈ l.take (i + 1), b ∈ l.take i ∨ b = l[i] := by
        intro b hb
        rw [List.take_add_one, List.getElem?_eq_getElem ih] at hb
        rcases List.mem_append.1 hb with h | h
        · exact .inl h
        · exact .inr (List.mem_singleton.1 h)
      have hlt : (recL (l.take i)).length ≤ 1008 * i := by
        have := recL_len (l.take i) (fun b h => hb b (List.mem_of_mem_take h))
        rw [List.length_take, Nat.min_eq_left hi] at this
        exact this
      generalize l[i] = b at hmem hbi hat hsucc htk
      refine ⟨by omega, _, hat, ?_⟩
      conv => whnf
      by_cases hb0' : b = []
      · subst hb0'
        refine (c_record0).mono fun r st e => ?_
        obtain ⟨rfl, rfl⟩ := e
        conv => whnf
        refine kK _ _ ?_
        conv => whnf
        have e : q = (k, m, false, 1) := by rw [← hq, if_pos (good_bad hmem rfl)]
        subst e
        refine ⟨false, [], ?_⟩
        conv => whnf
        exact ⟨rfl, .inl ⟨hb0, rfl⟩⟩
      · have hbp : 0 < b.length := List.length_pos_iff.2 hb0'
        refine (c_record b hbp (by omega)).mono fun r st e => ?_
        obtain ⟨rfl, rfl⟩ := e
        conv => whnf
        refine ⟨by rw [len8, rec_len]; simp; omega, ?_⟩
        conv => whnf
        rw [w64 (x := (i : Int) + 1) (by omega) (by omega)]
        refine kK _ _ ?_
        conv => whnf
        refine ⟨⟨i + 1, by omega, ?_, .inr ?_⟩, ?_⟩
        · intro x hx
          rcases htk x hx with h | h
          · exact hg x h
          · subst h
            exact hb0'
        · rw [hsucc, hi0, List.take_zero]
          rw [← by8_app]
          rfl
        · show l.length - ((i : Int) + 1).toNat < l.length - (i : Int).toNat
          omega
    · apply enter3
      intro kk kK
      conv => whnf
      refine Branch.of (fun h1 => ?_) (fun h1 => ?_) <;> rw [h1] <;> conv => whnf
      rotate_left
      · have h1 := of_decide_eq_false h1
        have e : i = l.length := by omega
        rw [e, List.take_length] at hg
        have hgg := good_all hg
        rw [if_neg (fun e => by rw [hgg] at e; cases e)] at hq
        refine kK _ _ ?_
        conv => whnf
        rw [List.length_map]
        by_cases hl0 : l = []
        · subst hl0
          rw [if_pos rfl] at hq
          subst hq
          conv => whnf
          refine ⟨false, [], ?_⟩
          conv => whnf
          exact ⟨rfl, .inl ⟨hb0, rfl⟩⟩
        rw [if_neg hl0] at hq
        refine Branch.no (by rw [beq_eq_false_iff_ne]; intro e; exact hl0 (List.eq_nil_of_length_eq_zero (by omega))) ?_
        conv => whnf
        rw [show l.take i = l by rw [e, List.take_length]]
        have hrl := recL_len l hb
        have ca := c_append0 k (recL l) hb0 hw (by omega)
        have har := app_armed k (recL l) hw
        have hae := app_e k (recL l)
        have hpd : putD k (recL l) = if (appP k (recL l)).2 = 0 then syncP (appP k (recL l)).1 else appP k (recL l) := rfl
        generalize putD k (recL l) = pd at hpd hq
        generalize appP k (recL l) = ap at ca har hae hpd
        obtain ⟨k2, e⟩ := ap
        simp only at har hae hpd
        have hsb := sync_b k2
        have hse := sync_e k2
        have hs0 := fun hb => c_sync0 k2 har.1 har.2 hb
        have hs1 := fun cap c2 L => c_sync1 k2 cap c2 L har.1 har.2
        refine ca.mono ?_
        rintro r st ⟨rfl, hP⟩
        by_cases he : e = 0
        · subst he
          rw [if_pos rfl] at hpd
          generalize syncP k2 = sp at hpd hsb hse hs0 hs1
          obtain ⟨k3, e3⟩ := sp
          subst hpd
          simp only at hsb hse hq
          rcases hP with ⟨hb2, rfl⟩ | ⟨cap, c2, L, hL2, rfl⟩
          · conv => whnf
            refine (hs0 hb2).mono fun r st e => ?_
            obtain ⟨rfl, rfl⟩ := e
            conv => whnf
            rcases hse with rfl | rfl
            · rw [if_neg (by decide)] at hq
              subst hq
              conv => whnf
              refine ⟨false, [], ?_⟩
              conv => whnf
              exact ⟨rfl, .inl ⟨hsb.trans hb2, rfl⟩⟩
            · rw [if_pos rfl] at hq
              subst hq
              conv => whnf
              rw [List.length_map, w64 (x := m + (l.length : Int)) (by omega) (by omega)]
              conv => whnf
              refine ⟨false, [], ?_⟩
              conv => whnf
              exact ⟨rfl, .inl ⟨hsb.trans hb2, rfl⟩⟩
          · conv => whnf
            refine (hs1 cap c2 L).mono fun r st e => ?_
            obtain ⟨rfl, rfl⟩ := e
            conv => whnf
            rcases hse with rfl | rfl
            · rw [if_neg (by decide)] at hq
              subst hq
              conv => whnf
              refine ⟨false, [2], ?_⟩
              conv => whnf
              exact ⟨rfl, .inr ⟨cap, c2, L, (by rw [hsb]; exact hL2), rfl⟩⟩
            · rw [if_pos rfl] at hq
              subst hq
              conv => whnf
              rw [List.length_map, w64 (x := m + (l.length : Int)) (by omega) (by omega)]
              conv => whnf
              refine ⟨false, [2], ?_⟩
              conv => whnf
              exact ⟨rfl, .inr ⟨cap, c2, L, (by rw [hsb]; exact hL2), rfl⟩⟩
        · rw [if_neg he] at hpd
          subst hpd
          simp only at hq
          rw [if_neg he] at hq
          subst hq
          rcases hP with ⟨hb2, rfl⟩ | ⟨cap, c2, L, hL2, rfl⟩
          · conv => whnf
            refine Branch.no (beq_eq_false_iff_ne.2 he) ?_
            conv => whnf
            refine Branch.no (beq_eq_false_iff_ne.2 he) ?_
            conv => whnf
            refine ⟨false, [], ?_⟩
            conv => whnf
            exact ⟨rfl, .inl ⟨hb2, rfl⟩⟩
          · conv => whnf
            refine Branch.no (beq_eq_false_iff_ne.2 he) ?_
            conv => whnf
            refine Branch.no (beq_eq_false_iff_ne.2 he) ?_
            conv => whnf
            refine ⟨false, [2], ?_⟩
            conv => whnf
            exact ⟨rfl, .inr ⟨cap, c2, L, hL2, rfl⟩⟩
      have h1 := of_decide_eq_true h1
      have ih : i < l.length := by omega
      have hmem : l[i] ∈ l := List.getElem_mem ih
      have hbi := hb l[i] hmem
      have hat := at_ro ih
      have hsucc := recL_succ ih
      have htk : ∀ b ∈ l.take (i + 1), b ∈ l.take i ∨ b = l[i] := by
        intro b hb
        rw [List.take_add_one, List.getElem?_eq_getElem ih] at hb
        rcases List.mem_append.1 hb with h | h
        · exact .inl h
        · exact .inr (List.mem_singleton.1 h)
      have hlt : (recL (l.take i)).length ≤ 1008 * i := by
        have := recL_len (l.take i) (fun b h => hb b (List.mem_of_mem_take h))
        rw [List.length_take, Nat.min_eq_left hi] at this
        exact this
      generalize l[i] = b at hmem hbi hat hsucc htk
      refine ⟨by omega, _, hat, ?_⟩
      conv => whnf
      by_cases hb0' : b = []
      · subst hb0'
        refine (c_record0).mono fun r st e => ?_
        obtain ⟨rfl, rfl⟩ := e
        conv => whnf
        refine kK _ _ ?_
        conv => whnf
        have e : q = (k, m, false, 1) := by rw [← hq, if_pos (good_bad hmem rfl)]
        subst e
        refine ⟨false, [], ?_⟩
        conv => whnf
        exact ⟨rfl, .inl ⟨hb0, rfl⟩⟩
      · have hbp : 0 < b.length := List.length_pos_iff.2 hb0'
        refine (c_record b hbp (by omega)).mono fun r st e => ?_
        obtain ⟨rfl, rfl⟩ := e
        conv => whnf
        refine ⟨by rw [len8, len8, rec_len]; omega, ?_⟩
        conv => whnf
        rw [w64 (x := (i : Int) + 1) (by omega) (by omega)]
        refine kK _ _ ?_
        conv => whnf
        refine ⟨⟨i + 1, by omega, ?_, .inr ?_⟩, ?_⟩
        · intro x hx
          rcases htk x hx with h | h
          · exact hg x h
          · subst h
            exact hb0'
        · rw [hsucc]
          rw [← by8_app]
          rfl
        · show l.length - ((i : Int) + 1).toNat < l.length - (i : Int).toNat
          omega
theorem c_put1 (k : Pk) (m : Int) (br : Bool) (l : List (List UInt8)) (cap c2 : Nat) (L : List AV) (hL : OKL k.b cap c2 L) (hw : WFk k) (hl : l.length ≤ 100) (hb : ∀ b ∈ l, b.length ≤ 1000) (hm0 : 0 ≤ m) (hm : m ≤ 1000000000) (q : Pk × Int × Bool × Int) (hq : putP k m br l = q) : FnOK Try.prog D 34 [.pt 0 [], .sl .lf (l.map fun b => (AV.sl .lf (by8 (b)) .ro)) .ro] [.st [.pt 1 [], (AV.sc (.int .i64 (m))), (AV.sc (.bool (br)))], (AV.st [.bs 2 [] .lf 0 (k).b.length cap, .sc (.int .i64 (k).sf), .sc (.int .i64 (k).room), .sc (.bool true), .sc (.int .i64 (k).armed), .sc (.bool (k).dead), .sl .lf (by8 (k).h) .ro]), .ar c2 .lf L] (fun r st => r = (AV.sc (.int .i64 (q.2.2.2))) ∧ PW1 q.1 q.2.1 q.2.2.1 st) := by
  cases br with
  | true =>
    have e : q = (k, m, true, 5) := by rw [← hq, putP, if_pos rfl]
    subst e
    refine fnok_of_W hmix tabOK Try.func34 rfl rfl (Nat.le_of_ble_eq_true rfl) ?_
    conv => whnf
    refine (c_wbroken1 k m true cap c2 L).mono fun r st e => ?_
    obtain ⟨rfl, rfl⟩ := e
    conv => whnf
    refine ⟨false, [], ?_⟩
    conv => whnf
    exact ⟨rfl, .inl ⟨cap, c2, L, hL, rfl⟩⟩
  | false =>
    have hq1 : putP k m false l = if goodL l = false then (k, m, false, 1) else if l = [] then (k, m, false, 0) else ((putD k (recL l)).1, (if (putD k (recL l)).2 = 0 then m + l.length else m), (putD k (recL l)).2 == 6, (putD k (recL l)).2) := rfl
    rw [hq1] at hq
    clear hq1
    refine fnok_of_W hmix tabOK Try.func34 rfl rfl (Nat.le_of_ble_eq_true rfl) ?_
    conv => whnf
    refine (c_wbroken1 k m false cap c2 L).mono fun r st e => ?_
    obtain ⟨rfl, rfl⟩ := e
    conv => whnf
    refine ⟨false, [0, 1, 13, 14, 15, 5], fun τ => ∃ i : Nat, i ≤ l.length ∧ (∀ b ∈ l.take i, b ≠ []) ∧ ((i = 0 ∧ τ = ⟨64, [(0, .pt 0 []), (1, .sl .lf (l.map fun b => (AV.sl .lf (by8 (b)) .ro)) .ro), (13, .sl .lf (l.map fun b => (AV.sl .lf (by8 (b)) .ro)) .ro), (14, (AV.sc (.int .i64 ((l.length : Int))))), (15, (AV.sc (.int .i64 ((i : Int))))), (5, .sl .lf [] .ex)], ⟨[(.st [.pt 1 [], (AV.sc (.int .i64 (m))), (AV.sc (.bool (false)))], false), ((AV.st [.bs 2 [] .lf 0 (k).b.length cap, .sc (.int .i64 (k).sf), .sc (.int .i64 (k).room), .sc (.bool true), .sc (.int .i64 (k).armed), .sc (.bool (k).dead), .sl .lf (by8 (k).h) .ro]), false), (.ar c2 .lf L, false)], [], 0⟩⟩) ∨ τ = ⟨64, [(0, .pt 0 []), (1, .sl .lf (l.map fun b => (AV.sl .lf (by8 (b)) .ro)) .ro), (13, .sl .lf (l.map fun b => (AV.sl .lf (by8 (b)) .ro)) .ro), (14, (AV.sc (.int .i64 ((l.length : Int))))), (15, (AV.sc (.int .i64 ((i : Int))))), (5, (AV.sl .lf (by8 ((recL (l.take i)))) (.own 0)))], ⟨[(.st [.pt 1 [], (AV.sc (.int .i64 (m))), (AV.sc (.bool (false)))], false), ((AV.st [.bs 2 [] .lf 0 (k).b.length cap, .sc (.int .i64 (k).sf), .sc (.int .i64 (k).room), .sc (.bool true), .sc (.int .i64 (k).armed), .sc (.bool (k).dead), .sl .lf (by8 (k).h) .ro]), false), (.ar c2 .lf L, false)], [0], 1⟩⟩), fun τ => l.length - (slotI τ 15).toNat, ?_, ?_⟩
    · conv => whnf
      rw [List.length_map]
      exact ⟨0, by omega, by simp, .inl ⟨rfl, rfl⟩⟩
    rintro τ ⟨i, hi, hg, h⟩
    rcases h with ⟨hi0, rfl⟩ | rfl
    · apply enter3
      intro kk kK
      conv => whnf
      refine Branch.of (fun h1 => ?_) (fun h1 => ?_) <;> rw [h1] <;> conv => whnf
      rotate_left
      · have h1 := of_decide_eq_false h1
        have e : i = l.length := by omega
        rw [e, List.take_length] at hg
        have hgg := good_all hg
        rw [if_neg (fun e => by rw [hgg] at e; cases e)] at hq
        refine kK _ _ ?_
        conv => whnf
        rw [List.length_map]
        have hl0 : l = [] := List.eq_nil_of_length_eq_zero (by omega)
        subst hl0
        rw [if_pos rfl] at hq
        subst hq
        conv => whnf
        refine ⟨false, [], ?_⟩
        conv => whnf
        exact ⟨rfl, .inl ⟨cap, c2, L, hL, rfl⟩⟩
      have h1 := of_decide_eq_true h1
      have ih : i < l.length := by omega
      have hmem : l[i] ∈ l := List.getElem_mem ih
      have hbi := hb l[i] hmem
      have hat := at_ro ih
      have hsucc := recL_succ ih
      have htk : ∀ b ∈ l.take (i + 1), b ∈ l.take i ∨ b = l[i] := by
        intro b hb
        rw [List.take_add_one, List.getElem?_eq_getElem ih] at hb
        rcases List.mem_append.1 hb with h | h
        · exact .inl h
        · exact .inr (List.mem_singleton.1 h)
      have hlt : (recL (l.take i)).length ≤ 1008 * i := by
        have := recL_len (l.take i) (fun b h => hb b (List.mem_of_mem_take h))
        rw [List.length_take, Nat.min_eq_left hi] at this
        exact this
      generalize l[i] = b at hmem hbi hat hsucc htk
      refine ⟨by omega, _, hat, ?_⟩
      conv => whnf
      by_cases hb0' : b = []
      · subst hb0'
        refine (c_record0).mono fun r st e => ?_
        obtain ⟨rfl, rfl⟩ := e
        conv => whnf
        refine kK _ _ ?_
        conv => whnf
        have e : q = (k, m, false, 1) := by rw [← hq, if_pos (good_bad hmem rfl)]
        subst e
        refine ⟨false, [], ?_⟩
        conv => whnf
        exact ⟨rfl, .inl ⟨cap, c2, L, hL, rfl⟩⟩
      · have hbp : 0 < b.length := List.length_pos_iff.2 hb0'
        refine (c_record b hbp (by omega)).mono fun r st e => ?_
        obtain ⟨rfl, rfl⟩ := e
        conv => whnf
        refine ⟨by rw [len8, rec_len]; simp; omega, ?_⟩
        conv => whnf
        rw [w64 (x := (i : Int) + 1) (by omega) (by omega)]
        refine kK _ _ ?_
        conv => whnf
        refine ⟨⟨i + 1, by omega, ?_, .inr ?_⟩, ?_⟩
        · intro x hx
          rcases htk x hx with h | h
          · exact hg x h
          · subst h
            exact hb0'
        · rw [hsucc, hi0, List.take_zero]
          rw [← by8_app]
          rfl
        · show l.length - ((i : Int) + 1).toNat < l.length - (i : Int).toNat
          omega
    · apply enter3
      intro kk kK
      conv => whnf
      refine Branch.of (fun h1 => ?_) (fun h1 => ?_) <;> rw [h1] <;> conv => whnf
      rotate_left
      · have h1 := of_decide_eq_false h1
        have e : i = l.length := by omega
        rw [e, List.take_length] at hg
        have hgg := good_all hg
        rw [if_neg (fun e => by rw [hgg] at e; cases e)] at hq
        refine kK _ _ ?_
        conv => whnf
        rw [List.length_map]
        by_cases hl0 : l = []
        · subst hl0
          rw [if_pos rfl] at hq
          subst hq
          conv => whnf
          refine ⟨false, [], ?_⟩
          conv => whnf
          exact ⟨rfl, .inl ⟨cap, c2, L, hL, rfl⟩⟩
        rw [if_neg hl0] at hq
        refine Branch.no (by rw [beq_eq_false_iff_ne]; intro e; exact hl0 (List.eq_nil_of_length_eq_zero (by omega))) ?_
        conv => whnf
        rw [show l.take i = l by rw [e, List.take_length]]
        have hrl := recL_len l hb
        have ca := c_append1 k (recL l) cap c2 L hL hw (by omega)
        have har := app_armed k (recL l) hw
        have hae := app_e k (recL l)
        have hpd : putD k (recL l) = if (appP k (recL l)).2 = 0 then syncP (appP k (recL l)).1 else appP k (recL l) := rfl
        generalize putD k (recL l) = pd at hpd hq
        generalize appP k (recL l) = ap at ca har hae hpd
        obtain ⟨k2, e⟩ := ap
        simp only at har hae hpd
        have hsb := sync_b k2
        have hse := sync_e k2
        have hs0 := fun hb => c_sync0 k2 har.1 har.2 hb
        have hs1 := fun cap c2 L => c_sync1 k2 cap c2 L har.1 har.2
        refine ca.mono ?_
        rintro r st ⟨rfl, hP⟩
        by_cases he : e = 0
        · subst he
          rw [if_pos rfl] at hpd
          generalize syncP k2 = sp at hpd hsb hse hs0 hs1
          obtain ⟨k3, e3⟩ := sp
          subst hpd
          simp only at hsb hse hq
          rcases hP with ⟨cap2, c3, L2, hL2, rfl⟩ | ⟨cap2, c3, L2, cj, Lj, hL2, rfl⟩ | ⟨hb2, cj, Lj, rfl⟩
          · conv => whnf
            refine (hs1 cap2 c3 L2).mono fun r st e => ?_
            obtain ⟨rfl, rfl⟩ := e
            conv => whnf
            rcases hse with rfl | rfl
            · rw [if_neg (by decide)] at hq
              subst hq
              conv => whnf
              refine ⟨false, [], ?_⟩
              conv => whnf
              exact ⟨rfl, .inl ⟨cap2, c3, L2, (by rw [hsb]; exact hL2), rfl⟩⟩
            · rw [if_pos rfl] at hq
              subst hq
              conv => whnf
              rw [List.length_map, w64 (x := m + (l.length : Int)) (by omega) (by omega)]
              conv => whnf
              refine ⟨false, [], ?_⟩
              conv => whnf
              exact ⟨rfl, .inl ⟨cap2, c3, L2, (by rw [hsb]; exact hL2), rfl⟩⟩
          · conv => whnf
            refine (hs1 cap2 c3 L2).mono fun r st e => ?_
            obtain ⟨rfl, rfl⟩ := e
            conv => whnf
            rcases hse with rfl | rfl
            · rw [if_neg (by decide)] at hq
              subst hq
              conv => whnf
              refine ⟨false, [3], ?_⟩
              conv => whnf
              exact ⟨rfl, .inr (.inl ⟨cap2, c3, L2, cj, Lj, (by rw [hsb]; exact hL2), rfl⟩)⟩
            · rw [if_pos rfl] at hq
              subst hq
              conv => whnf
              rw [List.length_map, w64 (x := m + (l.length : Int)) (by omega) (by omega)]
              conv => whnf
              refine ⟨false, [3], ?_⟩
              conv => whnf
              exact ⟨rfl, .inr (.inl ⟨cap2, c3, L2, cj, Lj, (by rw [hsb]; exact hL2), rfl⟩)⟩
          · conv => whnf
            refine (hs0 hb2).mono fun r st e => ?_
            obtain ⟨rfl, rfl⟩ := e
            conv => whnf
            rcases hse with rfl | rfl
            · rw [if_neg (by decide)] at hq
              subst hq
              conv => whnf
              refine ⟨false, [], ?_⟩
              conv => whnf
              exact ⟨rfl, .inr (.inr ⟨hsb.trans hb2, cj, Lj, rfl⟩)⟩
            · rw [if_pos rfl] at hq
              subst hq
              conv => whnf
              rw [List.length_map, w64 (x := m + (l.length : Int)) (by omega) (by omega)]
              conv => whnf
              refine ⟨false, [], ?_⟩
              conv => whnf
              exact ⟨rfl, .inr (.inr ⟨hsb.trans hb2, cj, Lj, rfl⟩)⟩
        · rw [if_neg he] at hpd
          subst hpd
          simp only at hq
          rw [if_neg he] at hq
          subst hq
          rcases hP with ⟨cap2, c3, L2, hL2, rfl⟩ | ⟨cap2, c3, L2, cj, Lj, hL2, rfl⟩ | ⟨hb2, cj, Lj, rfl⟩
          · conv => whnf
            refine Branch.no (beq_eq_false_iff_ne.2 he) ?_
            conv => whnf
            refine Branch.no (beq_eq_false_iff_ne.2 he) ?_
            conv => whnf
            refine ⟨false, [], ?_⟩
            conv => whnf
            exact ⟨rfl, .inl ⟨cap2, c3, L2, hL2, rfl⟩⟩
          · conv => whnf
            refine Branch.no (beq_eq_false_iff_ne.2 he) ?_
            conv => whnf
            refine Branch.no (beq_eq_false_iff_ne.2 he) ?_
            conv => whnf
            refine ⟨false, [3], ?_⟩
            conv => whnf
            exact ⟨rfl, .inr (.inl ⟨cap2, c3, L2, cj, Lj, hL2, rfl⟩)⟩
          · conv => whnf
            refine Branch.no (beq_eq_false_iff_ne.2 he) ?_
            conv => whnf
            refine Branch.no (beq_eq_false_iff_ne.2 he) ?_
            conv => whnf
            refine ⟨false, [], ?_⟩
            conv => whnf
            exact ⟨rfl, .inr (.inr ⟨hb2, cj, Lj, rfl⟩)⟩
      have h1 := of_decide_eq_true h1
      have ih : i < l.length := by omega
      have hmem : l[i] ∈ l := List.getElem_mem ih
      have hbi := hb l[i] hmem
      have hat := at_ro ih
      have hsucc := recL_succ ih
      have htk : ∀ b ∈ l.take (i + 1), b ∈ l.take i ∨ b = l[i] := by
        intro b hb
        rw [List.take_add_one, List.getElem?_eq_getElem ih] at hb
        rcases List.mem_append.1 hb with h | h
        · exact .inl h
        · exact .inr (List.mem_singleton.1 h)
      have hlt : (recL (l.take i)).length ≤ 1008 * i := by
        have := recL_len (l.take i) (fun b h => hb b (List.mem_of_mem_take h))
        rw [List.length_take, Nat.min_eq_left hi] at this
        exact this
      generalize l[i] = b at hmem hbi hat hsucc htk
      refine ⟨by omega, _, hat, ?_⟩
      conv => whnf
      by_cases hb0' : b = []
      · subst hb0'
        refine (c_record0).mono fun r st e => ?_
        obtain ⟨rfl, rfl⟩ := e
        conv => whnf
        refine kK _ _ ?_
        conv => whnf
        have e : q = (k, m, false, 1) := by rw [← hq, if_pos (good_bad hmem rfl)]
        subst e
        refine ⟨false, [], ?_⟩
        conv => whnf
        exact ⟨rfl, .inl ⟨cap, c2, L, hL, rfl⟩⟩
      · have hbp : 0 < b.length := List.length_pos_iff.2 hb0'
        refine (c_record b hbp (by omega)).mono fun r st e => ?_
        obtain ⟨rfl, rfl⟩ := e
        conv => whnf
        refine ⟨by rw [len8, len8, rec_len]; omega, ?_⟩
        conv => whnf
        rw [w64 (x := (i : Int) + 1) (by omega) (by omega)]
        refine kK _ _ ?_
        conv => whnf
        refine ⟨⟨i + 1, by omega, ?_, .inr ?_⟩, ?_⟩
        · intro x hx
          rcases htk x hx with h | h
          · exact hg x h
          · subst h
            exact hb0'
        · rw [hsucc]
          rw [← by8_app]
          rfl
        · show l.length - ((i : Int) + 1).toNat < l.length - (i : Int).toNat
          omega
end Go.WL.T5
