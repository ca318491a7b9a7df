/- Attestations: which there may be, what is tagged: the program's. No condition. -/
import Derived.Test.YtmpnboonjpcmpaaDoorPart14
import Derived.Test.YtmpnboonjpcmpaaDoorPart26
set_option linter.unusedVariables false
set_option linter.unusedSimpArgs false
namespace Go.WL.T7
open Go.WL Go.Proofs
set_option maxRecDepth 20000
set_option maxHeartbeats 8000000
structure At where
  by_ : Int
  k : Int
  v : Int
  ph : Int
  h : List UInt8
  pv : Int
  pg : List UInt8
  tag : List UInt8
  deriving DecidableEq
abbrev At.wf (a : At) : Prop := a.h.length = 32 ∧ a.pg.length = 32 ∧ a.tag.length = 32
@[irreducible] def mayA (a : At) : Bool := decide (1 ≤ a.by_ ∧ a.by_ ≤ 21) && decide (1 ≤ a.k ∧ a.k ≤ 3) && decide (a.ph = a.k) && decide (1 ≤ a.v ∧ a.v ≤ 1099511627776) && decide (0 ≤ a.pv) && decide (a.pv < a.v ∨ (a.k = 3 ∧ a.pv = a.v))
theorem mayA_eq (a : At) : mayA a = (decide (1 ≤ a.by_ ∧ a.by_ ≤ 21) && decide (1 ≤ a.k ∧ a.k ≤ 3) && decide (a.ph = a.k) && decide (1 ≤ a.v ∧ a.v ≤ 1099511627776) && decide (0 ≤ a.pv) && decide (a.pv < a.v ∨ (a.k = 3 ∧ a.pv = a.v))) := by unfold mayA; rfl
theorem c_acheck (a : At) : FnOK Tryd.prog D 166 [(AV.st [.sc (.int .i64 (a).by_), .sc (.int .i64 (a).k), .sc (.int .i64 (a).v), .sc (.int .i64 (a).ph), .ar 32 .lf (by8 (a).h), .sc (.int .i64 (a).pv), .ar 32 .lf (by8 (a).pg), .ar 32 .lf (by8 (a).tag)])] [] (fun r st => r = (AV.sc (.int .i64 (if mayA a = true then 0 else 1))) ∧ st = []) := by
  have hw : 1 ≤ a.v → a.v ≤ 1099511627776 → IntKind.i64.wrap (a.v - 1) = a.v - 1 := fun h1 h2 => w64 (by omega) (by omega)
  have hn : isNode a.by_ = (decide (1 ≤ a.by_) && decide (a.by_ ≤ 21)) := rfl
  refine fnok_of_W hmix tabOK Tryd.func166 rfl rfl (Nat.le_of_ble_eq_true rfl) ?_
  conv => whnf
  generalize IntKind.i64.wrap (a.v - 1) = top at hw
  repeat' (first
    | (refine (c_node _).mono fun r st e => ?_
       obtain ⟨rfl, rfl⟩ := e
       conv => whnf)
    | (refine And.intro (by omega) ?_
       conv => whnf)
    | (refine Branch.of (fun h => ?_) (fun h => ?_) <;> (rw [h]; conv => whnf)))
  all_goals refine ⟨false, [], ?_⟩
  all_goals conv => whnf
  all_goals refine ⟨?_, rfl⟩
  all_goals rw [mayA_eq]
  all_goals congr 2
  all_goals (try simp_all)
  all_goals first | done | omega | (intros; omega) | (rw [Bool.eq_iff_iff]; simp only [Bool.and_eq_true, Bool.or_eq_true, Bool.not_eq_true', decide_eq_true_eq, decide_eq_false_iff_not, beq_iff_eq]; omega)
/-- What is tagged. -/
def attN (k v ph : Nat) : Nat → List UInt8
  | 0 => []
  | 1 => num k
  | 2 => num k ++ num v
  | _ => num k ++ num v ++ num ph
theorem attN_len (k v ph : Nat) (hk : k ≤ 3) (hv : v ≤ 1099511627776) (hp : ph ≤ 3) (i : Nat) : (attN k v ph i).length ≤ 18 := by
  have l1 := len6 v hv
  have l2 := len6 k (by omega)
  have l3 := len6 ph (by omega)
  unfold attN
  split <;> (try simp only [List.length_append, List.length_nil]) <;> omega
def attB (k v ph pv : Nat) (h pg : List UInt8) : List UInt8 := attN k v ph 3 ++ h ++ num pv ++ pg
theorem attB_len (k v ph pv : Nat) (h pg : List UInt8) (hk : k ≤ 3) (hv : v ≤ 1099511627776) (hp : ph ≤ 3) (hpv : pv ≤ 1099511627776) (hh : h.length = 32) (hg : pg.length = 32) : (attB k v ph pv h pg).length ≤ 88 := by
  have l1 := len6 pv hpv
  have l2 := attN_len k v ph hk hv hp 3
  unfold attB
  simp only [List.length_append]
  omega
theorem c_atagged (y k v ph pv : Nat) (h pg tag : List UInt8) (hk : k ≤ 3) (hv : v ≤ 1099511627776) (hp : ph ≤ 3) (hpv : pv ≤ 1099511627776) (hh : h.length = 32) (hg : pg.length = 32) :
    FnOK Tryd.prog D 168 [.sl .lf [] .ex, .st [(AV.sc (.int .i64 ((y : Int)))), (AV.sc (.int .i64 ((k : Int)))), (AV.sc (.int .i64 ((v : Int)))), (AV.sc (.int .i64 ((ph : Int)))), .ar 32 .lf (by8 h), (AV.sc (.int .i64 ((pv : Int)))), .ar 32 .lf (by8 pg), .ar 32 .lf (by8 tag)]] [] (fun r st => r = (AV.sl .lf (by8 (attB k v ph pv h pg)) (.own 0)) ∧ st = []) := by
  have low : ∀ m : Nat, m ≤ 1099511627776 → IntKind.u64.wrap (m : Int) = (m : Int) := fun m h => wu64 (by omega) (by omega)
  have hcl := attN_len k v ph hk hv hp
  refine fnok_of_W hmix tabOK Tryd.func168 rfl rfl (Nat.le_of_ble_eq_true rfl) ?_
  conv => whnf
  refine ⟨true, [0, 3, 13, 14, 15], fun τ => ∃ (i : Nat) (c : List UInt8), i ≤ 3 ∧ c = attN k v ph i ∧ τ = ⟨35, [(0, (AV.sl .lf (by8 (c)) (.own 0))), (3, .pt 0 []), (13, .sl .lf [(AV.sc (.int .i64 ((k : Int)))), (AV.sc (.int .i64 ((v : Int)))), (AV.sc (.int .i64 ((ph : Int))))] (.own 1)), (14, (AV.sc (.int .i64 (3)))), (15, (AV.sc (.int .i64 ((i : Int)))))], ⟨[(.st [(AV.sc (.int .i64 ((y : Int)))), (AV.sc (.int .i64 ((k : Int)))), (AV.sc (.int .i64 ((v : Int)))), (AV.sc (.int .i64 ((ph : Int)))), .ar 32 .lf (by8 h), (AV.sc (.int .i64 ((pv : Int)))), .ar 32 .lf (by8 pg), .ar 32 .lf (by8 tag)], false)], [0, 1], 2⟩⟩, fun τ => 3 - (slotI τ 15).toNat, ?_, ?_⟩
  · conv => whnf
    exact ⟨0, _, by omega, rfl, rfl⟩
  rintro τ ⟨i, c, hi, hc, rfl⟩
  have hcl := hcl i
  rw [← hc] at hcl
  conv => whnf
  refine Branch.of (fun h1 => ?_) (fun h1 => ?_) <;> rw [h1] <;> conv => whnf
  · simp only [decide_eq_true_eq] at h1
    have hi4 : i = 0 ∨ i = 1 ∨ i = 2 := by omega
    rcases hi4 with rfl | rfl | rfl
    · repeat (refine And.intro (by first | omega) ?_; conv => whnf)
      refine ⟨_, (show [(AV.sc (.int .i64 ((k : Int)))), (AV.sc (.int .i64 ((v : Int)))), (AV.sc (.int .i64 ((ph : Int))))][((0 : Nat) : Int).toNat]? = some (AV.sc (.int .i64 ((k : Int)))) from rfl), ?_⟩
      conv => whnf
      rw [low k (by omega)]
      refine (c_num c k (by omega) (by omega) (.inr rfl)).mono fun r st e => ?_
      obtain ⟨rfl, rfl⟩ := e
      conv => whnf
      exact ⟨⟨1, _, by omega, by rw [hc]; rfl, rfl⟩, (by show (2 : Nat) < 3; decide)⟩
    · repeat (refine And.intro (by first | omega) ?_; conv => whnf)
      refine ⟨_, (show [(AV.sc (.int .i64 ((k : Int)))), (AV.sc (.int .i64 ((v : Int)))), (AV.sc (.int .i64 ((ph : Int))))][((1 : Nat) : Int).toNat]? = some (AV.sc (.int .i64 ((v : Int)))) from rfl), ?_⟩
      conv => whnf
      rw [low v hv]
      refine (c_num c v (by omega) (by omega) (.inr rfl)).mono fun r st e => ?_
      obtain ⟨rfl, rfl⟩ := e
      conv => whnf
      exact ⟨⟨2, _, by omega, by rw [hc]; rfl, rfl⟩, (by show (1 : Nat) < 2; decide)⟩
    · repeat (refine And.intro (by first | omega) ?_; conv => whnf)
      refine ⟨_, (show [(AV.sc (.int .i64 ((k : Int)))), (AV.sc (.int .i64 ((v : Int)))), (AV.sc (.int .i64 ((ph : Int))))][((2 : Nat) : Int).toNat]? = some (AV.sc (.int .i64 ((ph : Int)))) from rfl), ?_⟩
      conv => whnf
      rw [low ph (by omega)]
      refine (c_num c ph (by omega) (by omega) (.inr rfl)).mono fun r st e => ?_
      obtain ⟨rfl, rfl⟩ := e
      conv => whnf
      exact ⟨⟨3, _, by omega, by rw [hc]; rfl, rfl⟩, (by show (0 : Nat) < 1; decide)⟩
  · simp only [decide_eq_false_iff_not] at h1
    obtain rfl : i = 3 := by omega
    have l1 := len6 pv hpv
    refine ⟨tabF168R6, by decide +kernel, ?_⟩
    conv => whnf
    refine ⟨_, _, (c_hash0 c h (by omega) hh), ?_⟩
    conv => whnf
    rw [low pv hpv]
    refine ⟨_, _, (c_num (c ++ h) pv (by rw [List.length_append]; omega) (by omega) (m := .ro) (.inr rfl)), ?_⟩
    conv => whnf
    refine ⟨_, _, (c_hash0 (c ++ h ++ num pv) pg (by simp only [List.length_append]; omega) hg), ?_⟩
    conv => whnf
    refine ⟨false, [], ?_⟩
    conv => whnf
    refine ⟨?_, rfl⟩
    rw [hc]
    rfl
theorem mayA_facts {a : At} (h : mayA a = true) : (1 ≤ a.by_ ∧ a.by_ ≤ 21) ∧ (1 ≤ a.k ∧ a.k ≤ 3) ∧ a.ph = a.k ∧ (1 ≤ a.v ∧ a.v ≤ 1099511627776) ∧ 0 ≤ a.pv ∧ (a.pv < a.v ∨ (a.k = 3 ∧ a.pv = a.v)) := by
  rw [mayA_eq] at h
  simp only [Bool.and_eq_true, decide_eq_true_eq] at h
  obtain ⟨⟨⟨⟨⟨h1, h2⟩, h3⟩, h4⟩, h5⟩, h6⟩ := h
  exact ⟨h1, h2, h3, h4, h5, h6⟩
def attOf (a : At) : List UInt8 := attB a.k.toNat a.v.toNat a.ph.toNat a.pv.toNat a.h a.pg
def rightA (a : At) : Bool := mayA a && (a.tag == tagB a.by_ 1 (attOf a))
theorem attOf_len {a : At} (hw : a.wf) (hm : mayA a = true) : (attOf a).length ≤ 88 := by
  obtain ⟨h1, h2, h3, h4, h5, h6⟩ := mayA_facts hm
  exact attB_len _ _ _ _ _ _ (by omega) (by omega) (by omega) (by omega) hw.1 hw.2.1
theorem c_ataggedA (a : At) (hw : a.wf) (hm : mayA a = true) : FnOK Tryd.prog D 168 [.sl .lf [] .ex, (AV.st [.sc (.int .i64 (a).by_), .sc (.int .i64 (a).k), .sc (.int .i64 (a).v), .sc (.int .i64 (a).ph), .ar 32 .lf (by8 (a).h), .sc (.int .i64 (a).pv), .ar 32 .lf (by8 (a).pg), .ar 32 .lf (by8 (a).tag)])] [] (fun r st => r = (AV.sl .lf (by8 (attOf a)) (.own 0)) ∧ st = []) := by
  obtain ⟨h1, h2, h3, h4, h5, h6⟩ := mayA_facts hm
  obtain ⟨y, k, v, ph, h, pv, pg, tag⟩ := a
  simp only at h1 h2 h3 h4 h5 h6
  obtain ⟨y, rfl⟩ := Int.eq_ofNat_of_zero_le (show 0 ≤ y by omega)
  obtain ⟨k, rfl⟩ := Int.eq_ofNat_of_zero_le (show 0 ≤ k by omega)
  obtain ⟨v, rfl⟩ := Int.eq_ofNat_of_zero_le (show 0 ≤ v by omega)
  obtain ⟨ph, rfl⟩ := Int.eq_ofNat_of_zero_le (show 0 ≤ ph by omega)
  obtain ⟨pv, rfl⟩ := Int.eq_ofNat_of_zero_le h5
  exact c_atagged y k v ph pv h pg tag (by omega) (by omega) (by omega) (by omega) hw.1 hw.2.1
theorem c_aright_aux (a : At) (T : List UInt8) (m b : Bool)
    (ck : FnOK Tryd.prog D 166 [(AV.st [.sc (.int .i64 (a).by_), .sc (.int .i64 (a).k), .sc (.int .i64 (a).v), .sc (.int .i64 (a).ph), .ar 32 .lf (by8 (a).h), .sc (.int .i64 (a).pv), .ar 32 .lf (by8 (a).pg), .ar 32 .lf (by8 (a).tag)])] [] (fun r st => r = (AV.sc (.int .i64 (if m = true then 0 else 1))) ∧ st = []))
    (ct : m = true → FnOK Tryd.prog D 168 [.sl .lf [] .ex, (AV.st [.sc (.int .i64 (a).by_), .sc (.int .i64 (a).k), .sc (.int .i64 (a).v), .sc (.int .i64 (a).ph), .ar 32 .lf (by8 (a).h), .sc (.int .i64 (a).pv), .ar 32 .lf (by8 (a).pg), .ar 32 .lf (by8 (a).tag)])] [] (fun r st => r = (AV.sl .lf (by8 (T)) (.own 0)) ∧ st = []))
    (cc : m = true → FnOK Tryd.prog D 167 [(AV.sc (.int .i64 (a.by_))), (AV.sc (.int .u8 (1))), .ar 32 .lf (by8 a.tag), .sl .lf [(AV.sl .lf (by8 (T)) .ro)] .ex] [] (fun r st => r = (AV.sc (.bool (b))) ∧ st = [])) :
    FnOK Tryd.prog D 134 [(AV.st [.sc (.int .i64 (a).by_), .sc (.int .i64 (a).k), .sc (.int .i64 (a).v), .sc (.int .i64 (a).ph), .ar 32 .lf (by8 (a).h), .sc (.int .i64 (a).pv), .ar 32 .lf (by8 (a).pg), .ar 32 .lf (by8 (a).tag)])] [] (fun r st => r = (AV.sc (.bool (m && b))) ∧ st = []) := by
  refine fnok_of_W hmix tabOK Tryd.func134 rfl rfl (Nat.le_of_ble_eq_true rfl) ?_
  conv => whnf
  refine ⟨tabF134R1, by decide +kernel, ?_⟩
  conv => whnf
  refine ⟨_, _, ck, ?_⟩
  conv => whnf
  cases m with
  | false =>
    conv => whnf
    refine ⟨false, [], ?_⟩
    conv => whnf
    exact ⟨rfl, rfl⟩
  | true =>
    conv => whnf
    refine ⟨_, _, ct rfl, ?_⟩
    conv => whnf
    refine ⟨_, _, cc rfl, ?_⟩
    conv => whnf
    refine ⟨false, [], ?_⟩
    conv => whnf
    exact ⟨rfl, rfl⟩
theorem c_aright (a : At) (hw : a.wf) : FnOK Tryd.prog D 134 [(AV.st [.sc (.int .i64 (a).by_), .sc (.int .i64 (a).k), .sc (.int .i64 (a).v), .sc (.int .i64 (a).ph), .ar 32 .lf (by8 (a).h), .sc (.int .i64 (a).pv), .ar 32 .lf (by8 (a).pg), .ar 32 .lf (by8 (a).tag)])] [] (fun r st => r = (AV.sc (.bool (rightA a))) ∧ st = []) := by
  unfold rightA
  refine c_aright_aux a (attOf a) (mayA a) _ (c_acheck a) (fun hm => c_ataggedA a hw hm) (fun hm => ?_)
  obtain ⟨h1, _⟩ := mayA_facts hm
  have hn : isNode a.by_ = true := by unfold isNode; simp [h1]
  have := attOf_len hw hm
  exact c_check a.by_ 1 a.tag [attOf a] _ hw.2.2 (by simp) (by simp; omega) (fun _ => by simp) (fun h => by rw [hn] at h; simp at h) (.inl rfl) (Weaks.refl _)
/-! ### The reference's -/
theorem c_amayR (a : At) : FnOK Tryd.prog D 169 [(AV.st [.sc (.int .i64 (a).by_), .sc (.int .i64 (a).k), .sc (.int .i64 (a).v), .sc (.int .i64 (a).ph), .ar 32 .lf (by8 (a).h), .sc (.int .i64 (a).pv), .ar 32 .lf (by8 (a).pg), .ar 32 .lf (by8 (a).tag)])] [] (fun r st => r = (AV.sc (.bool (mayA a))) ∧ st = []) := by
  refine fnok_of_W hmix tabOK Tryd.func169 rfl rfl (Nat.le_of_ble_eq_true rfl) ?_
  conv => whnf
  repeat' (first
    | (refine And.intro (by omega) ?_
       conv => whnf)
    | (refine Branch.of (fun h => ?_) (fun h => ?_) <;> (rw [h]; conv => whnf)))
  all_goals refine ⟨false, [], ?_⟩
  all_goals conv => whnf
  all_goals refine ⟨?_, rfl⟩
  all_goals rw [mayA_eq]
  all_goals congr 2
  all_goals (try simp_all)
  all_goals first | done | omega | (intros; omega) | (rw [Bool.eq_iff_iff]; simp only [Bool.and_eq_true, Bool.or_eq_true, Bool.not_eq_true', decide_eq_true_eq, decide_eq_false_iff_not, beq_iff_eq]; omega)
theorem c_ataggedR (y k v ph pv : Nat) (h pg tag : List UInt8) (hk : k ≤ 3) (hv : v ≤ 1099511627776) (hp : ph ≤ 3) (hpv : pv ≤ 1099511627776) (hh : h.length = 32) (hg : pg.length = 32) :
    FnOK Tryd.prog D 186 [.st [(AV.sc (.int .i64 ((y : Int)))), (AV.sc (.int .i64 ((k : Int)))), (AV.sc (.int .i64 ((v : Int)))), (AV.sc (.int .i64 ((ph : Int)))), .ar 32 .lf (by8 h), (AV.sc (.int .i64 ((pv : Int)))), .ar 32 .lf (by8 pg), .ar 32 .lf (by8 tag)]] [] (fun r st => r = (AV.sl .lf (by8 (attB k v ph pv h pg)) (.own 0)) ∧ st = []) := by
  have low : ∀ m : Nat, m ≤ 1099511627776 → IntKind.u64.wrap (m : Int) = (m : Int) := fun m h => wu64 (by omega) (by omega)
  have low8 : ∀ m : Nat, m ≤ 3 → IntKind.u8.wrap (m : Int) = ((UInt8.ofNat m).toNat : Int) := fun m h => by
    rw [wu8 (by omega) (by omega), UInt8.toNat_ofNat']; omega
  have l1 := len6 v hv
  have l2 := len6 pv hpv
  refine fnok_of_W hmix tabOK Tryd.func186 rfl rfl (Nat.le_of_ble_eq_true rfl) ?_
  conv => whnf
  refine ⟨tabF186R1, by decide +kernel, ?_⟩
  conv => whnf
  rw [low8 k hk, low v hv]
  refine ⟨_, _, c_refnum v (by omega), ?_⟩
  conv => whnf
  refine And.intro (by rw [len8]; show 1 + _ < _; omega) ?_
  conv => whnf
  rw [show [(AV.sc (.int .u8 (((UInt8.ofNat k).toNat : Int))))] ++ by8 (num v) = by8 (UInt8.ofNat k :: num v) from rfl]
  refine ⟨tabF186R2, by decide +kernel, ?_⟩
  conv => whnf
  rw [low8 ph hp]
  refine And.intro (by rw [len8, List.length_cons]; show _ + 1 < _; omega) ?_
  conv => whnf
  rw [show [(AV.sc (.int .u8 (((UInt8.ofNat ph).toNat : Int))))] = by8 [UInt8.ofNat ph] from rfl, by8_ap]
  refine ⟨_, _, c_bytes7 h hh, ?_⟩
  conv => whnf
  refine And.intro (by rw [len8, len8, List.length_append, List.length_cons, List.length_singleton]; omega) ?_
  conv => whnf
  rw [by8_ap, low pv hpv]
  refine (c_refnum pv (by omega)).mono fun r st e => ?_
  obtain ⟨rfl, rfl⟩ := e
  conv => whnf
  refine And.intro (by simp only [len8, List.length_append, List.length_cons, List.length_nil]; omega) ?_
  conv => whnf
  rw [by8_ap]
  refine (c_bytes7 pg hg).mono fun r st e => ?_
  obtain ⟨rfl, rfl⟩ := e
  conv => whnf
  refine And.intro (by simp only [len8, List.length_append, List.length_cons, List.length_nil]; omega) ?_
  conv => whnf
  rw [by8_ap]
  refine ⟨false, [], ?_⟩
  conv => whnf
  refine ⟨?_, rfl⟩
  congr 2
  unfold attB attN
  rw [num_low (show k < 128 by omega), num_low (show ph < 128 by omega)]
  simp
theorem c_ataggedRA (a : At) (hw : a.wf) (hm : mayA a = true) : FnOK Tryd.prog D 186 [(AV.st [.sc (.int .i64 (a).by_), .sc (.int .i64 (a).k), .sc (.int .i64 (a).v), .sc (.int .i64 (a).ph), .ar 32 .lf (by8 (a).h), .sc (.int .i64 (a).pv), .ar 32 .lf (by8 (a).pg), .ar 32 .lf (by8 (a).tag)])] [] (fun r st => r = (AV.sl .lf (by8 (attOf a)) (.own 0)) ∧ st = []) := by
  obtain ⟨h1, h2, h3, h4, h5, h6⟩ := mayA_facts hm
  obtain ⟨y, k, v, ph, h, pv, pg, tag⟩ := a
  simp only at h1 h2 h3 h4 h5 h6
  obtain ⟨y, rfl⟩ := Int.eq_ofNat_of_zero_le (show 0 ≤ y by omega)
  obtain ⟨k, rfl⟩ := Int.eq_ofNat_of_zero_le (show 0 ≤ k by omega)
  obtain ⟨v, rfl⟩ := Int.eq_ofNat_of_zero_le (show 0 ≤ v by omega)
  obtain ⟨ph, rfl⟩ := Int.eq_ofNat_of_zero_le (show 0 ≤ ph by omega)
  obtain ⟨pv, rfl⟩ := Int.eq_ofNat_of_zero_le h5
  exact c_ataggedR y k v ph pv h pg tag (by omega) (by omega) (by omega) (by omega) hw.1 hw.2.1
theorem c_atagR_aux (a : At) (T G : List UInt8) (hG : G.length = 32) (ct : FnOK Tryd.prog D 186 [(AV.st [.sc (.int .i64 (a).by_), .sc (.int .i64 (a).k), .sc (.int .i64 (a).v), .sc (.int .i64 (a).ph), .ar 32 .lf (by8 (a).h), .sc (.int .i64 (a).pv), .ar 32 .lf (by8 (a).pg), .ar 32 .lf (by8 (a).tag)])] [] (fun r st => r = (AV.sl .lf (by8 (T)) (.own 0)) ∧ st = []))
    (cg : FnOK Tryd.prog D 185 [(AV.sc (.int .i64 (a.by_))), (AV.sc (.int .u8 (1))), (AV.sl .lf (by8 (T)) .ro)] [] (fun r st => r = .ar 32 .lf (by8 G) ∧ st = [])) :
    FnOK Tryd.prog D 170 [(AV.st [.sc (.int .i64 (a).by_), .sc (.int .i64 (a).k), .sc (.int .i64 (a).v), .sc (.int .i64 (a).ph), .ar 32 .lf (by8 (a).h), .sc (.int .i64 (a).pv), .ar 32 .lf (by8 (a).pg), .ar 32 .lf (by8 (a).tag)])] [] (fun r st => r = .ar 32 .lf (by8 G) ∧ st = []) := by
  refine fnok_of_W hmix tabOK Tryd.func170 rfl rfl (Nat.le_of_ble_eq_true rfl) ?_
  conv => whnf
  refine ⟨tabF170R1, by decide +kernel, ?_⟩
  conv => whnf
  refine ⟨_, _, ct, ?_⟩
  conv => whnf
  refine ⟨_, _, cg, ?_⟩
  conv => whnf
  refine ⟨false, [], ?_⟩
  conv => whnf
  exact ⟨rfl, rfl⟩
theorem c_atagR (a : At) (hw : a.wf) (hm : mayA a = true) : FnOK Tryd.prog D 170 [(AV.st [.sc (.int .i64 (a).by_), .sc (.int .i64 (a).k), .sc (.int .i64 (a).v), .sc (.int .i64 (a).ph), .ar 32 .lf (by8 (a).h), .sc (.int .i64 (a).pv), .ar 32 .lf (by8 (a).pg), .ar 32 .lf (by8 (a).tag)])] [] (fun r st => r = .ar 32 .lf (by8 (tagB a.by_ 1 (attOf a))) ∧ st = []) := by
  have := attOf_len hw hm
  exact c_atagR_aux a (attOf a) _ (tagB_len _ _ _) (c_ataggedRA a hw hm) (c_tagR a.by_ 1 (attOf a) (by omega))
theorem c_arightR_aux (a : At) (G : List UInt8) (m : Bool)
    (ck : FnOK Tryd.prog D 169 [(AV.st [.sc (.int .i64 (a).by_), .sc (.int .i64 (a).k), .sc (.int .i64 (a).v), .sc (.int .i64 (a).ph), .ar 32 .lf (by8 (a).h), .sc (.int .i64 (a).pv), .ar 32 .lf (by8 (a).pg), .ar 32 .lf (by8 (a).tag)])] [] (fun r st => r = (AV.sc (.bool (m))) ∧ st = []))
    (ct : m = true → FnOK Tryd.prog D 170 [(AV.st [.sc (.int .i64 (a).by_), .sc (.int .i64 (a).k), .sc (.int .i64 (a).v), .sc (.int .i64 (a).ph), .ar 32 .lf (by8 (a).h), .sc (.int .i64 (a).pv), .ar 32 .lf (by8 (a).pg), .ar 32 .lf (by8 (a).tag)])] [] (fun r st => r = .ar 32 .lf (by8 G) ∧ st = [])) :
    FnOK Tryd.prog D 138 [(AV.st [.sc (.int .i64 (a).by_), .sc (.int .i64 (a).k), .sc (.int .i64 (a).v), .sc (.int .i64 (a).ph), .ar 32 .lf (by8 (a).h), .sc (.int .i64 (a).pv), .ar 32 .lf (by8 (a).pg), .ar 32 .lf (by8 (a).tag)])] [] (fun r st => r = (AV.sc (.bool (m && (a.tag == G)))) ∧ st = []) := by
  refine fnok_of_W hmix tabOK Tryd.func138 rfl rfl (Nat.le_of_ble_eq_true rfl) ?_
  conv => whnf
  refine ⟨tabF138R1, by decide +kernel, ?_⟩
  conv => whnf
  refine ⟨_, _, ck, ?_⟩
  conv => whnf
  cases m with
  | false =>
    conv => whnf
    refine ⟨false, [], ?_⟩
    conv => whnf
    exact ⟨rfl, rfl⟩
  | true =>
    conv => whnf
    refine ⟨_, _, ct rfl, ?_⟩
    conv => whnf
    refine ⟨a.tag, G, rfl, rfl, ?_⟩
    conv => whnf
    refine ⟨false, [], ?_⟩
    conv => whnf
    exact ⟨rfl, rfl⟩
theorem c_arightR (a : At) (hw : a.wf) : FnOK Tryd.prog D 138 [(AV.st [.sc (.int .i64 (a).by_), .sc (.int .i64 (a).k), .sc (.int .i64 (a).v), .sc (.int .i64 (a).ph), .ar 32 .lf (by8 (a).h), .sc (.int .i64 (a).pv), .ar 32 .lf (by8 (a).pg), .ar 32 .lf (by8 (a).tag)])] [] (fun r st => r = (AV.sc (.bool (rightA a))) ∧ st = []) :=
  c_arightR_aux a _ (mayA a) (c_amayR a) (fun hm => c_atagR a hw hm)
end Go.WL.T7
