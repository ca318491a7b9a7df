/- What is kept behind a crash: in plain words. No condition. -/
import Derived.Test.YtdlgmddegldcjaaPart35
set_option linter.unusedVariables false
set_option linter.unusedSimpArgs false
namespace Go.WL.T5
open Go.WL Go.Proofs
set_option maxRecDepth 20000
def Good (K : List (List UInt8)) : Prop := ∀ b ∈ K, 0 < b.length ∧ b.length ≤ 100
theorem Good.app {K L : List (List UInt8)} (h : Good K) (g : Good L) : Good (K ++ L) := by
  intro b hb
  rcases List.mem_append.1 hb with hb | hb
  · exact h b hb
  · exact g b hb
theorem Good.take {K : List (List UInt8)} (h : Good K) (n : Nat) : Good (K.take n) := fun b hb => h b (List.mem_of_mem_take hb)
theorem Good.len {K : List (List UInt8)} (h : Good K) : (recL K).length ≤ 108 * K.length := by
  induction K with
  | nil => simp [recL]
  | cons b K ih =>
    have := ih fun x hx => h x (List.mem_cons_of_mem _ hx)
    have hb := h b (by simp)
    rw [recL_cons, List.length_append, rec_len, List.length_cons]
    omega
theorem Good.big {K : List (List UInt8)} (h : Good K) : ∀ b ∈ K, 0 < b.length ∧ b.length ≤ 65536 := fun b hb => by have := h b hb; omega
/-- A disk that lives, with these records and no others. -/
structure FK (k : Pk) (K : List (List UInt8)) : Prop where
  b : k.b = recL K
  sf : k.sf = (recL K).length
  h : k.h = []
  dead : k.dead = false
  room : k.room = 1048576
  a1 : -1 ≤ k.armed
  a2 : k.armed < 9223372036854775808
  good : Good K
  many : K.length ≤ 150
/-- A disk with these records, and perhaps others of which some, or a part, may be lost. -/
structure GK (k : Pk) (K T : List (List UInt8)) : Prop where
  b : k.b ++ k.h = recL (K ++ T)
  sf : k.sf = (recL K).length
  le : (recL K).length ≤ k.b.length
  live : k.dead = false → T = [] ∧ k.h = []
  room : k.room = 1048576
  a1 : -1 ≤ k.armed
  a2 : k.armed < 9223372036854775808
  good : Good K
  goodT : Good T
  many : K.length ≤ 150
  manyT : T.length ≤ 5
theorem FK.wf {k : Pk} {K : List (List UInt8)} (h : FK k K) : WFk k := by
  have := h.good.len
  have := h.many
  have hb := congrArg List.length h.b
  refine ⟨by rw [h.room]; decide, by rw [h.room]; decide, by rw [h.room]; omega, by rw [h.sf]; omega, by rw [h.sf]; omega, h.a1, h.a2⟩
theorem GK.wf {k : Pk} {K T : List (List UInt8)} (h : GK k K T) : WFk k ∧ ((k.b.length + k.h.length : Nat) : Int) ≤ 1048576 := by
  have := (h.good.app h.goodT).len
  have := h.many
  have := h.manyT
  have := h.le
  have hb := congrArg List.length h.b
  rw [List.length_append] at hb
  rw [List.length_append] at *
  exact ⟨⟨by rw [h.room]; decide, by rw [h.room]; decide, by rw [h.room]; omega, by rw [h.sf]; omega, by rw [h.sf]; omega, h.a1, h.a2⟩, by omega⟩
theorem FK.gk {k : Pk} {K : List (List UInt8)} (h : FK k K) : GK k K [] :=
  ⟨by rw [h.b, h.h, List.append_nil, List.append_nil], h.sf, by rw [h.b]; exact Nat.le_refl _, fun _ => ⟨rfl, h.h⟩, h.room, h.a1, h.a2, h.good, fun b hb => by simp at hb, h.many, by simp⟩
theorem GK.fk {k : Pk} {K T : List (List UInt8)} (h : GK k K T) (hd : k.dead = false) : FK k K ∧ T = [] := by
  obtain ⟨rfl, hh⟩ := h.live hd
  have hb := h.b
  rw [hh, List.append_nil, List.append_nil] at hb
  exact ⟨⟨hb, h.sf, hh, hd, h.room, h.a1, h.a2, h.good, h.many⟩, rfl⟩
theorem FK.arm {k : Pk} {K : List (List UInt8)} (h : FK k K) (n : Int) (hn : n < 9223372036854775808) : FK {k with armed := max n (-1)} K :=
  ⟨h.b, h.sf, h.h, h.dead, h.room, by show -1 ≤ max n (-1); omega, by show max n (-1) < _; omega, h.good, h.many⟩
theorem step_live {k : Pk} (hd : k.dead = false) : ((stepP k).2 = true ∧ ∃ a, (stepP k).1 = {k with armed := a} ∧ (-1 ≤ k.armed → k.armed < 9223372036854775808 → -1 ≤ a ∧ a < 9223372036854775808)) ∨ ((stepP k).2 = false ∧ (stepP k).1 = {k with dead := true}) := by
  unfold stepP
  split
  · exact .inr ⟨rfl, rfl⟩
  · split
    · exact .inl ⟨rfl, _, rfl, fun h1 h2 => by omega⟩
    · exact .inl ⟨rfl, k.armed, rfl, fun h1 h2 => ⟨h1, h2⟩⟩
/-- What putting makes of a disk that lives. -/
theorem put_facts {k : Pk} {K L : List (List UInt8)} (h : FK k K) (hL : ∀ b ∈ L, b.length ≤ 100) (h5 : L.length ≤ 5) (h150 : K.length + L.length ≤ 150) :
    (FK (putP k K.length false L).1 (K ++ L) ∧ (putP k K.length false L).2 = (((K ++ L).length : Int), false, 0)) ∨
    (GK (putP k K.length false L).1 K L ∧ (putP k K.length false L).1.dead = true ∧ (putP k K.length false L).2 = ((K.length : Int), true, 6)) ∨
    (∃ e, ¬ e = 0 ∧ ¬ e = 6 ∧ putP k K.length false L = (k, (K.length : Int), false, e)) := by
  unfold putP
  rw [if_neg (by simp)]
  by_cases hg : goodL L = false
  · rw [if_pos hg]
    exact .inr (.inr ⟨1, by decide, by decide, rfl⟩)
  rw [if_neg hg]
  by_cases h0 : L = []
  · rw [if_pos h0]
    subst h0
    left
    rw [List.append_nil]
    exact ⟨h, rfl⟩
  rw [if_neg h0]
  have hgL : Good L := by
    intro b hb
    refine ⟨?_, hL b hb⟩
    have : goodL L = true := by simpa using hg
    unfold goodL at this
    rw [List.all_eq_true] at this
    have := this b hb
    cases b with
    | nil => simp at this
    | cons x xs => simp
  have lK := h.good.len
  have lL := hgL.len
  have hlb := congrArg List.length h.b
  have hrl := recL_ne h0
  have happ : appP k (recL L) = if (stepP k).2 = true then ({(stepP k).1 with b := k.b ++ recL L}, 0) else ({(stepP k).1 with h := recL L}, 6) := by
    unfold appP
    rw [if_neg (by rw [h.dead]; simp), if_neg (by rw [h.room]; omega), if_neg hrl]
  rcases step_live h.dead with ⟨s1, a, s2, s3⟩ | ⟨s1, s2⟩
  · rw [if_pos s1, s2] at happ
    obtain ⟨a1, a2⟩ := s3 h.a1 h.a2
    have hpd : putD k (recL L) = syncP {k with armed := a, b := k.b ++ recL L} := by
      unfold putD
      rw [happ]
      rfl
    have hsy : syncP {k with armed := a, b := k.b ++ recL L} = if (stepP {k with armed := a, b := k.b ++ recL L}).2 = true then ({(stepP {k with armed := a, b := k.b ++ recL L}).1 with sf := ((k.b ++ recL L).length : Int)}, 0) else ((stepP {k with armed := a, b := k.b ++ recL L}).1, 6) := by
      unfold syncP
      rw [if_neg (by simp only [h.dead]; simp)]
    rcases step_live (k := {k with armed := a, b := k.b ++ recL L}) h.dead with ⟨t1, a', t2, t3⟩ | ⟨t1, t2⟩
    · rw [if_pos t1, t2] at hsy
      obtain ⟨b1, b2⟩ := t3 a1 a2
      left
      rw [hpd, hsy]
      refine ⟨⟨?_, ?_, h.h, h.dead, h.room, b1, b2, h.good.app hgL, by rw [List.length_append]; omega⟩, ?_⟩
      · show k.b ++ recL L = recL (K ++ L)
        rw [recL_app, h.b]
      · show (((k.b ++ recL L).length : Nat) : Int) = _
        rw [recL_app, h.b]
      · simp
    · rw [if_neg (by rw [t1]; simp), t2] at hsy
      right; left
      rw [hpd, hsy]
      refine ⟨⟨?_, h.sf, ?_, fun e => Bool.noConfusion e, h.room, a1, a2, h.good, hgL, h.many, h5⟩, rfl, rfl⟩
      · show (k.b ++ recL L) ++ k.h = recL (K ++ L)
        rw [h.h, List.append_nil, recL_app, h.b]
      · show _ ≤ (k.b ++ recL L).length
        rw [List.length_append]
        omega
  · rw [if_neg (by rw [s1]; simp), s2] at happ
    have hpd : putD k (recL L) = ({k with dead := true, h := recL L}, 6) := by
      unfold putD
      rw [happ]
      rfl
    right; left
    rw [hpd]
    refine ⟨⟨?_, h.sf, ?_, fun e => Bool.noConfusion e, h.room, h.a1, h.a2, h.good, hgL, h.many, h5⟩, rfl, rfl⟩
    · show k.b ++ recL L = recL (K ++ L)
      rw [recL_app, h.b]
    · show _ ≤ k.b.length
      omega
theorem take_over {A B : List UInt8} {n : Int} (h0 : 0 ≤ n) : ∃ m : Nat, (A ++ B).take (((A.length : Nat) : Int) + n).toNat = A ++ B.take m := by
  refine ⟨n.toNat, ?_⟩
  rw [show (((A.length : Nat) : Int) + n).toNat = A.length + n.toNat by omega, List.take_append, List.take_of_length_le (by omega), Nat.add_sub_cancel_left]
/-- Behind a crash: all records that were kept, some of the others, and a beginning of one more. -/
theorem crash_facts {k : Pk} {K T : List (List UInt8)} (h : GK k K T) (n : Int) : ∃ (j : Nat) (t : List UInt8), j ≤ T.length ∧ (crashP k n).b = recL (K ++ T.take j) ++ t ∧ (nxt t).2.2 = 3 ∧ (crashP k n).sf = ((crashP k n).b.length : Int) ∧
    (crashP k n).dead = false ∧ (crashP k n).armed = -1 ∧ (crashP k n).h = [] ∧ (crashP k n).room = 1048576 ∧ ((crashP k n).b.length : Int) ≤ 1048576 := by
  obtain ⟨hw, hh⟩ := h.wf
  have hle : (recL K).length ≤ (k.b ++ k.h).length := by rw [List.length_append]; have := h.le; omega
  have hlen : ((k.b ++ k.h).length : Int) ≤ 1048576 := by rw [List.length_append]; exact hh
  have hm : 0 ≤ min (max n 0) (((k.b ++ k.h).length : Int) - k.sf) := by rw [h.sf]; omega
  have hmb : k.sf + min (max n 0) (((k.b ++ k.h).length : Int) - k.sf) ≤ ((k.b ++ k.h).length : Int) := by omega
  have hb : (crashP k n).b = (k.b ++ k.h).take (k.sf + min (max n 0) (((k.b ++ k.h).length : Int) - k.sf)).toNat := rfl
  have hs : (crashP k n).sf = k.sf + min (max n 0) (((k.b ++ k.h).length : Int) - k.sf) := rfl
  have hs0 := h.sf
  generalize min (max n 0) (((k.b ++ k.h).length : Int) - k.sf) = m at hm hmb hb hs
  have hl : (crashP k n).b.length = (k.sf + m).toNat := by
    rw [hb, List.length_take]
    omega
  obtain ⟨q, hq⟩ := take_over (A := recL K) (B := recL T) hm
  rw [h.b, recL_app, h.sf, hq] at hb
  obtain ⟨j, t, k1, k2, k3⟩ := pre_recs T q h.goodT.big
  refine ⟨j, t, k1, ?_, k3, ?_, rfl, rfl, rfl, h.room, ?_⟩
  · rw [hb, k2, recL_app, List.append_assoc]
  · rw [hl, hs]
    omega
  · rw [hl]
    omega
theorem step_un {k : Pk} (ha : k.armed = -1) : stepP k = (k, true) := by
  unfold stepP
  rw [if_neg (by rw [ha]; decide), if_neg (by rw [ha]; decide)]
theorem sync_live {k : Pk} (hd : k.dead = false) (ha : k.armed = -1) : syncP k = ({k with sf := k.b.length}, 0) := by
  unfold syncP
  rw [if_neg (by rw [hd]; simp), step_un ha, if_pos rfl]
theorem cut_live {k : Pk} (hd : k.dead = false) (ha : k.armed = -1) (n : Nat) (hn : n ≤ k.b.length) : cutP k (n : Int) = ({k with b := k.b.take n, sf := n}, 0) := by
  unfold cutP
  rw [if_neg (by rw [hd]; simp), if_neg (by omega), step_un ha, if_pos rfl]
  rfl
/-- What it opens with. -/
theorem open_facts {k : Pk} {M : List (List UInt8)} {t : List UInt8} (hb : k.b = recL M ++ t) (ht : (nxt t).2.2 = 3) (hs : k.sf = k.b.length) (hd : k.dead = false) (ha : k.armed = -1) (hh : k.h = []) (hr : k.room = 1048576) (hg : Good M) (hM : M.length ≤ 150) :
    (openP k).2 = 0 ∧ (recsB k.b).1 = M ∧ FK (openP k).1 M := by
  have hrec : recsB k.b = (M, (recL M).length) := by
    rw [hb, recsB_app M t hg.big, recsB_stop (by rw [ht]; decide)]
    simp
  have hl := congrArg List.length hb
  rw [List.length_append] at hl
  have ho : openP k = ({k with b := recL M, sf := ((recL M).length : Int)}, 0) := by
    unfold openP
    rw [if_neg (by rw [hd]; simp), hrec]
    by_cases h1 : (recL M).length < k.b.length
    · rw [if_pos h1, show spoB (k.b.drop (M, (recL M).length).2) = false by rw [hb, List.drop_left]; exact spoB_pre ht, if_neg (by simp), show cutP k (((M, (recL M).length).2 : Nat) : Int) = _ from cut_live hd ha (recL M).length (by omega), if_pos rfl]
      have e : k.b.take (recL M).length = recL M := by rw [hb, List.take_left]
      rw [e]
      exact sync_live hd ha
    · rw [if_neg h1, sync_live hd ha]
      have ht0 : t = [] := List.eq_nil_of_length_eq_zero (by omega)
      rw [ht0, List.append_nil] at hb
      rw [hb, ← hb]
  rw [ho, hrec]
  exact ⟨rfl, rfl, ⟨rfl, rfl, hh, hd, hr, by show -1 ≤ k.armed; omega, by show k.armed < _; omega, hg, hM⟩⟩
end Go.WL.T5
