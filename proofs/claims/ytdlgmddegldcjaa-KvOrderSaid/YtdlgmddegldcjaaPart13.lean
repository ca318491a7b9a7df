/- Pairs: the theorems of keys and of order. No condition. -/
import Derived.Test.YtdlgmddegldcjaaPart12
set_option linter.unusedVariables false
set_option linter.unusedSimpArgs false
namespace Go.WL.T5
open Go.WL Go.Proofs
set_option maxRecDepth 20000
set_option maxHeartbeats 8000000
theorem kput_ok {l : List Pr} {k v : List UInt8} (h : (kvPut l k v).2 = 0) : mayP okKey l = true ∧ okKey k = true ∧ v.length ≤ 40 ∧ (dropL Pr.key l k).length < 100 ∧ (kvPut l k v).1 = puL Pr.key slt l ⟨k, v⟩ := by
  unfold kvPut at h ⊢
  split at h
  · rename_i c
    rw [if_pos c]
    split at h
    · cases h
    · rename_i d
      rw [if_neg d]
      split at h
      · cases h
      · rename_i e
        rw [if_neg e]
        exact ⟨c.1, c.2, by omega, by omega, rfl⟩
  · cases h
theorem may_put {l : List Pr} {k v : List UInt8} (h : mayP okKey l = true) (hk : okKey k = true) (hv : v.length ≤ 40) (hd : (dropL Pr.key l k).length < 100) : mayP okKey (puL Pr.key slt l ⟨k, v⟩) = true := by
  obtain ⟨h1, h2, h3⟩ := (mayP_iff _ _).1 h
  refine (mayP_iff _ _).2 ⟨?_, fun x hx => ?_, Srt.put sLin h3⟩
  · have := put_len (x := (⟨k, v⟩ : Pr)) h3
    dsimp only at this
    omega
  · rcases (mem_put sLin).1 hx with rfl | ⟨hx, _⟩
    · unfold mayP1
      rw [hk, decide_eq_true hv]
      rfl
    · exact h2 x hx
theorem may_drop {l : List Pr} {k : List UInt8} (h : mayP okKey l = true) : mayP okKey (dropL Pr.key l k) = true := by
  obtain ⟨h1, h2, h3⟩ := (mayP_iff _ _).1 h
  exact (mayP_iff _ _).2 ⟨Nat.le_trans (List.length_filter_le _ _) h1, fun x hx => h2 x (List.mem_filter.1 hx).1, h3.filter⟩
theorem get_kput {l : List Pr} {k v j : List UInt8} (h : (kvPut l k v).2 = 0) : kvGet (kvPut l k v).1 j = if k = j then (v, true) else kvGet l j := by
  obtain ⟨h1, h2, h3, h4, h5⟩ := kput_ok h
  have hs := ((mayP_iff _ _).1 h1).2.2
  rw [h5]
  unfold kvGet
  rw [may_put h1 h2 h3 h4, if_pos rfl, h1, if_pos rfl, get_put sLin hs]
  by_cases e : k = j
  · rw [if_pos e, if_pos e]
  · rw [if_neg e, if_neg e]
theorem kdrop_ok {l : List Pr} {k : List UInt8} (h : (kvDrop l k).2 = 0) : mayP okKey l = true ∧ (kvDrop l k).1 = dropL Pr.key l k := by
  unfold kvDrop at h ⊢
  split at h
  · rename_i c
    rw [if_pos c]
    split at h
    · rename_i d
      rw [if_pos d]
      exact ⟨c, rfl⟩
    · cases h
  · cases h
theorem get_kdrop {l : List Pr} {k j : List UInt8} (h : (kvDrop l k).2 = 0) : kvGet (kvDrop l k).1 j = if k = j then ([], false) else kvGet l j := by
  obtain ⟨h1, h5⟩ := kdrop_ok h
  have hs := ((mayP_iff _ _).1 h1).2.2
  rw [h5]
  unfold kvGet
  rw [may_drop h1, if_pos rfl, h1, if_pos rfl, get_drop sLin hs]
  by_cases e : k = j
  · rw [if_pos e, if_pos e]
  · rw [if_neg e, if_neg e]
theorem drop_put {l : List Pr} {x : Pr} {j : List UInt8} (hs : srtP l) (hn : x.key ≠ j) : dropL Pr.key (puL Pr.key slt l x) j = puL Pr.key slt (dropL Pr.key l j) x := by
  refine srt_ext sLin (Srt.put sLin hs).filter (Srt.put sLin hs.filter) fun y => ?_
  rw [mem_drop, mem_put sLin, mem_put sLin, mem_drop]
  constructor
  · rintro ⟨rfl | ⟨h1, h2⟩, h3⟩
    · exact .inl rfl
    · exact .inr ⟨⟨h1, h3⟩, h2⟩
  · rintro (rfl | ⟨⟨h1, h2⟩, h3⟩)
    · exact ⟨.inl rfl, hn⟩
    · exact ⟨.inr ⟨h1, h3⟩, h2⟩
theorem drop_drop (l : List Pr) (j k : List UInt8) : dropL Pr.key (dropL Pr.key l j) k = dropL Pr.key (dropL Pr.key l k) j := by
  unfold dropL
  rw [List.filter_filter, List.filter_filter]
  congr 1
  funext x
  rw [Bool.and_comm]
/-- Two unlike keys, put in either order. -/
theorem kput_order {l : List Pr} {p q : Pr} (hn : p.key ≠ q.key) (h1 : (kvPut l p.key p.val).2 = 0) (h2 : (kvPut l q.key q.val).2 = 0) :
    kvPut (kvPut l p.key p.val).1 q.key q.val = kvPut (kvPut l q.key q.val).1 p.key p.val ∧ ((kvPut (kvPut l p.key p.val).1 q.key q.val).2 = 0 ∨ l.length = 99) := by
  obtain ⟨a1, a2, a3, a4, a5⟩ := kput_ok h1
  obtain ⟨b1, b2, b3, b4, b5⟩ := kput_ok h2
  obtain ⟨hl, _, hs⟩ := (mayP_iff _ _).1 a1
  rw [a5, b5]
  have m1 := may_put a1 a2 a3 a4
  have m2 := may_put b1 b2 b3 b4
  have d1 := drop_put (x := (⟨p.key, p.val⟩ : Pr)) (j := q.key) hs hn
  have d2 := drop_put (x := (⟨q.key, q.val⟩ : Pr)) (j := p.key) hs (fun e => hn e.symm)
  have l1 := put_len (l := dropL Pr.key l q.key) (x := (⟨p.key, p.val⟩ : Pr)) hs.filter
  have l2 := put_len (l := dropL Pr.key l p.key) (x := (⟨q.key, q.val⟩ : Pr)) hs.filter
  dsimp only at l1 l2
  rw [drop_drop] at l2
  rw [← d1] at l1
  rw [← d2] at l2
  have e1 : kvPut (puL Pr.key slt l ⟨p.key, p.val⟩) q.key q.val = if (dropL Pr.key (dropL Pr.key l q.key) p.key).length + 1 ≥ 100 then ([], 4) else (puL Pr.key slt (puL Pr.key slt l ⟨p.key, p.val⟩) ⟨q.key, q.val⟩, 0) := by
    unfold kvPut
    rw [if_pos ⟨m1, b2⟩, if_neg (by omega), l1]
  have e2 : kvPut (puL Pr.key slt l ⟨q.key, q.val⟩) p.key p.val = if (dropL Pr.key (dropL Pr.key l q.key) p.key).length + 1 ≥ 100 then ([], 4) else (puL Pr.key slt (puL Pr.key slt l ⟨q.key, q.val⟩) ⟨p.key, p.val⟩, 0) := by
    unfold kvPut
    rw [if_pos ⟨m2, a2⟩, if_neg (by omega), l2]
  rw [e1, e2]
  have f1 := drop_len (l := dropL Pr.key l q.key) (k := p.key) hs.filter
  have f2 := drop_len (l := l) (k := q.key) hs
  have f3 := drop_len (l := l) (k := p.key) hs
  have f4 : (getL Pr.key (dropL Pr.key l q.key) p.key).isSome = (getL Pr.key l p.key).isSome := by rw [get_drop sLin hs, if_neg (fun e => hn e.symm)]
  rw [f4] at f1
  refine ⟨by rw [put_comm sLin (x := (⟨p.key, p.val⟩ : Pr)) (y := (⟨q.key, q.val⟩ : Pr)) hs hn], ?_⟩
  by_cases c : (dropL Pr.key (dropL Pr.key l q.key) p.key).length + 1 ≥ 100
  · right
    cases g1 : (getL Pr.key l p.key).isSome <;> cases g2 : (getL Pr.key l q.key).isSome <;> simp only [g1, g2, if_true, Bool.false_eq_true, if_false] at f1 f2 f3 <;> omega
  · left
    rw [if_neg c]
end Go.WL.T5
