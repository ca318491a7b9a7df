/- Spoilt records: the walk. No condition. -/
import Derived.Test.YtdlgmddegldcjaaPart30
import Derived.Test.YtdlgmddegldcjaaPart31
set_option linter.unusedVariables false
set_option linter.unusedSimpArgs false
namespace Go.WL.T5
open Go.WL Go.Proofs
set_option maxRecDepth 20000
set_option maxHeartbeats 8000000
theorem any_step (ts : List UInt8) (i : Nat) (h : i < ts.length) : ((ts.take (i + 1)).any fun y => y != 0) = (((ts.take i).any fun y => y != 0) || (ts[i] != 0)) := by
  rw [List.take_add_one, List.getElem?_eq_getElem h, List.any_append]
  simp
theorem u8_ne (y : UInt8) : ((y.toNat : Int) != 0) = (y != 0) := by
  rw [Bool.eq_iff_iff, bne_iff_ne, bne_iff_ne]
  constructor
  · intro h e
    subst e
    exact h rfl
  · intro h e
    apply h
    apply UInt8.toNat_inj.1
    show y.toNat = 0
    omega
theorem sp_step (p : List (List UInt8)) (b : List UInt8) (q : List (List UInt8)) (g : Nat) (ts : List UInt8) (i : Nat) (hi : i < ts.length) (hb : g + i < b.length) (n : Int) (hn : n = ((recL p).length + 8 + (g + i) : Nat)) (room : Int) (sf : Int) :
    spoilP ⟨spoR p b (xorW b g (ts.take i)) q, sf, room, -1, false, []⟩ n ts[i] = ((⟨spoR p b (xorW b g (ts.take (i + 1))) q, sf, room, -1, false, []⟩ : Pk), (0 : Int)) := by
  obtain ⟨s1, s2⟩ := spoR_set p b (xorW b g (ts.take i)) q (g + i) ((xorW b g (ts.take i)).getD (g + i) 0 ^^^ ts[i]) (by rw [xorW_len]; exact hb)
  have hl := spoR_len p b (xorW b g (ts.take i)) q
  rw [xorW_len] at hl
  unfold spoilP
  rw [if_neg (by simp), if_neg (by simp only [hl, hn]; omega)]
  subst hn
  simp only [Int.toNat_natCast, s2]
  rw [s1, ← xorW_step b g ts i hi hb]
theorem walk_spoilt (l : List (List UInt8)) (k : Nat) (hk : k + 1 < l.length) (hg : ∀ b ∈ l, 0 < b.length ∧ b.length ≤ 60) (ts : List UInt8) (i g : Nat) (hgl : g + i ≤ l[k].length) (h4 : ts.length = 4) (hi : i ≤ 4) (hlen : (recL l).length ≤ 10000) (e : Int) (he : e = if ((ts.take i).any fun y => y != 0) = true then 10 else 0) (A : List UInt8) (hA : A = spoR (l.take k) l[k] (xorW l[k] g (ts.take i)) (l.drop (k + 1))) :
    openP ⟨A, ((recL l).length : Int), 10000, -1, false, []⟩ = ((⟨A, ((recL l).length : Int), 10000, -1, false, []⟩ : Pk), e) ∧ A.length = (recL l).length := by
  have hsplit : l = l.take k ++ l[k] :: l.drop (k + 1) := by
    rw [List.getElem_cons_drop, List.take_append_drop]
  have hmem : l[k] ∈ l := List.getElem_mem (by omega)
  have hq : ∃ r q, l.drop (k + 1) = r :: q ∧ r ∈ l := by
    refine ⟨l[k + 1], l.drop (k + 2), ?_, List.getElem_mem hk⟩
    rw [List.getElem_cons_drop]
  obtain ⟨r, q, hq, hr⟩ := hq
  have hlenA : A.length = (recL l).length := by
    rw [hA, spoR_len, xorW_len]
    conv => rhs; rw [hsplit]
    rw [recL_app, recL_cons, List.length_append, List.length_append, rec_len]
    omega
  refine ⟨?_, hlenA⟩
  cases hs : (ts.take i).any fun y => y != 0 with
  | true =>
    rw [hs, if_pos rfl] at he
    subst he
    rw [hq] at hA
    obtain ⟨s1, s2⟩ := spoR_bad (l.take k) l[k] (xorW l[k] g (ts.take i)) r q (fun x hx => by have := hg x (List.mem_of_mem_take hx); omega) (xorW_len _ _ _) (hg _ hmem).1 (by have := hg _ hmem; omega) (hg r hr).1 (by have := hg r hr; omega) (xorW_chk _ _ _ _ (by rw [List.length_take]; omega) (by rw [List.length_take]; omega) (by
      obtain ⟨y, hy, h⟩ := List.any_eq_true.1 hs
      exact ⟨y, hy, by simpa using h⟩))
    rw [← hA] at s1 s2
    have : (recL (l.take k)).length < A.length := by
      rw [hA, spoR_len]
      omega
    unfold openP
    rw [if_neg (by simp), s1, if_pos this, if_pos s2]
  | false =>
    rw [hs, if_neg (by simp)] at he
    subst he
    rw [xorW_none _ _ _ (fun y hy => by
      have := List.any_eq_false.1 hs y hy
      simpa using this), spoR_same, ← hsplit] at hA
    subst hA
    unfold openP
    rw [if_neg (by simp), recsB_all l (fun x hx => by have := hg x hx; omega), if_neg (by simp)]
    rfl
end Go.WL.T5
