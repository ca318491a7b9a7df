/- Which block bytes are, by the reference. No condition. -/
import Derived.Test.YtmpnboonjpcmpaaDoorPart26
set_option linter.unusedVariables false
set_option linter.unusedSimpArgs false
namespace Go.WL.T7
open Go.WL Go.Proofs
set_option maxRecDepth 20000
set_option maxHeartbeats 8000000
def hsh (s : RS) : List UInt8 × RS := ((rhash s.1 s.2).1, (rhash s.1 s.2).2.1, (rhash s.1 s.2).2.2)
theorem hsh_len (s : RS) : (hsh s).1.length = 32 ∧ (hsh s).2.1.length ≤ s.1.length := by
  unfold hsh rhash
  split
  · simp
  · rename_i c
    simp only [not_or, Nat.not_lt] at c
    simp only [List.length_take, List.length_drop]
    omega
def rdTxs : Nat → RS → Option (List Tx × RS)
  | 0, s => some ([], s)
  | n + 1, s => if readOK s = true then (rdTxs n (rawF s).2).map fun x => ((rawF s).1 :: x.1, x.2) else none
theorem rawF_len (s : RS) : (rawF s).2.1.length ≤ s.1.length := by
  have u := up_len
  have x := fun s => (tex_len s).1
  have a := u s 40
  have b := u (up s 40).2 1099511627776
  have c := u (up (up s 40).2 1099511627776).2 3
  unfold rawF
  simp only
  split
  · have d := u (up (up (up s 40).2 1099511627776).2 3).2 40
    have e := u (up (up (up (up s 40).2 1099511627776).2 3).2 40).2 1099511627776
    simp only
    omega
  · split
    · have d := x (up (up (up s 40).2 1099511627776).2 3).2
      have e := x (tex (up (up (up s 40).2 1099511627776).2 3).2).2
      simp only
      omega
    · split
      · have d := x (up (up (up s 40).2 1099511627776).2 3).2
        simp only
        omega
      · simp only
        omega
theorem up_wrong {s : RS} (top : Int) (h : s.2 = true) : (up s top).2.2 = true := by
  unfold up rupto
  rw [if_pos (.inl h)]
theorem tex_wrong {s : RS} (h : s.2 = true) : (tex s).2.2 = true := by
  unfold tex rtext
  rw [if_pos (.inl h)]
theorem raw_wrong {s : RS} (h : s.2 = true) : (rawF s).2.2 = true := by
  have c := up_wrong 3 (up_wrong 1099511627776 (up_wrong 40 h))
  unfold rawF
  simp only
  split
  · exact up_wrong _ (up_wrong _ c)
  · split
    · exact tex_wrong (tex_wrong c)
    · split
      · exact tex_wrong c
      · exact c
def rawB (s : RS) : Option (Bl × RS) :=
  let a := hsh s
  let b := up a.2 1099511627776
  let c := up b.2 1099511627776
  let d := up c.2 21
  let e := up d.2 8
  (rdTxs e.1 e.2).map fun x => (⟨a.1, b.1, c.1, d.1, x.1⟩, x.2)
def getB (T : List UInt8) : Bl × Bool := match rawB (T, false) with
  | some (b, z) => if z.2 = false ∧ z.1 = [] ∧ mayB b = true then (b, true) else (b0, false)
  | none => (b0, false)
theorem rdTxs_facts : ∀ (n : Nat) (s : RS) (l : List Tx) (z : RS), rdTxs n s = some (l, z) → l.length = n ∧ (∀ t ∈ l, mayT t = true) ∧ s.1 = txsB l ++ z.1 ∧ (0 < n → s.2 = false ∧ z.2 = false)
  | 0, s, l, z, h => by
    obtain ⟨rfl, rfl⟩ : [] = l ∧ s = z := by simpa [rdTxs] using h
    simp [txsB]
  | n + 1, s, l, z, h => by
    unfold rdTxs at h
    by_cases hok : readOK s = true
    · rw [if_pos hok] at h
      obtain ⟨x, hx, e⟩ := Option.map_eq_some_iff.1 h
      obtain ⟨rfl, rfl⟩ := Prod.mk.inj e
      have ih := rdTxs_facts n _ x.1 x.2 hx
      have rb := read_back hok
      have hw : (rawF s).2.2 = false := by
        unfold readOK at hok
        simp only [Bool.and_eq_true, Bool.not_eq_true'] at hok
        exact hok.1
      refine ⟨by simp [ih.1], fun t ht => ?_, ?_, fun _ => ⟨?_, ?_⟩⟩
      · rcases List.mem_cons.1 ht with rfl | ht
        · exact rb.1
        · exact ih.2.1 t ht
      · rw [rb.2, ih.2.2.1]
        show _ = txB (rawF s).1 ++ txsB x.1 ++ x.2.1
        rw [List.append_assoc]
      · cases hs : s.2
        · rfl
        · exfalso
          unfold readOK at hok
          simp only [Bool.and_eq_true, Bool.not_eq_true'] at hok
          have : (rawF s).2.2 = true := raw_wrong hs
          rw [this] at hok
          simp at hok
      · rcases Nat.eq_zero_or_pos n with h0 | h0
        · subst h0
          obtain ⟨_, e2⟩ : [] = x.1 ∧ (rawF s).2 = x.2 := by
            have : some (([] : List Tx), (rawF s).2) = some x := hx
            have := Option.some.inj this
            exact ⟨congrArg Prod.fst this, congrArg Prod.snd this⟩
          rw [← e2]
          exact hw
        · exact (ih.2.2.2 h0).2
    · rw [if_neg hok] at h
      cases h
end Go.WL.T7
namespace Go.WL.T7
open Go.WL Go.Proofs
set_option maxRecDepth 20000
set_option maxHeartbeats 8000000
def hshR (B : List UInt8) (s : PS) : List UInt8 × PS := ((fhash B s.1 s.2).1, (fhash B s.1 s.2).2.1, (fhash B s.1 s.2).2.2)
theorem hsh_rs (B : List UInt8) (s : PS) : hsh (rs B s) = ((hshR B s).1, rs B (hshR B s).2) := by
  unfold hsh hshR rs
  rw [fhash_rhash]
def rdTxsR (B : List UInt8) : Nat → PS → Option (List Tx × PS)
  | 0, s => some ([], s)
  | n + 1, s => if readOK (rs B s) = true then (rdTxsR B n (rawR B s).2).map fun x => ((rawR B s).1 :: x.1, x.2) else none
theorem rdTxs_rs (B : List UInt8) : ∀ (n : Nat) (s : PS), rdTxs n (rs B s) = (rdTxsR B n s).map fun x => (x.1, rs B x.2)
  | 0, s => rfl
  | n + 1, s => by
    unfold rdTxs rdTxsR
    by_cases h : readOK (rs B s) = true
    · rw [if_pos h, if_pos h, raw_rs]
      simp only
      rw [rdTxs_rs B n]
      cases rdTxsR B n (rawR B s).2 <;> rfl
    · rw [if_neg h, if_neg h]
      rfl
/-- What is read is what is put: all of it. -/
theorem rawB_back {T : List UInt8} {b : Bl} {z : RS} (h : rawB (T, false) = some (b, z)) (hz : z.2 = false) : T = blB b ++ z.1 ∧ b.p.length = 32 := by
  have e : rawB (T, false) = (rdTxs (up (up (up (up (hsh (T, false)).2 1099511627776).2 1099511627776).2 21).2 8).1 (up (up (up (up (hsh (T, false)).2 1099511627776).2 1099511627776).2 21).2 8).2).map fun x => (⟨(hsh (T, false)).1, (up (hsh (T, false)).2 1099511627776).1, (up (up (hsh (T, false)).2 1099511627776).2 1099511627776).1, (up (up (up (hsh (T, false)).2 1099511627776).2 1099511627776).2 21).1, x.1⟩, x.2) := rfl
  rw [e] at h
  obtain ⟨x, hx, ex⟩ := Option.map_eq_some_iff.1 h
  obtain ⟨rfl, rfl⟩ := Prod.mk.inj ex
  obtain ⟨f1, f2, f3, f4⟩ := rdTxs_facts _ _ x.1 x.2 hx
  have hw : (up (up (up (up (hsh (T, false)).2 1099511627776).2 1099511627776).2 21).2 8).2.2 = false := by
    rcases Nat.eq_zero_or_pos (up (up (up (up (hsh (T, false)).2 1099511627776).2 1099511627776).2 21).2 8).1 with h0 | h0
    · rw [h0] at hx
      have : some (([] : List Tx), (up (up (up (up (hsh (T, false)).2 1099511627776).2 1099511627776).2 21).2 8).2) = some x := hx
      have := congrArg Prod.snd (Option.some.inj this)
      simp only at this
      rw [this]
      exact hz
    · exact (f4 h0).1
  obtain ⟨a1, a2⟩ := up_back hw
  obtain ⟨b1, b2⟩ := up_back a1
  obtain ⟨d1, d2⟩ := up_back b1
  obtain ⟨e1, e2⟩ := up_back d1
  have hh : T = (hsh (T, false)).1 ++ (hsh (T, false)).2.1 := by
    unfold hsh rhash at e1 ⊢
    split at e1
    · simp at e1
    · rename_i c
      rw [if_neg c]
      exact (List.take_append_drop 32 T).symm
  refine ⟨?_, (hsh_len (T, false)).1⟩
  show T = (hsh (T, false)).1 ++ num _ ++ num _ ++ num _ ++ num x.1.length ++ txsB x.1 ++ x.2.1
  rw [f1]
  simp only [Int.toNat_natCast, List.append_assoc]
  rw [← f3, ← a2, ← b2, ← d2, ← e2]
  exact hh
end Go.WL.T7
