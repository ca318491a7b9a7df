/- Which transaction bytes begin with, by the program. No condition. -/
import Derived.Test.YtmpnboonjpcmpaaDoorPart18
import Derived.Test.YtmpnboonjpcmpaaDoorPart19
set_option linter.unusedVariables false
set_option linter.unusedSimpArgs false
namespace Go.WL.T7
open Go.WL Go.Proofs
set_option maxHeartbeats 4000000
def val : List UInt8 → Nat
  | [] => 0
  | c :: l => c.toNat % 128 + 128 * val l
theorem val_snoc : ∀ (l : List UInt8) (c : UInt8), val (l ++ [c]) = val l + c.toNat % 128 * 128 ^ l.length
  | [], c => by simp [val]
  | x :: l, c => by
    simp only [List.cons_append, val, val_snoc l c, List.length_cons, Nat.pow_succ]
    rw [Nat.mul_add, ← Nat.mul_assoc 128, Nat.mul_comm 128 (c.toNat % 128), Nat.mul_assoc, Nat.mul_comm 128 (128 ^ l.length)]
    omega
theorem val_num (n : Nat) : val (num n) = n := by
  induction n using Nat.strongRecOn with
  | ind n ih =>
  by_cases c : n < 128
  · rw [num_low c]
    simp [val]
    omega
  · rw [num_high c, val, ih (n / 128) (by omega)]
    simp
    omega
theorem num_shape (n : Nat) : ∃ (p : List UInt8) (c : UInt8), num n = p ++ [c] ∧ (∀ x ∈ p, 128 ≤ x.toNat) ∧ c.toNat < 128 := by
  induction n using Nat.strongRecOn with
  | ind n ih =>
  by_cases c : n < 128
  · exact ⟨[], UInt8.ofNat n, by rw [num_low c]; rfl, by simp, by simp; omega⟩
  · obtain ⟨p, d, h1, h2, h3⟩ := ih (n / 128) (by omega)
    refine ⟨UInt8.ofNat (128 + n % 128) :: p, d, by rw [num_high c, h1]; rfl, fun x hx => ?_, h3⟩
    rcases List.mem_cons.1 hx with rfl | hx
    · simp; omega
    · exact h2 x hx
theorem rdn_ten : ∀ (l : List UInt8) (i a : Nat), (rdn l i a).2 ≤ 10
  | [], i, a => by simp [rdn]
  | c :: l, i, a => by
    rw [rdn]
    split
    · simp
    · split
      · simp
      · split
        · simp; omega
        · exact rdn_ten l _ _
theorem rdn_back : ∀ (l : List UInt8) (i a : Nat), (rdn l i a).2 ≠ 0 → ∃ m, l.take ((rdn l i a).2 - i) = num m ∧ (0 < i → 0 < m) ∧ (rdn l i a).1 = a + m * 128 ^ i
  | [], i, a, h => by simp [rdn] at h
  | c :: l, i, a, h => by
    rw [rdn] at h ⊢
    split at h
    · simp at h
    · rename_i h1
      rw [if_neg h1]
      split at h
      · simp at h
      · rename_i h2
        rw [if_neg h2]
        split at h
        · rename_i h3
          rw [if_pos h3]
          refine ⟨c.toNat, ?_, fun hi => by omega, rfl⟩
          rw [num_low h3]
          simp
        · rename_i h3
          rw [if_neg h3]
          obtain ⟨m, e1, e2, e3⟩ := rdn_back l (i + 1) _ h
          have hs := rdn_size l (i + 1) (a + c.toNat % 128 * 128 ^ i)
          have hm := e2 (by omega)
          have hc := c.toNat_lt
          refine ⟨c.toNat % 128 + 128 * m, ?_, fun _ => by omega, ?_⟩
          · rw [num_high (by omega)]
            have k1 : (c.toNat % 128 + 128 * m) / 128 = m := by omega
            have k2 : (c.toNat % 128 + 128 * m) % 128 = c.toNat % 128 := by omega
            rw [k1, k2, ← e1]
            have k3 : UInt8.ofNat (128 + c.toNat % 128) = c := by
              apply UInt8.toNat_inj.1
              simp
              omega
            rw [k3]
            have k4 : (rdn l (i + 1) (a + c.toNat % 128 * 128 ^ i)).2 - i = ((rdn l (i + 1) (a + c.toNat % 128 * 128 ^ i)).2 - (i + 1)) + 1 := by omega
            rw [k4, List.take_succ_cons]
          · rw [e3, Nat.pow_succ, Nat.add_mul]
            have : m * (128 ^ i * 128) = 128 * m * 128 ^ i := by
              rw [Nat.mul_comm (128 ^ i) 128, ← Nat.mul_assoc, Nat.mul_comm m 128]
            omega
/-- The first byte below 128 ends a number. -/
theorem first_low {l : List UInt8} {i m s : Nat} (hs : l.take s = num m) (hsl : s ≤ l.length) (hi : i < l.length) (hb : ∀ x ∈ l.take i, 128 ≤ x.toNat) (hc : l[i].toNat < 128) : s = i + 1 := by
  obtain ⟨p, c, h1, h2, h3⟩ := num_shape m
  rw [h1] at hs
  have hsp : s = p.length + 1 := by
    have := congrArg List.length hs
    simp at this
    omega
  subst hsp
  have hp : p.length < l.length := by omega
  have e1 : l.take p.length = p ∧ l[p.length] = c := by
    rw [List.take_succ_eq_append_getElem hp] at hs
    have := List.append_inj' hs rfl
    exact ⟨this.1, by simpa using this.2⟩
  rcases Nat.lt_trichotomy i p.length with h | h | h
  · have : l[i] ∈ p := by
      rw [← e1.1]
      exact List.mem_iff_getElem?.2 ⟨i, by rw [List.getElem?_take_of_lt h, List.getElem?_eq_getElem hi]⟩
    have := h2 _ this
    omega
  · omega
  · have : l[p.length] ∈ l.take i := List.mem_iff_getElem?.2 ⟨p.length, by rw [List.getElem?_take_of_lt h, List.getElem?_eq_getElem hp]⟩
    have := hb _ this
    rw [e1.2] at this
    omega
theorem rdn_yes {l : List UInt8} {i n : Nat} (h : l.take (i + 1) = num n) (hi : i < l.length) (hn : n < 18446744073709551616) : rdn l 0 0 = (n, i + 1) := by
  have := rdn_num (l.drop (i + 1)) n 0 0 (by omega) (by omega) (.inl rfl)
  rw [← h, List.take_append_drop] at this
  rw [this]
  simp
  omega
theorem rdn_no {l : List UInt8} {i n : Nat} (hi : i < l.length) (hb : ∀ x ∈ l.take i, 128 ≤ x.toNat) (hc : l[i].toNat < 128) (hn : n = val (l.take (i + 1)) % 18446744073709551616) (h : l.take (i + 1) ≠ num n) : (rdn l 0 0).2 = 0 := by
  refine Decidable.not_not.1 fun hne => ?_
  obtain ⟨m, e1, _, e3⟩ := rdn_back l 0 0 hne
  have hs := rdn_size l 0 0
  have hmax := rdn_max l 0 0 (by omega) (by decide)
  rw [Nat.sub_zero] at e1
  have es := first_low e1 (by omega) hi hb hc
  rw [es] at e1
  rw [e1, val_num] at hn
  have : n = m := by omega
  exact h (by rw [e1, this])
theorem rdn_none {l : List UInt8} {i : Nat} (hi : i = 10 ∨ i = l.length) (hb : ∀ x ∈ l.take i, 128 ≤ x.toNat) : (rdn l 0 0).2 = 0 := by
  refine Decidable.not_not.1 fun hne => ?_
  obtain ⟨m, e1, _, _⟩ := rdn_back l 0 0 hne
  have hs := rdn_size l 0 0
  have ht := rdn_ten l 0 0
  rw [Nat.sub_zero] at e1
  obtain ⟨p, c, h1, h2, h3⟩ := num_shape m
  rw [h1] at e1
  have hc : c ∈ l.take i := by
    have : c ∈ l.take (rdn l 0 0).2 := by rw [e1]; simp
    exact List.mem_of_mem_take (i := (rdn l 0 0).2) (by rw [List.take_take, Nat.min_eq_left (by omega)]; exact this)
  have := hb c hc
  omega
end Go.WL.T7
namespace Go.WL.T7
open Go.WL Go.Proofs
set_option maxRecDepth 20000
set_option maxHeartbeats 4000000
/-- What reading a number makes of the reference's reader: the number, the place, whether something was wrong. -/
def fnum (B : List UInt8) (at_ : Nat) (w : Bool) : Nat × Nat × Bool :=
  if w = true ∨ (rdn (B.drop at_) 0 0).2 = 0 then (0, at_, true) else ((rdn (B.drop at_) 0 0).1, at_ + (rdn (B.drop at_) 0 0).2, false)
theorem wn64 (k : Nat) : IntKind.u64.wrap ((k : Nat) : Int) = ((k % 18446744073709551616 : Nat) : Int) := by
  simp [IntKind.wrap, IntKind.signed, IntKind.bits]
end Go.WL.T7
namespace Go.WL.T7
open Go.WL Go.Proofs
set_option maxRecDepth 20000
set_option maxHeartbeats 4000000
def fupto (B : List UInt8) (at_ : Nat) (w : Bool) (top : Int) : Nat × Nat × Bool :=
  if (fnum B at_ w).2.2 = true ∨ top < 0 ∨ ((fnum B at_ w).1 : Int) > top then (0, at_, true) else fnum B at_ w
def ftext (B : List UInt8) (at_ : Nat) (w : Bool) : List UInt8 × Nat × Bool :=
  if (fupto B at_ w 65536).2.2 = true ∨ (fupto B at_ w 65536).1 > B.length - (fupto B at_ w 65536).2.1 then ([], at_, true)
  else ((B.drop (fupto B at_ w 65536).2.1).take (fupto B at_ w 65536).1, (fupto B at_ w 65536).2.1 + (fupto B at_ w 65536).1, false)
def fhash (B : List UInt8) (at_ : Nat) (w : Bool) : List UInt8 × Nat × Bool :=
  if w = true ∨ B.length - at_ < 32 then (List.replicate 32 0, at_, true) else ((B.drop at_).take 32, at_ + 32, false)
theorem fnum_rnum (B : List UInt8) (at_ : Nat) (w : Bool) : rnum (B.drop at_) w = ((fnum B at_ w).1, B.drop (fnum B at_ w).2.1, (fnum B at_ w).2.2) := by
  unfold rnum fnum
  cases w with
  | true => simp
  | false =>
    by_cases h : (rdn (B.drop at_) 0 0).2 = 0
    · simp [h]
    · simp [h, List.drop_drop]
theorem fnum_at (B : List UInt8) (at_ : Nat) (w : Bool) (h : at_ ≤ B.length) : (fnum B at_ w).2.1 ≤ B.length := by
  unfold fnum
  split
  · exact h
  · have := rdn_size (B.drop at_) 0 0
    simp at this
    show at_ + _ ≤ _
    omega
theorem fnum_max (B : List UInt8) (at_ : Nat) (w : Bool) : (fnum B at_ w).1 < 18446744073709551616 := by
  have := rnum_max (B.drop at_) w
  rw [fnum_rnum] at this
  exact this
theorem fupto_at (B : List UInt8) (at_ : Nat) (w : Bool) (top : Int) (h : at_ ≤ B.length) : (fupto B at_ w top).2.1 ≤ B.length := by
  unfold fupto
  split
  · exact h
  · exact fnum_at B at_ w h
theorem fupto_le (B : List UInt8) (at_ : Nat) (w : Bool) (top : Int) (h : 0 ≤ top) : ((fupto B at_ w top).1 : Int) ≤ top := by
  unfold fupto
  split
  · simpa using h
  · rename_i c
    omega
end Go.WL.T7
namespace Go.WL.T7
open Go.WL Go.Proofs
set_option maxRecDepth 20000
set_option maxHeartbeats 4000000
def part (l : List UInt8) (i : Nat) : List UInt8 := l.take i ++ List.replicate (32 - i) 0
theorem part_len (l : List UInt8) (i : Nat) (h : 32 ≤ l.length) (hi : i ≤ 32) : (part l i).length = 32 := by simp [part]; omega
theorem part_set (l : List UInt8) (i : Nat) (h : i < l.length) (hi : i < 32) : (by8 (part l i)).set i ((AV.sc (.int .u8 ((l[i].toNat : Int))))) = by8 (part l (i + 1)) := by
  have e : (part l i).set i l[i] = part l (i + 1) := by
    unfold part
    rw [List.take_succ_eq_append_getElem h, List.append_assoc]
    have h1 : (l.take i).length = i := by simp; omega
    rw [List.set_append_right _ _ (by omega), h1, Nat.sub_self]
    congr 1
    rw [show 32 - i = (32 - (i + 1)) + 1 by omega, List.replicate_succ]
    rfl
  rw [← e]
  simp [by8]
end Go.WL.T7
namespace Go.WL.T7
open Go.WL Go.Proofs
set_option maxRecDepth 20000
set_option maxHeartbeats 8000000
theorem fupto_rupto (B : List UInt8) (at_ : Nat) (w : Bool) (top : Int) : rupto (B.drop at_) w top = ((fupto B at_ w top).1, B.drop (fupto B at_ w top).2.1, (fupto B at_ w top).2.2) := by
  unfold rupto fupto
  cases w with
  | true =>
    have : (fnum B at_ true).2.2 = true := by unfold fnum; simp
    simp [this]
  | false =>
    rw [fnum_rnum B at_ false]
    simp only [Bool.false_eq_true, false_or]
    split
    · rfl
    · rfl
theorem ftext_rtext (B : List UInt8) (at_ : Nat) (w : Bool) : rtext (B.drop at_) w = ((ftext B at_ w).1, B.drop (ftext B at_ w).2.1, (ftext B at_ w).2.2) := by
  unfold rtext ftext
  cases w with
  | true =>
    have : (fupto B at_ true 65536).2.2 = true := by
      have h : (fnum B at_ true).2.2 = true := by unfold fnum; simp
      unfold fupto
      simp [h]
    simp [this]
  | false =>
    rw [fupto_rupto B at_ false]
    simp only [Bool.false_eq_true, false_or, List.length_drop]
    split
    · rfl
    · simp [List.drop_drop]
theorem fhash_rhash (B : List UInt8) (at_ : Nat) (w : Bool) : rhash (B.drop at_) w = ((fhash B at_ w).1, B.drop (fhash B at_ w).2.1, (fhash B at_ w).2.2) := by
  unfold rhash fhash
  simp only [List.length_drop]
  split
  · rfl
  · simp [List.drop_drop]
theorem ftext_at (B : List UInt8) (at_ : Nat) (w : Bool) (h : at_ ≤ B.length) : (ftext B at_ w).2.1 ≤ B.length := by
  have := fupto_at B at_ w 65536 h
  unfold ftext
  split
  · exact h
  · rename_i c
    show _ + _ ≤ _
    omega
theorem fhash_at (B : List UInt8) (at_ : Nat) (w : Bool) (h : at_ ≤ B.length) : (fhash B at_ w).2.1 ≤ B.length := by
  unfold fhash
  split
  · exact h
  · rename_i c
    show _ + _ ≤ _
    omega
theorem ftext_len (B : List UInt8) (at_ : Nat) (w : Bool) : (ftext B at_ w).1.length ≤ B.length := by
  unfold ftext
  split
  · simp
  · simp; omega
theorem empty_at (B : List UInt8) (a : Nat) (h : a ≤ B.length) : (B.drop a).isEmpty = (((a : Nat) : Int) == ((B.length : Nat) : Int)) := by
  by_cases e : a = B.length
  · subst e; simp
  · have h1 : (((a : Nat) : Int) == ((B.length : Nat) : Int)) = false := by simp; omega
    rw [h1]
    cases hd : B.drop a with
    | nil =>
      have := congrArg List.length hd
      simp at this
      omega
    | cons x l => rfl
end Go.WL.T7
namespace Go.WL.T7
open Go.WL Go.Proofs
set_option maxRecDepth 20000
set_option maxHeartbeats 8000000
def tx0 : Tx := ⟨0, 0, 0, 0, 0, [], []⟩
/-- What is left of a reader's bytes, and whether something was wrong, behind a number up to one; behind a text. -/
abbrev RS := List UInt8 × Bool
def up (s : RS) (top : Int) : Nat × RS := ((rupto s.1 s.2 top).1, (rupto s.1 s.2 top).2.1, (rupto s.1 s.2 top).2.2)
def tex (s : RS) : List UInt8 × RS := ((rtext s.1 s.2).1, (rtext s.1 s.2).2.1, (rtext s.1 s.2).2.2)
def rawF (s : RS) : Tx × RS :=
  let a := up s 40
  let b := up a.2 1099511627776
  let c := up b.2 3
  if c.1 = 1 then
    let d := up c.2 40
    let e := up d.2 1099511627776
    (⟨a.1, b.1, c.1, d.1, e.1, [], []⟩, e.2)
  else if c.1 = 2 then
    let d := tex c.2
    let e := tex d.2
    (⟨a.1, b.1, c.1, 0, 0, d.1, e.1⟩, e.2)
  else if c.1 = 3 then
    let d := tex c.2
    (⟨a.1, b.1, c.1, 0, 0, d.1, []⟩, d.2)
  else (⟨a.1, b.1, c.1, 0, 0, [], []⟩, c.2)
def readOK (s : RS) : Bool := !(rawF s).2.2 && mayT (rawF s).1
theorem up_len (s : RS) (top : Int) : (up s top).2.1.length ≤ s.1.length := rupto_len s.1 s.2 top
def outT (s : RS) : Tx := if readOK s then (rawF s).1 else tx0
theorem c_up (s : RS) (top : Int) (ht : -9223372036854775808 ≤ top ∧ top < 9223372036854775808) (hs : s.1.length < 1000000000) : FnOK Tryd.prog D 120 [.pt 0 [], (AV.sc (.int .i64 (top)))] [.st [(AV.sl .lf (by8 (s.1)) .ro), (AV.sc (.bool (s.2)))]] (fun r st => r = (AV.sc (.int .i64 (((up s top).1 : Int)))) ∧ st = [.st [(AV.sl .lf (by8 ((up s top).2.1)) .ro), (AV.sc (.bool ((up s top).2.2)))]]) := c_upto s.1 s.2 top ht (by omega)
theorem c_tex (s : RS) (hs : s.1.length < 1000000000) : FnOK Tryd.prog D 121 [.pt 0 []] [.st [(AV.sl .lf (by8 (s.1)) .ro), (AV.sc (.bool (s.2)))]] (fun r st => r = (AV.sl .lf (by8 ((tex s).1)) (.own 0)) ∧ st = [.st [(AV.sl .lf (by8 ((tex s).2.1)) .ro), (AV.sc (.bool ((tex s).2.2)))]]) := c_rtext s.1 s.2 (by omega)
theorem tex_len (s : RS) : (tex s).2.1.length ≤ s.1.length ∧ (tex s).1.length ≤ s.1.length := by
  have h := rupto_len s.1 false 65536
  unfold tex rtext
  split
  · simp
  · simp only [List.length_drop, List.length_take]
    omega
end Go.WL.T7
