/- Which transaction bytes begin with, by the reference. No condition. -/
import Derived.Test.YtmpnboonjpcmpaaGreatDoorPart24
import Derived.Test.YtmpnboonjpcmpaaGreatDoorPart23
set_option linter.unusedVariables false
set_option linter.unusedSimpArgs false
namespace Go.WL.T7z
open Go.WL Go.Proofs
set_option maxRecDepth 20000
set_option maxHeartbeats 4000000
def part (l : List UInt8) (i : Nat) : List UInt8 := l.take i ++ List.replicate (32 - i) 0
theorem part_len (l : List UInt8) (i : Nat) (h : 32 ≤ l.length) (hi : i ≤ 32) : (part l i).length = 32 := by simp [part]; omega
theorem part_set (l : List UInt8) (i : Nat) (h : i < l.length) (hi : i < 32) : (by8 (part l i)).set i ((AV.sc (.int .u8 ((l[i].toNat : Int))))) = by8 (part l (i + 1)) := by
  have e : (part l i).set i l[i] = part l (i + 1) := by
    unfold part
    rw [List.take_succ_eq_append_getElem h, List.append_assoc]
    have h1 : (l.take i).length = i := by simp; omega
    rw [List.set_append_right _ _ (by omega), h1, Nat.sub_self]
    congr 1
    rw [show 32 - i = (32 - (i + 1)) + 1 by omega, List.replicate_succ]
    rfl
  rw [← e]
  simp [by8]
end Go.WL.T7z
namespace Go.WL.T7z
open Go.WL Go.Proofs
set_option maxRecDepth 20000
set_option maxHeartbeats 8000000
theorem fupto_rupto (B : List UInt8) (at_ : Nat) (w : Bool) (top : Int) : rupto (B.drop at_) w top = ((fupto B at_ w top).1, B.drop (fupto B at_ w top).2.1, (fupto B at_ w top).2.2) := by
  unfold rupto fupto
  cases w with
  | true =>
    have : (fnum B at_ true).2.2 = true := by unfold fnum; simp
    simp [this]
  | false =>
    rw [fnum_rnum B at_ false]
    simp only [Bool.false_eq_true, false_or]
    split
    · rfl
    · rfl
theorem ftext_rtext (B : List UInt8) (at_ : Nat) (w : Bool) : rtext (B.drop at_) w = ((ftext B at_ w).1, B.drop (ftext B at_ w).2.1, (ftext B at_ w).2.2) := by
  unfold rtext ftext
  cases w with
  | true =>
    have : (fupto B at_ true 65536).2.2 = true := by
      have h : (fnum B at_ true).2.2 = true := by unfold fnum; simp
      unfold fupto
      simp [h]
    simp [this]
  | false =>
    rw [fupto_rupto B at_ false]
    simp only [Bool.false_eq_true, false_or, List.length_drop]
    split
    · rfl
    · simp [List.drop_drop]
theorem fhash_rhash (B : List UInt8) (at_ : Nat) (w : Bool) : rhash (B.drop at_) w = ((fhash B at_ w).1, B.drop (fhash B at_ w).2.1, (fhash B at_ w).2.2) := by
  unfold rhash fhash
  simp only [List.length_drop]
  split
  · rfl
  · simp [List.drop_drop]
theorem ftext_at (B : List UInt8) (at_ : Nat) (w : Bool) (h : at_ ≤ B.length) : (ftext B at_ w).2.1 ≤ B.length := by
  have := fupto_at B at_ w 65536 h
  unfold ftext
  split
  · exact h
  · rename_i c
    show _ + _ ≤ _
    omega
theorem fhash_at (B : List UInt8) (at_ : Nat) (w : Bool) (h : at_ ≤ B.length) : (fhash B at_ w).2.1 ≤ B.length := by
  unfold fhash
  split
  · exact h
  · rename_i c
    show _ + _ ≤ _
    omega
theorem ftext_len (B : List UInt8) (at_ : Nat) (w : Bool) : (ftext B at_ w).1.length ≤ B.length := by
  unfold ftext
  split
  · simp
  · simp; omega
theorem empty_at (B : List UInt8) (a : Nat) (h : a ≤ B.length) : (B.drop a).isEmpty = (((a : Nat) : Int) == ((B.length : Nat) : Int)) := by
  by_cases e : a = B.length
  · subst e; simp
  · have h1 : (((a : Nat) : Int) == ((B.length : Nat) : Int)) = false := by simp; omega
    rw [h1]
    cases hd : B.drop a with
    | nil =>
      have := congrArg List.length hd
      simp at this
      omega
    | cons x l => rfl
end Go.WL.T7z
namespace Go.WL.T7z
open Go.WL Go.Proofs
set_option maxRecDepth 20000
set_option maxHeartbeats 8000000
def tx0 : Tx := ⟨0, 0, 0, 0, 0, [], []⟩
/-- What is left of a reader's bytes, and whether something was wrong, behind a number up to one; behind a text. -/
abbrev RS := List UInt8 × Bool
def up (s : RS) (top : Int) : Nat × RS := ((rupto s.1 s.2 top).1, (rupto s.1 s.2 top).2.1, (rupto s.1 s.2 top).2.2)
def tex (s : RS) : List UInt8 × RS := ((rtext s.1 s.2).1, (rtext s.1 s.2).2.1, (rtext s.1 s.2).2.2)
def rawF (s : RS) : Tx × RS :=
  let a := up s 40
  let b := up a.2 1099511627776
  let c := up b.2 3
  if c.1 = 1 then
    let d := up c.2 40
    let e := up d.2 1099511627776
    (⟨a.1, b.1, c.1, d.1, e.1, [], []⟩, e.2)
  else if c.1 = 2 then
    let d := tex c.2
    let e := tex d.2
    (⟨a.1, b.1, c.1, 0, 0, d.1, e.1⟩, e.2)
  else if c.1 = 3 then
    let d := tex c.2
    (⟨a.1, b.1, c.1, 0, 0, d.1, []⟩, d.2)
  else (⟨a.1, b.1, c.1, 0, 0, [], []⟩, c.2)
def readOK (s : RS) : Bool := !(rawF s).2.2 && mayT (rawF s).1
theorem up_len (s : RS) (top : Int) : (up s top).2.1.length ≤ s.1.length := rupto_len s.1 s.2 top
def outT (s : RS) : Tx := if readOK s then (rawF s).1 else tx0
theorem tex_len (s : RS) : (tex s).2.1.length ≤ s.1.length ∧ (tex s).1.length ≤ s.1.length := by
  have h := rupto_len s.1 false 65536
  unfold tex rtext
  split
  · simp
  · simp only [List.length_drop, List.length_take]
    omega
end Go.WL.T7z
namespace Go.WL.T7z
open Go.WL Go.Proofs
set_option maxRecDepth 20000
set_option maxHeartbeats 8000000
/-- A place in bytes, and whether something was wrong. -/
abbrev PS := Nat × Bool
def upR (B : List UInt8) (s : PS) (top : Int) : Nat × PS := ((fupto B s.1 s.2 top).1, (fupto B s.1 s.2 top).2.1, (fupto B s.1 s.2 top).2.2)
def texR (B : List UInt8) (s : PS) : List UInt8 × PS := ((ftext B s.1 s.2).1, (ftext B s.1 s.2).2.1, (ftext B s.1 s.2).2.2)
def rs (B : List UInt8) (s : PS) : RS := (B.drop s.1, s.2)
theorem up_rs (B : List UInt8) (s : PS) (top : Int) : up (rs B s) top = ((upR B s top).1, rs B (upR B s top).2) := by
  unfold up upR rs
  rw [fupto_rupto]
theorem tex_rs (B : List UInt8) (s : PS) : tex (rs B s) = ((texR B s).1, rs B (texR B s).2) := by
  unfold tex texR rs
  rw [ftext_rtext]
def rawR (B : List UInt8) (s : PS) : Tx × PS :=
  let a := upR B s 40
  let b := upR B a.2 1099511627776
  let c := upR B b.2 3
  if c.1 = 1 then
    let d := upR B c.2 40
    let e := upR B d.2 1099511627776
    (⟨a.1, b.1, c.1, d.1, e.1, [], []⟩, e.2)
  else if c.1 = 2 then
    let d := texR B c.2
    let e := texR B d.2
    (⟨a.1, b.1, c.1, 0, 0, d.1, e.1⟩, e.2)
  else if c.1 = 3 then
    let d := texR B c.2
    (⟨a.1, b.1, c.1, 0, 0, d.1, []⟩, d.2)
  else (⟨a.1, b.1, c.1, 0, 0, [], []⟩, c.2)
theorem raw_rs (B : List UInt8) (s : PS) : rawF (rs B s) = ((rawR B s).1, rs B (rawR B s).2) := by
  unfold rawF rawR
  simp only [up_rs, tex_rs]
  split
  · rfl
  · split
    · rfl
    · split
      · rfl
      · rfl
end Go.WL.T7z
