/- A logic of values over the model: what each operation, call and loop makes of the state, shown right against the model. No condition beyond those that each theorem names. -/
import Derived.Test.YtdlgmddegldcjaaWordsC
import Derived.OpenShut
import Derived.WalkKit
import Derived.ProofKit
import Derived.ShutString
import Derived.ChangeOld
import Derived.Carry
import Derived.Below
import Derived.Laws.Externs
import Derived.Lib.Bytealg
set_option linter.unusedVariables false
set_option linter.unusedSimpArgs false
namespace Go.WL

/-- The kinds of a law's arguments. -/
inductive ATy where
  | int (k : IntKind)
  | bool
  | str
  | sl (s : Shape) (a : ATy)
  | ar (n : Nat) (s : Shape) (a : ATy)
  | st (l : List ATy)

mutual
/-- What reads as such an argument. -/
def OfTy : ATy → AV → Prop
  | .int k, v => ∃ i, v = .sc (.int k i) ∧ (Lit.int k i).wf = true
  | .bool, v => ∃ b, v = .sc (.bool b)
  | .str, v => ∃ s : ByteArray, v = .sc (.string s) ∧ s.size ≤ maxLen
  | .sl s a, v => ∃ xs : List AV, v = .sl s xs .ro ∧ xs.length ≤ maxLen ∧ ∀ x ∈ xs, OfTy a x
  | .ar n s a, v => ∃ xs : List AV, v = .ar n s xs ∧ xs.length = n ∧ ∀ x ∈ xs, OfTy a x
  | .st l, v => ∃ xs : List AV, v = .st xs ∧ OfTys l xs
def OfTys : List ATy → List AV → Prop
  | [], vs => vs = []
  | a :: l, vs => ∃ v us, vs = v :: us ∧ OfTy a v ∧ OfTys l us
end

def seqO : List (Option ATy) → Option (List ATy)
  | [] => some []
  | none :: _ => none
  | some a :: l => match seqO l with
    | none => none
    | some m => some (a :: m)
theorem seqO_of : ∀ {l : List (Option ATy)} {m : List ATy}, seqO l = some m → l = m.map some
  | [], m, h => by simp [seqO] at h; subst h; rfl
  | none :: l, m, h => by simp [seqO] at h
  | some a :: l, m, h => by
    simp only [seqO] at h
    split at h
    · simp at h
    · rename_i m' hm
      simp only [Option.some.injEq] at h
      subst h
      rw [seqO_of hm]
      rfl

/-- A type's kind, out of the table. -/
def aty (D : Tabs) : Nat → Nat → Option ATy
  | 0, _ => none
  | n + 1, t => match lookT D.ty t with
    | none => none
    | some ti => match ti.k with
      | .int k => some (.int k)
      | .bool => some .bool
      | .str => some .str
      | .slice e => match lookT D.ty e with
        | none => none
        | some ei => match Nat.beq ei.sh.size 0 with
          | true => none
          | false => match aty D n e with
            | none => none
            | some a => some (.sl ei.sh a)
      | .arr m e => match lookT D.ty e with
        | none => none
        | some ei => match aty D n e with
          | none => none
          | some a => some (.ar m ei.sh a)
      | .strct fs => match seqO (fs.map fun f => aty D n f.1) with
        | none => none
        | some l => some (.st l)
      | _ => none

section
variable {w : World} {lim : Nat → Nat}
theorem prs_of : ∀ (shs : List Shape) (vs : List AV) (cs : List Value), vs.length = shs.length → cs.length = Shape.sizes shs →
    (∀ (i : Nat) (s : Shape) (v : AV), shs[i]? = some s → vs[i]? = some v → PR w lim v ((cs.drop (Shape.sizes (shs.take i))).take s.size)) → ∃ ps, PRs w lim vs ps ∧ cs = ps.flatten
  | [], [], cs, _, h2, _ => ⟨[], rfl, by simpa [Shape.sizes] using h2⟩
  | s :: shs, v :: vs, cs, h1, h2, h3 => by
    simp only [Shape.sizes] at h2
    obtain ⟨ps, h4, h5⟩ := prs_of shs vs (cs.drop s.size) (by simpa using h1) (by simp; omega) fun i s' v' hi hv => by
      have := h3 (i + 1) s' v' (by simpa using hi) (by simpa using hv)
      simpa [Shape.sizes, List.drop_drop] using this
    have h0 := h3 0 s v rfl rfl
    simp only [List.take_zero, Shape.sizes, List.drop_zero] at h0
    refine ⟨cs.take s.size :: ps, ⟨_, _, rfl, h0, h4⟩, ?_⟩
    rw [List.flatten_cons, ← h5, List.take_append_drop]
theorem rows_of (a : Addr) (sz : Nat) (Q : AV → Prop) : ∀ (len k : Nat), (∀ i, i < len → ∃ (cs : List Value) (v : AV), cs.length = sz ∧ (∀ j, j < sz → w.cell? (a.add ((k + i) * sz + j)) = cs[j]?) ∧ Q v ∧ PR w lim v cs) →
    ∃ (vs : List AV) (ps : List (List Value)), vs.length = len ∧ PRs w lim vs ps ∧ (∀ v ∈ vs, Q v) ∧ ps.flatten.length = len * sz ∧ ∀ j, j < len * sz → w.cell? (a.add (k * sz + j)) = ps.flatten[j]?
  | 0, k, _ => ⟨[], [], rfl, rfl, by simp, by simp, fun j h => by omega⟩
  | len + 1, k, h => by
    obtain ⟨cs, v, h1, h2, h3, h4⟩ := h 0 (by omega)
    obtain ⟨vs, ps, g1, g2, g3, g4, g5⟩ := rows_of a sz Q len (k + 1) fun i hi => by
      obtain ⟨cs, v, h1, h2, h3⟩ := h (i + 1) (by omega)
      exact ⟨cs, v, h1, fun j hj => by rw [← h2 j hj, show k + 1 + i = k + (i + 1) by omega], h3⟩
    refine ⟨v :: vs, cs :: ps, by simp [g1], ⟨_, _, rfl, h4, g2⟩, ?_, ?_, fun j hj => ?_⟩
    · intro x hx
      rcases List.mem_cons.1 hx with rfl | hx
      · exact h3
      · exact g3 x hx
    · rw [List.flatten_cons, List.length_append, h1, g4, Nat.add_mul]; omega
    · rw [List.flatten_cons]
      by_cases c : j < sz
      · rw [List.getElem?_append_left (by omega), ← h2 j c]
        congr 2
      · rw [List.getElem?_append_right (by omega), h1]
        rw [Nat.add_mul] at hj
        rw [← g5 (j - sz) (by omega)]
        congr 2
        rw [Nat.add_mul]; omega
end

section
variable {H : Type} {enc : TypeId × Value → H} {P : Program} {D : Tabs} {w : World} {base : Nat} {spare : Nat → Bool} {held : Bool}
theorem cellsOf_of {t : Nat} {ti : TI} (h : TyOK P D t ti) : P.cellsOf t = ti.sh.size := by
  obtain ⟨d, i, z, h1, h2, h3, _⟩ := h.fact
  simp [Program.cellsOf, h2, h3]
theorem aadd (a : Addr) (i j : Nat) : (a.add i).add j = a.add (i + j) := by
  simp only [Addr.add]
  by_cases h1 : i = 0
  · subst h1; simp
  · by_cases h2 : j = 0
    · subst h2; simp [h1]
    · rw [if_neg h2, if_neg h1, if_neg (by omega)]
      simp [Nat.add_assoc]
/-- What an argument of a type reads as. -/
theorem open_pr (hT : TabOK P D) : ∀ (n t : Nat) (ti : TI) (a : ATy), lookT D.ty t = some ti → aty D n t = some a → ∀ (fuel : Nat) (cs : List Value) (x : DataW H × List MemPlace), DataW.trod enc P w base spare held fuel t cs = some x →
    ∃ v, OfTy a v ∧ v.shape = ti.sh ∧ v.pure = true ∧ PR w (ground w).lim v cs
  | 0, t, ti, a, _, ha, _, _, _, _ => by simp [aty] at ha
  | n + 1, t, ti, a, hti, ha, fuel, cs, x, hx => by
    have hok := hT t ti hti
    have hcell := cellsOf_of hok
    obtain ⟨d, inf, z, h1, h2, h3, h4, hk, h5⟩ := hok.fact
    simp only [aty, hti] at ha
    cases hkk : ti.k with
    | int k =>
      rw [hkk] at ha hk
      simp only [Option.some.injEq] at ha
      obtain ⟨hsh, rfl⟩ := hk
      obtain ⟨i, rfl, _, hw⟩ := DataW.trod_int h1 hx
      subst ha
      exact ⟨_, ⟨i, rfl, hw⟩, by rw [hsh]; rfl, rfl, rfl, rfl⟩
    | bool =>
      rw [hkk] at ha hk
      simp only [Option.some.injEq] at ha
      obtain ⟨hsh, rfl⟩ := hk
      obtain ⟨i, rfl, _⟩ := DataW.trod_bool h1 hx
      subst ha
      exact ⟨_, ⟨i, rfl⟩, by rw [hsh]; rfl, rfl, rfl, rfl⟩
    | str =>
      rw [hkk] at ha hk
      simp only [Option.some.injEq] at ha
      obtain ⟨hsh, rfl⟩ := hk
      obtain ⟨i, rfl, _, hw⟩ := DataW.trod_string h1 hx
      subst ha
      exact ⟨_, ⟨i, rfl, hw⟩, by rw [hsh]; rfl, rfl, rfl, rfl⟩
    | slice e =>
      rw [hkk] at ha hk
      simp only at ha
      split at ha
      · simp at ha
      rename_i ei hei
      split at ha
      · simp at ha
      rename_i hsz
      split at ha
      · simp at ha
      rename_i b hb
      simp only [Option.some.injEq] at ha
      subst ha
      obtain ⟨hsh, rfl⟩ := hk
      have hce := cellsOf_of (hT e ei hei)
      have hpos : ei.sh.size ≠ 0 := by intro e; rw [e] at hsz; simp at hsz
      rcases DataW.trod_slice h1 hx with ⟨rfl, _⟩ | ⟨ad, len, cap, elems, rest, m, rfl, rfl, rfl, hb1, hl, hm, hlen, hel, _⟩
      · refine ⟨.sl ei.sh [] .ro, ⟨[], rfl, by simp, by simp⟩, by rw [hsh]; rfl, rfl, ⟨none, 0, rfl, Nat.le_refl _, by simp, fun x hx => by simp at hx, fun _ => rfl, .inl rfl⟩⟩
      · obtain ⟨vs, ps, g1, g2, g3, g4, g5⟩ := rows_of (w := w) (lim := (ground w).lim) ad ei.sh.size (fun v => OfTy b v ∧ v.shape = ei.sh ∧ v.pure = true) len 0 fun i hi => by
          have h := hel i hi
          have hlt : i < elems.length := by omega
          rw [List.getElem?_eq_getElem hlt, Option.bind_eq_some_iff] at h
          obtain ⟨cs, hc, ht⟩ := h
          obtain ⟨_, hc1, hc2⟩ := World.cells?_some hc
          obtain ⟨v, k1, k2, k3, k4⟩ := open_pr hT n e ei b hei hb m cs _ ht
          rw [hce] at hc1 hc2
          refine ⟨cs, v, hc1, fun j hj => ?_, ⟨k1, k2, k3⟩, k4⟩
          rw [← hc2 j hj, aadd, Nat.zero_add]
        refine ⟨.sl ei.sh vs .ro, ⟨vs, rfl, by omega, fun x hx => (g3 x hx).1⟩, by rw [hsh]; rfl, rfl, ⟨some ad, cap, by rw [g1], by rw [g1]; exact hl, by simp, fun x hx => (g3 x hx).2, by simp, ?_⟩⟩
        by_cases h0 : len = 0
        · left
          exact List.eq_nil_of_length_eq_zero (by omega)
        · right
          have hz : 0 < len * ei.sh.size := Nat.mul_pos (by omega) (by omega)
          have at0 := g5 0 hz
          have hsp : ad.spot = none := by
            rw [List.getElem?_eq_getElem (by omega)] at at0
            cases hs : ad.spot with
            | none => rfl
            | some p =>
              have e : (ad.add (0 * ei.sh.size + 0)).spot = some p := by simp [Addr.add, hs]
              simp only [World.cell?, e, Option.isSome_some, if_true] at at0
              split at at0 <;> simp at at0
          refine ⟨ad, ps, rfl, g2, hsp, fun i u hu => ?_, fun _ => ?_⟩
          · have hi : i < len * ei.sh.size := by have := (List.getElem?_eq_some_iff.1 hu).1; omega
            have := g5 i hi
            rw [add_eq hsp, hu, Nat.zero_mul, Nat.zero_add] at this
            exact this
          · have := g5 (len * ei.sh.size - 1) (by omega)
            rw [add_eq hsp, List.getElem?_eq_getElem (by omega), Nat.zero_mul, Nat.zero_add] at this
            have := ground_cell this
            rw [g4]
            omega
    | arr m e =>
      rw [hkk] at ha hk
      simp only at ha
      split at ha
      · simp at ha
      rename_i ei hei
      split at ha
      · simp at ha
      rename_i b hb
      simp only [Option.some.injEq] at ha
      subst ha
      obtain ⟨rfl, j, hj, hsh⟩ := hk
      rw [hei] at hj
      simp only [Option.some.injEq] at hj
      subst hj
      have hce := cellsOf_of (hT e ei hei)
      obtain ⟨xs, m', rfl, rfl, hcl, hxl, hel⟩ := DataW.trod_array h1 hx
      have all : ∀ i, i < m → ∃ v, OfTy b v ∧ v.shape = ei.sh ∧ v.pure = true ∧ PR w (ground w).lim v ((cs.drop (i * ei.sh.size)).take ei.sh.size) := by
        intro i hi
        have h := hel i hi
        rw [List.getElem?_eq_getElem (by omega), hce] at h
        exact open_pr hT n e ei b hei hb m' _ _ h
      obtain ⟨vs, hvl, hvs⟩ : ∃ vs : List AV, vs.length = m ∧ ∀ i v, vs[i]? = some v → OfTy b v ∧ v.shape = ei.sh ∧ v.pure = true ∧ PR w (ground w).lim v ((cs.drop (i * ei.sh.size)).take ei.sh.size) := by
        clear hel hcl hx hxl hsh h1 hcell hkk
        induction m with
        | zero => exact ⟨[], rfl, fun i v h => by simp at h⟩
        | succ m ih =>
          obtain ⟨vs, k1, k2⟩ := ih fun i hi => all i (by omega)
          obtain ⟨v, hv⟩ := all m (by omega)
          refine ⟨vs ++ [v], by simp [k1], fun i u hu => ?_⟩
          by_cases c : i < vs.length
          · rw [List.getElem?_append_left c] at hu
            exact k2 i u hu
          · rw [List.getElem?_append_right (by omega)] at hu
            have e0 : i - vs.length = 0 := by
              have := (List.getElem?_eq_some_iff.1 hu).1
              simp at this
              omega
            rw [e0] at hu
            simp only [List.getElem?_cons_zero, Option.some.injEq] at hu
            have : i = m := by omega
            subst hu
            rw [this]
            exact hv
      obtain ⟨ps, k1, k2⟩ := prs_of (w := w) (lim := (ground w).lim) (List.replicate m ei.sh) vs cs (by simp [hvl]) (by rw [sizes_replicate, hcl, hcell, hsh, Shape.size]) fun i s v hs hv => by
        rw [List.getElem?_replicate] at hs
        split at hs
        · rename_i hi
          simp only [Option.some.injEq] at hs
          subst hs
          rw [List.take_replicate, sizes_replicate, Nat.min_eq_left (by omega)]
          exact (hvs i v hv).2.2.2
        · simp at hs
      have mem : ∀ x ∈ vs, OfTy b x ∧ x.shape = ei.sh ∧ x.pure = true := by
        intro x hx
        obtain ⟨i, hi⟩ := List.getElem?_of_mem hx
        exact ⟨(hvs i x hi).1, (hvs i x hi).2.1, (hvs i x hi).2.2.1⟩
      exact ⟨.ar m ei.sh vs, ⟨vs, rfl, hvl, fun x hx => (mem x hx).1⟩, by rw [hsh]; rfl, rfl, hvl, fun x hx => (mem x hx).2, ps, k1, k2⟩
    | strct fs =>
      rw [hkk] at ha hk
      simp only at ha
      split at ha
      · simp at ha
      rename_i l hl
      simp only [Option.some.injEq] at ha
      subst ha
      obtain ⟨fields, shs, rfl, hsh, hf1, hf2, hf3⟩ := hk
      have hseq := seqO_of hl
      obtain ⟨xs, m, rfl, rfl, hcl, hxl, hel⟩ := DataW.trod_struct h1 hx
      have hll : l.length = shs.length := by
        have := congrArg List.length hseq
        simp at this
        omega
      have all : ∀ i, i < shs.length → ∃ v b s, l[i]? = some b ∧ shs[i]? = some s ∧ OfTy b v ∧ v.shape = s ∧ v.pure = true ∧ PR w (ground w).lim v ((cs.drop (Shape.sizes (shs.take i))).take s.size) := by
        intro i hi
        have hfi : fields[i]? = some fields[i] := Array.getElem?_eq_getElem (by omega)
        obtain ⟨j, k1, k2, k3, k4, _⟩ := hf3 i _ hfi
        have h := hel i _ hfi
        rw [List.getElem?_eq_getElem (by omega), k4, cellsOf_of (hT _ j k1)] at h
        have hb : (l.map some)[i]? = some (aty D n fields[i].type) := by rw [← hseq, List.getElem?_map, k2]; rfl
        rw [List.getElem?_map] at hb
        cases hlb : l[i]? with
        | none => simp [hlb] at hb
        | some b =>
          simp only [hlb, Option.map_some, Option.some.injEq] at hb
          obtain ⟨v, g1, g2, g3, g4⟩ := open_pr hT n _ j b k1 hb.symm m _ _ h
          exact ⟨v, b, j.sh, rfl, k3, g1, g2, g3, g4⟩
      have build : ∀ (l : List ATy) (shs : List Shape) (Q : Nat → AV → Prop), l.length = shs.length → (∀ i, i < shs.length → ∃ v b s, l[i]? = some b ∧ shs[i]? = some s ∧ OfTy b v ∧ v.shape = s ∧ v.pure = true ∧ Q i v) →
          ∃ vs : List AV, vs.length = shs.length ∧ OfTys l vs ∧ AV.shapes vs = shs ∧ AV.pures vs = true ∧ ∀ i v, vs[i]? = some v → Q i v := by
        intro l
        induction l with
        | nil =>
          intro shs Q hlen _
          have : shs = [] := List.eq_nil_of_length_eq_zero hlen.symm
          subst this
          exact ⟨[], rfl, rfl, rfl, rfl, fun i v h => by simp at h⟩
        | cons b l ih =>
          intro shs Q hlen h
          cases shs with
          | nil => simp at hlen
          | cons s shs =>
            obtain ⟨vs, k1, k2, k3, k4, k5⟩ := ih shs (fun i => Q (i + 1)) (by simpa using hlen) fun i hi => by
              have := h (i + 1) (by simpa using hi)
              simpa using this
            obtain ⟨v, b', s', e1, e2, g1, g2, g3, g4⟩ := h 0 (by simp)
            simp only [List.getElem?_cons_zero, Option.some.injEq] at e1 e2
            subst e1 e2
            refine ⟨v :: vs, by simp [k1], ⟨v, vs, rfl, g1, k2⟩, by rw [AV.shapes, g2, k3], by rw [AV.pures, g3, k4]; rfl, fun i u hu => ?_⟩
            cases i with
            | zero => simp only [List.getElem?_cons_zero, Option.some.injEq] at hu; subst hu; exact g4
            | succ i => exact k5 i u (by simpa using hu)
      obtain ⟨vs, k1, k2, k3, k4, k5⟩ := build l shs (fun i v => ∃ s, shs[i]? = some s ∧ PR w (ground w).lim v ((cs.drop (Shape.sizes (shs.take i))).take s.size)) hll fun i hi => by
        obtain ⟨v, b, s, g1, g2, g3, g4, g5, g6⟩ := all i hi
        exact ⟨v, b, s, g1, g2, g3, g4, g5, s, g2, g6⟩
      obtain ⟨ps, q1, q2⟩ := prs_of (w := w) (lim := (ground w).lim) shs vs cs k1 (by rw [hcl, hcell, hsh, Shape.size]) fun i s v hs hv => by
        obtain ⟨s', e, g⟩ := k5 i v hv
        rw [hs] at e
        simp only [Option.some.injEq] at e
        subst e
        exact g
      exact ⟨.st vs, ⟨vs, rfl, k2⟩, by rw [hsh, AV.shape, k3], by rw [AV.pure, k4], ps, q1, q2⟩
    | ptr e => simp [hkk] at ha
    | map a b => simp [hkk] at ha
    | func => simp [hkk] at ha
    | tup => simp [hkk] at ha
end
end Go.WL
namespace Go.WL
open Go.ChangeShapes Go.WideShapes Go.ChangeAt Go.RowKit

section
variable {H : Type} {enc : TypeId × Value → H} {P : Program} {D : Tabs} {W W' : World} {base : Nat} {spare : Nat → Bool} {held : Bool}
theorem okWide_array {n e t : Nat} {r : Reach} {v : Value} (ht : P.underlying t = some (.array n e)) (h : Value.okWide P W r base t v) : ∃ cs, v = .agg cs := by
  unfold Value.okWide at h
  rw [ht] at h
  obtain ⟨cs, h, _⟩ := h
  exact ⟨cs, h⟩

/-- An argument, as it comes in. -/
theorem open_arg (hT : TabOK P D) {t : Nat} {a : ATy} {n b0 : Nat} (ha : aty D n t = some a) {v : Value} {r : Reach} (hv : Value.okWide P W r b0 t v) {d : DataW H} {p : List MemPlace} (h : DataW.Trod enc P W base spare held t v d p) :
    ∃ x, OfTy a x ∧ Rep0 (ground W) [] x v := by
  obtain ⟨fuel, h⟩ := h
  cases hti : lookT D.ty t with
  | none => cases n <;> simp [aty, hti] at ha
  | some ti =>
    obtain ⟨x, h1, h2, h3, h4⟩ := open_pr hT n t ti a hti ha fuel _ _ h
    refine ⟨x, h1, ?_⟩
    obtain ⟨desc, inf, z, g1, _, _, _, hk, _⟩ := (hT t ti hti).fact
    have i4 := (IR_pure (E := ground W) (shs := []) x _ h3).2 h4
    have lf : ti.sh = .lf → v.cells.toList = [v] → Rep0 (ground W) [] x v := by
      intro e1 e2
      rw [rep0_lf (h2.trans e1), ← e2]
      exact i4
    have ag : ti.sh ≠ .lf → (∃ cs, v = .agg cs) → Rep0 (ground W) [] x v := by
      rintro e1 ⟨cs, rfl⟩
      rw [rep0_ag (fun e => e1 (h2.symm.trans e))]
      exact ⟨cs, rfl, i4⟩
    cases hkk : ti.k with
    | int k =>
      rw [hkk] at hk
      obtain ⟨e1, rfl⟩ := hk
      obtain ⟨_, rfl⟩ := okWide_int g1 hv
      exact lf e1 rfl
    | bool =>
      rw [hkk] at hk
      obtain ⟨e1, rfl⟩ := hk
      obtain ⟨_, rfl⟩ := okWide_bool g1 hv
      exact lf e1 rfl
    | str =>
      rw [hkk] at hk
      obtain ⟨e1, rfl⟩ := hk
      obtain ⟨_, rfl⟩ := okWide_string g1 hv
      exact lf e1 rfl
    | slice e =>
      rw [hkk] at hk
      obtain ⟨e1, rfl⟩ := hk
      obtain ⟨_, _, _, rfl⟩ := okWide_slice g1 hv
      exact lf e1 rfl
    | ptr e =>
      rw [hkk] at hk
      obtain ⟨e1, rfl⟩ := hk
      obtain ⟨_, rfl⟩ := okWide_pointer g1 hv
      exact lf e1 rfl
    | map a b =>
      rw [hkk] at hk
      obtain ⟨e1, rfl⟩ := hk
      obtain ⟨_, rfl⟩ := okWide_map g1 hv
      exact lf e1 rfl
    | func => cases n <;> simp [aty, hti, hkk] at ha
    | tup => cases n <;> simp [aty, hti, hkk] at ha
    | arr m e =>
      rw [hkk] at hk
      obtain ⟨rfl, j, _, e1⟩ := hk
      exact ag (by rw [e1]; simp) (okWide_array g1 hv)
    | strct fs =>
      rw [hkk] at hk
      obtain ⟨fields, shs, rfl, e1, _⟩ := hk
      obtain ⟨cs, e2, _⟩ := okWide_struct g1 hv
      exact ag (by rw [e1]; simp) ⟨cs, e2⟩

def atys (D : Tabs) (ts : List Nat) : Option (List ATy) := seqO (ts.map fun t => aty D 12 t)
theorem open_args (hT : TabOK P D) {b0 : Nat} {r : Reach} : ∀ (ts : List Nat) (as : List ATy) (vs : List Value) (ds : List (DataW H)) (p : List MemPlace), ts.map (fun t => aty D 12 t) = as.map some → DataW.TrodAll enc P W base spare held ts vs ds p →
    (∀ (j : Nat) t v, ts[j]? = some t → vs[j]? = some v → Value.okWide P W r b0 t v) → ∃ xs, OfTys as xs ∧ RepL (ground W) [] xs vs
  | [], as, vs, ds, p, ha, h, hv => by
    have : as = [] := by simpa using ha.symm
    subst this
    obtain ⟨rfl, _, _⟩ := trodAll_nil h
    exact ⟨[], rfl, rfl⟩
  | t :: ts, as, vs, ds, p, ha, h, hv => by
    cases as with
    | nil => simp at ha
    | cons a as =>
      simp only [List.map_cons, List.cons.injEq] at ha
      obtain ⟨v, vs', d, ds', p', q', rfl, rfl, rfl, h0, r0⟩ := trodAll_cons h
      obtain ⟨x, h1, h2⟩ := open_arg hT ha.1 (hv 0 t v rfl rfl) h0
      obtain ⟨xs, h3, h4⟩ := open_args hT ts as vs' ds' q' ha.2 r0 fun j t v e1 e2 => hv (j + 1) t v (by simpa using e1) (by simpa using e2)
      exact ⟨x :: xs, ⟨x, xs, rfl, h1, h3⟩, v, vs', rfl, h2, h4⟩
theorem shut_args (hl : laidOutB P = true) (hb : Below W.heap.size W W') : ∀ (ts : List Nat) (vs : List Value) (ds : List (DataW H)) (p : List MemPlace), (∀ t ∈ ts, P.readableRec t = true ∧ t < P.types.size) → DataW.TrodAll enc P W 0 (fun _ => true) true ts vs ds p →
    ∃ q, DataW.TrodAll enc P W' 0 (fun b => decide (b < W.heap.size)) true ts vs ds q
  | [], vs, ds, p, ha, h => by
    obtain ⟨rfl, rfl, rfl⟩ := trodAll_nil h
    exact ⟨[], rfl⟩
  | t :: ts, vs, ds, p, ha, h => by
    obtain ⟨v, vs', d, ds', p', q', rfl, rfl, rfl, h0, r0⟩ := trodAll_cons h
    obtain ⟨q, hq⟩ := shut_args hl hb ts vs' ds' q' (fun t ht => ha t (List.mem_cons_of_mem _ ht)) r0
    have lt : ∀ x ∈ p', x.block < W.heap.size := by obtain ⟨m, hm⟩ := h0; exact DataW.trod_lt m _ _ _ hm
    exact ⟨_, trodAll_cons_mk (Below.trod hl (ha t (by simp)).1 (ha t (by simp)).2 h0 hb lt) hq⟩
theorem trodAll_len : ∀ (ts : List Nat) (vs : List Value) (ds : List (DataW H)) (p : List MemPlace), DataW.TrodAll enc P W base spare held ts vs ds p → vs.length = ts.length ∧ ds.length = ts.length
  | [], vs, ds, p, h => by
    obtain ⟨rfl, rfl, rfl⟩ := trodAll_nil h
    exact ⟨rfl, rfl⟩
  | t :: ts, vs, ds, p, h => by
    obtain ⟨v, vs', d, ds', p', q', rfl, rfl, rfl, h0, r0⟩ := trodAll_cons h
    obtain ⟨h1, h2⟩ := trodAll_len ts vs' ds' q' r0
    simp [h1, h2]
end

/-- A law that reads no variable, and returns true by its contract, does what its statement says. -/
theorem law_lifted {C : Checked} {D : Tabs} (hT : TabOK C.prog D) (hgl : D.gl = []) (own : ownKnob C.prog.godebug = none) (laid : laidOutB C.prog = true) {f : Nat} {fn : Func} (noInit : C.prog.inits.idxOf? f = none) (hf : C.prog.funcs[f]? = some fn) (hb : fn.body.isNone = false)
    (hname : (fn.name == "runtime.NumGoroutine") = false) {s : ChangeSpec} {bt : Nat} {ts : List Nat} {tys : List ATy} (hbt : fn.resultTypes = #[bt]) (hbool : C.prog.underlying bt = some .bool) (hts : fn.params.toList = ts) (hread : (ts.all fun t => C.prog.readableRec t && decide (t < C.prog.types.size)) = true)
    (has : ts.map (fun t => aty D 12 t) = tys.map some) (hvars : s.vars = [])
    (hs : ∀ (H : Type) (ds : List (DataW H)), ds.length = ts.length → s.fn H ds = { results := [.lit (.bool true)], args := ds })
    {os : Os} (started : os.Started) {H : Type} {enc : TypeId × Value → H}
    (witness : ∃ (w : World) (tape : Tape) (i : Input), w.os = os ∧ (w.forCall tape i).Shaped C.prog ∧ i.vars = [] ∧ Input.okWide C.prog (w.forCall tape i) .any w.heap.size f i ∧
      s.pre6 enc C.prog fn [] false (w.forCall tape i).memory i.args ∧ ({} : Assume).holds C.prog (lone (Frame.enter C.prog f i.args .normal) [] (w.forCall tape i)))
    (contract : ∀ xs, OfTys tys xs → FnOK C.prog D f xs [] fun r _ => r = .sc (.bool true)) :
    ReturnsInHanded {} C os f .any (s.pre6 enc C.prog fn [] false) (s.post enc C.prog fn false true false false) := by
  refine returnsInHanded_of_change (C := C) own started noInit hf witness ?_
  intro W base args ds gs before hval hW hcnd _
  have hW' := hW
  obtain ⟨p, q, hA, hV, rfl, hfz, hnd⟩ := hW
  rw [hvars] at hV
  obtain ⟨rfl, rfl⟩ := trodVars_none hV
  rw [hts] at hA
  obtain ⟨xs, h1, h2⟩ := open_args hT ts tys args.toList ds p has hA fun j t v e1 e2 => hval j t v (by rw [← Array.getElem?_toList, hts]; exact e1) (by rw [← Array.getElem?_toList]; exact e2)
  have := law_of hf hb hname (fun g v h => by rw [hgl] at h; simp [lookV] at h) (contract xs h1) h2
  rw [Array.toArray_toList] at this
  refine this.mono fun e W' ⟨he, bel⟩ => ?_
  subst he
  obtain ⟨qa, hqa⟩ := shut_args laid bel ts args.toList ds p (fun t ht => by
    have := List.all_eq_true.1 hread t ht
    simpa using this) hA
  have hfn : s.fn H (ds ++ []) = { results := [.lit (.bool true)], args := ds } := by
    rw [List.append_nil]
    exact hs H ds (trodAll_len _ _ _ _ hA).2
  refine ⟨_, rfl, ds, [], _, [], qa, [], hW', ?_, ?_, ?_, bel.frame _, fun h => by cases h⟩
  · rw [hfn, hbt]
    exact trodAll_mk1 (shut_bool hbool _)
  · rw [hfn, hts]
    exact hqa
  · rw [hvars, hfn]
    rfl
end Go.WL
namespace Go.WL

/-- The second says less of the same value. -/
def Weak (v v' : AV) : Prop := v = v' ∨ (v.pure = true ∧ v'.pure = true ∧ v'.shape = v.shape ∧ ∀ (w : World) (lim : Nat → Nat) (cs : List Value), PR w lim v cs → PR w lim v' cs)
def Weaks : List AV → List AV → Prop
  | [], ys => ys = []
  | x :: xs, ys => ∃ y zs, ys = y :: zs ∧ Weak x y ∧ Weaks xs zs
theorem Weak.refl (v : AV) : Weak v v := .inl rfl
theorem Weaks.refl : ∀ xs : List AV, Weaks xs xs
  | [] => rfl
  | x :: xs => ⟨x, xs, rfl, .refl x, Weaks.refl xs⟩
theorem Weaks.nil : Weaks [] [] := rfl
theorem Weaks.cons {x y : AV} {xs ys : List AV} (h : Weak x y) (k : Weaks xs ys) : Weaks (x :: xs) (y :: ys) := ⟨y, ys, rfl, h, k⟩
theorem Weak.ro {s : Shape} {xs : List AV} : Weak (.sl s xs .ex) (.sl s xs .ro) := by
  refine .inr ⟨rfl, rfl, rfl, fun w lim cs h => ?_⟩
  obtain ⟨a, c, h1, h2, h3, h4, h5, h6⟩ := h
  exact ⟨a, c, h1, h2, by simp, h4, h5, h6⟩
theorem Weaks.len : ∀ {xs ys : List AV}, Weaks xs ys → ys.length = xs.length
  | [], ys, h => by rw [show ys = [] from h]
  | x :: xs, ys, h => by
    obtain ⟨y, zs, rfl, _, h⟩ := h
    simp [h.len]
theorem Weaks.sh {s : Shape} : ∀ {xs ys : List AV}, Weaks xs ys → allSh s xs → allSh s ys
  | [], ys, h, k => by rw [show ys = [] from h]; exact k
  | x :: xs, ys, h, k => by
    obtain ⟨y, zs, rfl, h0, h⟩ := h
    have k0 := k x (by simp)
    intro z hz
    rcases List.mem_cons.1 hz with rfl | hz
    · rcases h0 with rfl | ⟨_, h2, h3, _⟩
      · exact k0
      · exact ⟨h3.trans k0.1, h2⟩
    · exact h.sh (fun u hu => k u (List.mem_cons_of_mem _ hu)) z hz
theorem Weaks.prs {w : World} {lim : Nat → Nat} : ∀ {xs ys : List AV} {ps : List (List Value)}, Weaks xs ys → PRs w lim xs ps → PRs w lim ys ps
  | [], ys, ps, h, k => by rw [show ys = [] from h]; exact k
  | x :: xs, ys, ps, h, k => by
    obtain ⟨y, zs, rfl, h0, h⟩ := h
    obtain ⟨p, qs, rfl, k0, k⟩ := k
    refine ⟨p, qs, rfl, ?_, h.prs k⟩
    rcases h0 with rfl | ⟨_, _, _, h4⟩
    · exact k0
    · exact h4 _ _ _ k0
theorem Weak.sl {s : Shape} {xs ys : List AV} {m : Mark} (hm : m = .ex ∨ m = .ro) (h : Weaks xs ys) : Weak (.sl s xs m) (.sl s ys .ro) := by
  refine .inr ⟨by rcases hm with rfl | rfl <;> rfl, rfl, rfl, fun w lim cs k => ?_⟩
  obtain ⟨a, c, h1, h2, h3, h4, h5, h6⟩ := k
  refine ⟨a, c, by rw [h.len]; exact h1, by rw [h.len]; exact h2, by simp, h.sh h4, h5, ?_⟩
  rcases h6 with rfl | ⟨ad, ps, g1, g2, g3⟩
  · exact .inl h
  · exact .inr ⟨ad, ps, g1, h.prs g2, g3⟩
theorem Weak.rep0 {E : Env} {shs : List Shape} {v v' : AV} {u : Value} (h : Weak v v') (k : Rep0 E shs v u) : Rep0 E shs v' u := by
  rcases h with rfl | ⟨h1, h2, h3, h4⟩
  · exact k
  · by_cases hs : v.shape = .lf
    · rw [rep0_lf hs] at k
      rw [rep0_lf (h3.trans hs)]
      exact (IR_pure _ _ h2).2 (h4 _ _ _ ((IR_pure _ _ h1).1 k))
    · obtain ⟨cs, e, k⟩ := (rep0_ag hs).1 k
      exact (rep0_ag (fun e => hs (h3.symm.trans e))).2 ⟨cs, e, (IR_pure _ _ h2).2 (h4 _ _ _ ((IR_pure _ _ h1).1 k))⟩
theorem Weaks.repL {E : Env} {shs : List Shape} : ∀ {xs ys : List AV} {us : List Value}, Weaks xs ys → RepL E shs xs us → RepL E shs ys us
  | [], ys, us, h, k => by rw [show ys = [] from h]; exact k
  | x :: xs, ys, us, h, k => by
    obtain ⟨y, zs, rfl, h0, h⟩ := h
    obtain ⟨u, vs, rfl, k0, k⟩ := k
    exact ⟨u, vs, rfl, h0.rep0 k0, h.repL k⟩
/-- A contract holds of arguments of which more is known. -/
theorem FnOK.weak {P : Program} {D : Tabs} {f : Nat} {args args' st : List AV} {Q : AV → List AV → Prop} (h : FnOK P D f args' st Q) (hw : Weaks args args') : FnOK P D f args st Q :=
  ⟨fun E us h1 h2 h3 => h.run E us h1 h2 (hw.repL h3)⟩
/-- A slice of numbers, as an argument. -/
theorem ints_of {k : IntKind} {v : AV} (h : OfTy (.sl .lf (.int k)) v) : ∃ l : List Int, v = .sl .lf (l.map fun n => .sc (.int k n)) .ro ∧ l.length ≤ maxLen ∧ ∀ n ∈ l, (Lit.int k n).wf = true := by
  obtain ⟨xs, rfl, h1, h2⟩ := h
  have : ∀ xs : List AV, (∀ x ∈ xs, OfTy (.int k) x) → ∃ l : List Int, xs = l.map (fun n => .sc (.int k n)) ∧ ∀ n ∈ l, (Lit.int k n).wf = true := by
    intro xs
    induction xs with
    | nil => intro _; exact ⟨[], rfl, by simp⟩
    | cons x xs ih =>
      intro h
      obtain ⟨l, e, hl⟩ := ih fun y hy => h y (List.mem_cons_of_mem _ hy)
      obtain ⟨i, e2, hi⟩ := h x (by simp)
      refine ⟨i :: l, by rw [e, e2]; rfl, fun n hn => ?_⟩
      rcases List.mem_cons.1 hn with rfl | hn
      · exact hi
      · exact hl n hn
  obtain ⟨l, rfl, hl⟩ := this xs h2
  exact ⟨l, rfl, by simpa using h1, hl⟩
/-- Bytes, as an argument. -/
theorem bytes_of {v : AV} (h : OfTy (.sl .lf (.int .u8)) v) : ∃ b : List UInt8, v = .sl .lf (by8 b) .ro ∧ b.length ≤ maxLen := by
  obtain ⟨l, rfl, h1, hl⟩ := ints_of h
  obtain ⟨b, e1, e2⟩ := as_bytes l hl
  exact ⟨b, by rw [e1], by rw [e2]; exact h1⟩
theorem wf_i64 {i : Int} (h : (Lit.int .i64 i).wf = true) : -9223372036854775808 ≤ i ∧ i < 9223372036854775808 := by
  simp [Lit.wf, IntKind.min, IntKind.max, IntKind.signed, IntKind.bits] at h
  omega
theorem wf_u64 {i : Int} (h : (Lit.int .u64 i).wf = true) : 0 ≤ i ∧ i < 18446744073709551616 := by
  simp [Lit.wf, IntKind.min, IntKind.max, IntKind.signed, IntKind.bits] at h
  omega
theorem wf_u32 {i : Int} (h : (Lit.int .u32 i).wf = true) : 0 ≤ i ∧ i < 4294967296 := by
  simp [Lit.wf, IntKind.min, IntKind.max, IntKind.signed, IntKind.bits] at h
  omega
theorem wf_u16 {i : Int} (h : (Lit.int .u16 i).wf = true) : 0 ≤ i ∧ i < 65536 := by
  simp [Lit.wf, IntKind.min, IntKind.max, IntKind.signed, IntKind.bits] at h
  omega
theorem wf_u8 {i : Int} (h : (Lit.int .u8 i).wf = true) : 0 ≤ i ∧ i < 256 := by
  simp [Lit.wf, IntKind.min, IntKind.max, IntKind.signed, IntKind.bits] at h
  omega
end Go.WL
namespace Go.WL
theorem ints_map {k : IntKind} : ∀ xs : List AV, (∀ x ∈ xs, OfTy (.int k) x) → ∃ l : List Int, xs = l.map (fun n => .sc (.int k n)) ∧ ∀ n ∈ l, (Lit.int k n).wf = true
  | [], _ => ⟨[], rfl, by simp⟩
  | x :: xs, h => by
    obtain ⟨l, e, hl⟩ := ints_map xs fun y hy => h y (List.mem_cons_of_mem _ hy)
    obtain ⟨i, e2, hi⟩ := h x (by simp)
    refine ⟨i :: l, by rw [e, e2]; rfl, fun n hn => ?_⟩
    rcases List.mem_cons.1 hn with rfl | hn
    · exact hi
    · exact hl n hn
/-- An array of bytes, as an argument. -/
theorem arr_of {n : Nat} {v : AV} (h : OfTy (.ar n .lf (.int .u8)) v) : ∃ b : List UInt8, v = .ar n .lf (by8 b) ∧ b.length = n := by
  obtain ⟨xs, rfl, h1, h2⟩ := h
  obtain ⟨l, rfl, hl⟩ := ints_map xs h2
  obtain ⟨b, e1, e2⟩ := as_bytes l hl
  exact ⟨b, by rw [e1], by rw [e2]; simpa using h1⟩
theorem nat_u64 {i : Int} (h : (Lit.int .u64 i).wf = true) : ∃ n : Nat, i = (n : Int) ∧ n < 18446744073709551616 := by
  have := wf_u64 h
  exact ⟨i.toNat, by omega, by omega⟩
theorem nat_u32 {i : Int} (h : (Lit.int .u32 i).wf = true) : ∃ n : Nat, i = (n : Int) ∧ n < 4294967296 := by
  have := wf_u32 h
  exact ⟨i.toNat, by omega, by omega⟩
end Go.WL
namespace Go.WL
theorem arrs_map {n : Nat} : ∀ xs : List AV, (∀ x ∈ xs, OfTy (.ar n .lf (.int .u8)) x) → ∃ l : List (List UInt8), xs = l.map (fun b => .ar n .lf (by8 b)) ∧ ∀ b ∈ l, b.length = n
  | [], _ => ⟨[], rfl, by simp⟩
  | x :: xs, h => by
    obtain ⟨l, e, hl⟩ := arrs_map xs fun y hy => h y (List.mem_cons_of_mem _ hy)
    obtain ⟨b, e2, hb⟩ := arr_of (h x (by simp))
    refine ⟨b :: l, by rw [e, e2]; rfl, fun c hc => ?_⟩
    rcases List.mem_cons.1 hc with rfl | hc
    · exact hb
    · exact hl c hc
theorem arrs_of {n : Nat} {v : AV} (h : OfTy (.sl (.ar n .lf) (.ar n .lf (.int .u8))) v) : ∃ l : List (List UInt8), v = .sl (.ar n .lf) (l.map fun b => .ar n .lf (by8 b)) .ro ∧ ∀ b ∈ l, b.length = n := by
  obtain ⟨xs, rfl, h1, h2⟩ := h
  obtain ⟨l, rfl, hl⟩ := arrs_map xs h2
  exact ⟨l, rfl, hl⟩
theorem lists_map : ∀ xs : List AV, (∀ x ∈ xs, OfTy (.sl .lf (.int .u8)) x) → ∃ l : List (List UInt8), xs = l.map (fun b => .sl .lf (by8 b) .ro)
  | [], _ => ⟨[], rfl⟩
  | x :: xs, h => by
    obtain ⟨l, e⟩ := lists_map xs fun y hy => h y (List.mem_cons_of_mem _ hy)
    obtain ⟨b, e2, _⟩ := bytes_of (h x (by simp))
    exact ⟨b :: l, by rw [e, e2]; rfl⟩
theorem lists_of {v : AV} (h : OfTy (.sl .lf (.sl .lf (.int .u8))) v) : ∃ l : List (List UInt8), v = .sl .lf (l.map fun b => .sl .lf (by8 b) .ro) .ro ∧ l.length ≤ maxLen := by
  obtain ⟨xs, rfl, h1, h2⟩ := h
  obtain ⟨l, rfl⟩ := lists_map xs h2
  exact ⟨l, rfl, by simpa using h1⟩
end Go.WL
namespace Go.WL
def z32 : List UInt8 := [0, 0, 0, 0, 0, 0, 0, 0, 0, 0, 0, 0, 0, 0, 0, 0, 0, 0, 0, 0, 0, 0, 0, 0, 0, 0, 0, 0, 0, 0, 0, 0]
theorem z32_is : by8 z32 = List.replicate 32 (.sc (.int .u8 0)) := rfl
theorem snocU (l : List UInt8) (c : UInt8) : by8 l ++ [.sc (.int .u8 (c.toNat : Int))] = by8 (l ++ [c]) := by simp [by8]
theorem by8_ap (a b : List UInt8) : by8 a ++ by8 b = by8 (a ++ b) := by simp [by8]
end Go.WL
namespace Go.WL
open Go.RowKit
theorem cell_block {w : World} {a : Addr} {u : Value} (h : w.cell? a = some u) : a.block < w.heap.size := World.block_lt_of_cell? _ _ h
/-- The world below stands: so does all that is told of it. -/
theorem FnOK.ofBelow {P : Program} {D : Tabs} {f : Nat} {args : List AV} {Q : AV → List AV → Prop} (v : Value) (hv : simple v = true) (hQ : Q (.sc v) [])
    (h : ∀ (E : Env) (us : List Value), RepL E (shsOf (boxesOf [])) args us → CallsX P f us.toArray E.w fun u w' => u = v ∧ Below E.w.heap.size E.w w') : FnOK P D f args [] Q := by
  refine ⟨fun E us h1 h2 h3 => (h E us h3).mono fun u w' ⟨e, hb⟩ => ?_⟩
  subst e
  have hbx : E.bx = [] := by
    have := h1.bxl
    simpa [boxesOf] using this
  have hext : Ext E.w E.lim w' E.lim := by
    refine ⟨fun b o ho => ?_, fun _ => Nat.le_refl _⟩
    obtain ⟨x, hx⟩ := h1.lim b o ho
    exact World.cell?_of_block (a := ⟨b, o, none⟩) (hb.block b (cell_block hx))
  refine ⟨{ E with w := w' }, .sc u, [], rfl, ⟨h1.bxl, ?_, ?_, ?_, ?_, ?_⟩, ?_, ⟨hb.os, hb.tape, hb.output, hb.size, hext, ?_, ?_, List.prefix_refl _⟩, List.prefix_refl _, hQ⟩
  · intro id c fl b hc
    simp [boxesOf] at hc
  · intro r hr
    simp [AV.rows, AV.rowss] at hr
  · simp [claims, hbx, AV.rows, AV.rowss]
  · intro b o ho
    obtain ⟨x, hx⟩ := h1.lim b o ho
    exact ⟨x, (hext.cell b o ho).trans hx⟩
  · intro g x hg
    obtain ⟨k1, cs, k2, k3⟩ := h1.glob g x hg
    exact ⟨k1, cs, PR_ext hext _ _ k2, k3.ext hext⟩
  · show PR w' E.lim (.sc u) [u]
    exact ⟨rfl, hv⟩
  · intro b hb2 _
    exact ⟨hb.block b hb2, rfl⟩
  · intro b hb2
    simp [claims, hbx, AV.rows, AV.rowss] at hb2
theorem FnOK.ofCalls {P : Program} {D : Tabs} {f : Nat} {args : List AV} {Q : AV → List AV → Prop} (fn : Func) (hf : P.funcs[f]? = some fn) (hn : (fn.name == "runtime.NumGoroutine") = false) (hb : fn.body.isNone = false) (v : Value) (hv : simple v = true) (hQ : Q (.sc v) [])
    (h : ∀ (E : Env) (us : List Value), RepL E (shsOf (boxesOf [])) args us → Calls P f us.toArray E.w fun e w' => e = .returned v ∧ Below E.w.heap.size E.w w') : FnOK P D f args [] Q :=
  .ofBelow v hv hQ fun E us hr => .inl ⟨fn, hf, hn, hb, (h E us hr).mono fun e w' ⟨h1, h2⟩ => ⟨v, h1, rfl, h2⟩⟩
/-- One cell as an argument. -/
theorem repL_sc {E : Env} {shs : List Shape} {v : Value} {l : List AV} {us : List Value} (h : RepL E shs (.sc v :: l) us) : ∃ vs, us = v :: vs ∧ RepL E shs l vs := by
  obtain ⟨u, vs, rfl, h1, h2⟩ := h
  obtain ⟨e, _⟩ : [u] = [v] ∧ simple v = true := h1
  obtain rfl : u = v := by simpa using e
  exact ⟨vs, rfl, h2⟩
theorem prs_by8 {w : World} {lim : Nat → Nat} : ∀ (l : List UInt8) (ps : List (List Value)), PRs w lim (by8 l) ps → ps.flatten = l.map fun c => .int .u8 c.toNat
  | [], ps, h => by rw [show ps = [] from h]; rfl
  | c :: l, ps, h => by
    obtain ⟨p, qs, rfl, h1, h2⟩ := h
    obtain ⟨e, _⟩ : p = [.int .u8 c.toNat] ∧ _ := h1
    rw [List.flatten_cons, e, prs_by8 l qs h2]
    rfl
/-- An array of bytes as an argument. -/
theorem repL_ar8 {E : Env} {shs : List Shape} {n : Nat} {b : List UInt8} {l : List AV} {us : List Value} (h : RepL E shs (.ar n .lf (by8 b) :: l) us) : ∃ vs, us = .agg (b.map fun c => Value.int .u8 c.toNat).toArray :: vs ∧ b.length = n ∧ RepL E shs l vs := by
  obtain ⟨u, vs, rfl, h1, h2⟩ := h
  obtain ⟨cs, rfl, k⟩ := h1
  obtain ⟨k1, _, ps, k2, k3⟩ := k
  rw [prs_by8 b ps k2] at k3
  refine ⟨vs, ?_, by simpa [by8] using k1, h2⟩
  rw [← k3]
end Go.WL
namespace Go.WL
set_option maxRecDepth 20000
/-- Bytes, as a string. -/
def strB (l : List UInt8) : ByteArray := ⟨l.toArray⟩
theorem strB_app (a b : List UInt8) : strB a ++ strB b = strB (a ++ b) := by
  apply ByteArray.ext
  simp [strB]
theorem strB_size (l : List UInt8) : (strB l).size = l.length := by simp [strB, ByteArray.size]
theorem strB_list (l : List UInt8) : (strB l).toList = l := by rw [ByteArray.toList_eq]; simp [strB]
def hexd (n : Nat) : UInt8 := UInt8.ofNat (if n < 10 then 48 + n else 87 + n)
theorem hex_ext : ∀ n : Fin 16, (({ data := #[48, 49, 50, 51, 52, 53, 54, 55, 56, 57, 97, 98, 99, 100, 101, 102] } : ByteArray).extract n.val (n.val + 1)).data.toList = [hexd n.val] := by decide +kernel
theorem hex_at (n : Nat) (h : n < 16) : ({ data := #[48, 49, 50, 51, 52, 53, 54, 55, 56, 57, 97, 98, 99, 100, 101, 102] } : ByteArray).extract n (n + 1) = strB [hexd n] := by
  apply ByteArray.ext
  apply Array.toList_inj.1
  rw [hex_ext ⟨n, h⟩]
  rfl
def hexB (l : List UInt8) : List UInt8 := l.flatMap fun c => [hexd (c.toNat / 16), hexd (c.toNat % 16)]
theorem hexB_len (l : List UInt8) : (hexB l).length = 2 * l.length := by
  induction l with
  | nil => rfl
  | cons c l ih =>
    have : hexB (c :: l) = [hexd (c.toNat / 16), hexd (c.toNat % 16)] ++ hexB l := rfl
    have h2 : ([hexd (c.toNat / 16), hexd (c.toNat % 16)] : List UInt8).length = 2 := rfl
    have h3 := congrArg List.length this
    rw [List.length_append] at h3
    have h4 : (c :: l).length = l.length + 1 := rfl
    omega
theorem hexB_snoc (l : List UInt8) (i : Nat) (h : i < l.length) : hexB (l.take i) ++ [hexd (l[i].toNat / 16)] ++ [hexd (l[i].toNat % 16)] = hexB (l.take (i + 1)) := by
  rw [List.take_succ_eq_append_getElem h, hexB, hexB, List.flatMap_append, List.append_assoc]
  rfl
end Go.WL
namespace Go.WL
theorem at8u {l : List UInt8} {i : Nat} (h : i < l.length) : (by8 l)[i]? = some (.sc (.int .u8 (l[i].toNat : Int))) := by simp [by8, h]
theorem set8u (l : List UInt8) (i : Nat) (a : UInt8) : (by8 l).set i (.sc (.int .u8 (a.toNat : Int))) = by8 (l.set i a) := by simp [by8, List.map_set]
theorem bytes_strB (s : List UInt8) : bytesAV (strB s) = by8 s := by unfold bytesAV; rw [strB_list]
theorem strB_of (s : ByteArray) : s = strB s.data.toList := by apply ByteArray.ext; simp [strB]
theorem beq_strB (a b : List UInt8) : ((strB a).toList == (strB b).toList) = (a == b) := by rw [strB_list, strB_list]
theorem nil_str : (({ data := #[] } : ByteArray)).toList = [] := by rw [ByteArray.toList_eq]
end Go.WL
namespace Go.WL
open Go
/-- Walk one turn of a loop whose continuation K is any k that grants what K grants at its normal end, and at one exit. -/
theorem enter1 {w : (Ex → AS → Prop) → Prop} {K : Ex → AS → Prop} {A : AS → Prop} {i0 : Nat} {S : AS} {p : Prop} (hA : ∀ τ, A τ → K .normal τ)
    (h : ∀ k : Ex → AS → Prop, (∀ τ, A τ → k .normal τ) → (p → k (.exit i0) S) → w k) (hB : p → K (.exit i0) S) : w K :=
  h K hA hB
/-- As 'enter1', where the turn may come back from the function too. -/
theorem enter2 {w : (Ex → AS → Prop) → Prop} {K : Ex → AS → Prop} {A R : AS → Prop} {i0 : Nat} {S : AS} {p : Prop} (hA : ∀ τ, A τ → K .normal τ) (hR : ∀ τ, R τ → K .ret τ)
    (h : ∀ k : Ex → AS → Prop, (∀ τ, A τ → k .normal τ) → (p → k (.exit i0) S) → (∀ τ, R τ → k .ret τ) → w k) (hB : p → K (.exit i0) S) : w K :=
  h K hA hB hR
/-- As 'enter1', whatever the ends: each is walked on from when it is reached. -/
theorem enter3 {w : (Ex → AS → Prop) → Prop} {K : Ex → AS → Prop} (h : ∀ k : Ex → AS → Prop, (∀ e τ, K e τ → k e τ) → w k) : w K := h K fun _ _ h => h
/-- A number's value kept out of sight, wherever it stands. -/
@[elab_as_elim] theorem swap {x y : Int} {motive : Int → Prop} (e : x = y) (h : ∀ v, v = y → motive v) : motive x := h x e
end Go.WL
namespace Go.WL
/-- One of the first n cells is taken out, the last of them cleared. -/
def del1 (L : List AV) (i n : Nat) (z : AV) : List AV := L.take i ++ (L.drop (i + 1)).take (n - (i + 1)) ++ z :: L.drop n
theorem del1_app {xs J : List AV} {i n : Nat} {z : AV} (hn : xs.length = n) (hi : i < n) : del1 (xs ++ J) i n z = xs.eraseIdx i ++ z :: J := by
  unfold del1
  have e1 : List.drop n (xs ++ J) = J := by rw [List.drop_append_of_le_length (by omega), List.drop_of_length_le (by omega), List.nil_append]
  have e2 : List.take (n - (i + 1)) (List.drop (i + 1) (xs ++ J)) = List.drop (i + 1) xs := by
    rw [List.drop_append_of_le_length (by omega), List.take_append_of_le_length (by simp; omega), List.take_of_length_le (by simp; omega)]
  rw [e1, e2, List.take_append_of_le_length (by omega), List.eraseIdx_eq_take_drop_succ]
theorem del1_of {L : List AV} {i n : Nat} {z : AV} (hi : i < n) (hn : n ≤ L.length) :
    List.take (n - 1) (List.take i L ++ List.take (n - (i + 1)) (List.drop (i + 1) L) ++ List.drop (n - 1) L) ++ List.replicate 1 z ++ List.drop (n - 1 + 1) (List.take i L ++ List.take (n - (i + 1)) (List.drop (i + 1) L) ++ List.drop (n - 1) L) = del1 L i n z := by
  have hl : (List.take i L ++ List.take (n - (i + 1)) (List.drop (i + 1) L)).length = n - 1 := by
    rw [List.length_append, List.length_take, List.length_take, List.length_drop]; omega
  unfold del1
  generalize List.take i L ++ List.take (n - (i + 1)) (List.drop (i + 1) L) = A at *
  rw [List.take_append_of_le_length (by omega), List.take_of_length_le (by omega), List.drop_append, List.drop_of_length_le (l := A) (by omega), hl, List.nil_append, List.drop_drop, show n - 1 + (n - 1 + 1 - (n - 1)) = n by omega, List.append_assoc]
  rfl
end Go.WL
namespace Go.WL
theorem run_overlaps_box {P : Program} (w : World) (tS tR e : TypeId) (ht : P.underlying tS = some (.slice e)) (size : Nat) (hz : ∀ w, (Go.sizeOf e).run P w = .ok size w)
    (a b : Addr) (la ca lb cb : Nat) (hne : a.block ≠ b.block) (tA tB : TypeId) (kA kB : Nat)
    (hsa : w.shape? a.block = some (tA, kA)) (hsb : w.shape? b.block = some (tB, kB)) (hkA : kA ≠ 0)
    (hfb : w.frozen? b = false) (hfe : w.frozen? { block := b.block, off := kB } = false) :
    (Extern.SlicesOverlaps.overlaps #[tS, tS] #[tR] #[.slice (some a) la ca, .slice (some b) lb cb]).run P w = .ok (.bool false) w := by
  have hnb : (a.block != b.block) = true := by simpa using hne
  have hnb' : (a.block == b.block) = false := by simpa using hne
  change Sem.run P (α := Value) (do
    let some t := (#[tS, tS] : Array TypeId)[0]? | stuck "slices.overlaps: no parameter types"
    let .slice elem ← underlying t | stuck "slices.overlaps: slice type expected"
    let size ← sizeOf elem
    match (some a : Option Addr), (some b : Option Addr) with
    | some a, some b =>
      if la = 0 ∨ lb = 0 ∨ size = 0 then pure (Value.bool false)
      else if a.block != b.block && (← frozen a) && (← frozen b) then unsupported .addressObserved
      else do
        if a.block != b.block then do
          noView a; noView b
          if ← mayBeOne a b then return Value.bool ((← choose (.extern "sameAddr.stringBytes" 2)) == 1)
        pure (Value.bool (a.block == b.block && a.off < b.off + lb * size && b.off < a.off + la * size))
    | _, _ => pure (Value.bool false)) w = _
  by_cases h0 : la = 0 ∨ lb = 0 ∨ size = 0
  · simp [run_underlying ht, hz, h0]
  · cases kA with
    | zero => exact absurd rfl hkA
    | succ kA =>
      cases hfa : w.frozen? a with
      | true => simp [run_underlying ht, hz, h0, hnb, hnb', frozen, noView, viewAt, mayBeOne, stringish, shape, Sem.run, hsa, hsb, hfa, hfb, hfe]
      | false =>
        cases hfa2 : w.frozen? { block := a.block, off := kA + 1 } with
        | true => simp [run_underlying ht, hz, h0, hnb, hnb', frozen, noView, viewAt, mayBeOne, stringish, shape, Sem.run, hsa, hsb, hfa, hfa2, hfb, hfe]
        | false => simp [run_underlying ht, hz, h0, hnb, hnb', frozen, noView, viewAt, mayBeOne, stringish, shape, Sem.run, hsa, hsb, hfa, hfa2, hfb, hfe]
theorem fz_of {w : World} {b : Nat} {cs : Array Value} {ty : TypeId} {fz : Nat × Nat} (h : w.heap[b]? = some (.cells cs ty fz)) (hf : fzOK cs fz) (o : Nat) : w.frozen? ⟨b, o, none⟩ = false := by
  unfold World.frozen?
  rw [h]
  obtain ⟨lo, hi⟩ := fz
  have hf : hi ≤ lo := by
    rcases hf with hf | hf
    · omega
    · exact hf
  simp only [Bool.and_eq_false_iff, decide_eq_false_iff_not]
  omega
theorem FnOK.overlaps {P : Program} {D : Tabs} {f : Nat} {fn : Func} {tS tR e : TypeId} {s : Shape} {x : AV} {m : Mark} {off len cap n : Nat} {L : List AV} (hf : P.funcs[f]? = some fn) (hn : (fn.name == "runtime.NumGoroutine") = false) (hb : fn.body.isNone = true) (hx : Extern.findNext fn = none)
    (he : Extern.find fn = some (Extern.SlicesOverlaps.overlaps #[tS, tS] #[tR])) (ht : P.underlying tS = some (.slice e)) (hs : 0 < s.size) (hz : ∀ w, (Go.sizeOf e).run P w = .ok s.size w) (hm : m = .ex ∨ m = .ro) :
    FnOK P D f [.sl s [x] m, .bs 0 [] s off len cap] [.ar n s L] (fun r st => r = .sc (.bool false) ∧ st = [.ar n s L]) := by
  refine ⟨fun E us h1 h2 h3 => ?_⟩
  obtain ⟨u, us2, rfl, k1, u2, us3, rfl, k2, k3⟩ := h3
  have k3 : us3 = [] := k3
  subst k3
  have k1 : IR E (shsOf (boxesOf [.ar n s L])) (.sl s [x] m) [u] := by rcases hm with rfl | rfl <;> exact k1
  obtain ⟨⟨ad, c, e1, _, _, hsh, _, hl⟩, _⟩ := k1
  simp only [List.cons.injEq, and_true] at e1
  subst e1
  obtain ⟨ad, ps, rfl, hp, hl⟩ := hl.resolve_left (by simp)
  obtain ⟨p, qs, rfl, hp1, hp2⟩ := hp
  have hp2 : qs = [] := hp2
  subst hp2
  have hpl := PR_len x p hp1
  rw [(hsh x (by simp)).1] at hpl
  obtain ⟨b, t, o, n2, o', g1, g2, _, _, _, _, _, e2⟩ := k2
  simp only [List.cons.injEq, and_true] at e2
  subst e2
  have g1 : E.bx[0]? = some b := g1
  obtain ⟨cs, ty, fz, q1, q2, q3, _, q5⟩ := h1.box 0 (.ar n s L) false b rfl g1
  have hlim := q5 rfl
  obtain ⟨v0, p', rfl⟩ : ∃ v0 p', p = v0 :: p' := by
    cases p with
    | nil => simp at hpl; omega
    | cons v0 p' => exact ⟨v0, p', rfl⟩
  have hcell := hl.2.1 0 v0 rfl
  have hlm := hl.2.2 (by simp)
  have hne : ad.block ≠ b := by
    intro e
    rw [e, hlim] at hlm
    simp at hlm
  obtain ⟨csA, tyA, fzA, ha⟩ : ∃ cs ty fz, E.w.heap[ad.block]? = some (.cells cs ty fz) := by
    unfold World.cell? at hcell
    split at hcell
    · rename_i c _ _ h; exact ⟨_, _, _, h⟩
    · simp at hcell
  have hcA : csA.size ≠ 0 := by
    intro h0
    have : csA[ad.off + 0]? = some v0 := by
      rw [cell_of ha] at hcell
      exact hcell
    have := (Array.getElem?_eq_some_iff.1 this).1
    omega
  refine .inr ⟨.bool false, E.w, ?_, E, .sc (.bool false), [.ar n s L], rfl, h1, ⟨rfl, rfl⟩, ⟨rfl, rfl, rfl, Nat.le_refl _, Ext.refl _ _, fun _ _ _ => ⟨rfl, rfl⟩, fun b hb _ => hb, List.prefix_refl _⟩, List.prefix_refl _, rfl, rfl⟩
  rw [run_callFunc_extern hf hn hb hx he]
  rw [show ([Value.slice (some ad) [x].length c, Value.slice (some ⟨b, o', none⟩) len cap] : List Value).toArray = #[.slice (some ad) 1 c, .slice (some ⟨b, o', none⟩) len cap] from rfl]
  rw [run_overlaps_box E.w tS tR e ht s.size hz ad ⟨b, o', none⟩ 1 c len cap hne tyA ty csA.size cs.size (by simp [World.shape?, ha]) (by simp [World.shape?, q1]) hcA (fz_of q1 q2 _) (fz_of q1 q2 _)]
  rfl
end Go.WL
namespace Go.WL
set_option linter.unusedVariables false
set_option linter.unusedSimpArgs false
set_option linter.unusedSectionVars false
/-! ### Texts -/
theorem sl_irr : ∀ a : List UInt8, Op.bytesLess a a = false
  | [] => rfl
  | a :: x => by
    have h := sl_irr x
    have h0 : ¬ a < a := UInt8.lt_irrefl a
    simp [Op.bytesLess, h, h0]
theorem u8_tri {a b : UInt8} (h : ¬ a < b) (k : ¬ b < a) : a = b := by
  rw [UInt8.lt_iff_toNat_lt] at h k
  exact UInt8.toNat.inj (by omega)
theorem sl_tri : ∀ a b : List UInt8, Op.bytesLess a b = false → Op.bytesLess b a = false → a = b
  | [], [], _, _ => rfl
  | [], _ :: _, h, _ => by simp [Op.bytesLess] at h
  | _ :: _, [], _, h => by simp [Op.bytesLess] at h
  | a :: x, b :: y, h, k => by
    simp only [Op.bytesLess, Bool.or_eq_false_iff, decide_eq_false_iff_not] at h k
    obtain rfl := u8_tri h.1 k.1
    have h2 := h.2
    have k2 := k.2
    simp only [beq_self_eq_true, Bool.true_and] at h2 k2
    rw [sl_tri x y h2 k2]
theorem sl_trans : ∀ a b c : List UInt8, Op.bytesLess a b = true → Op.bytesLess b c = true → Op.bytesLess a c = true
  | _, [], _, h, _ => by cases ‹List UInt8› <;> simp [Op.bytesLess] at h
  | _, _ :: _, [], _, h => by simp [Op.bytesLess] at h
  | [], _ :: _, _ :: _, _, _ => by simp [Op.bytesLess]
  | a :: x, b :: y, c :: z, h, k => by
    simp only [Op.bytesLess, Bool.or_eq_true, decide_eq_true_eq, Bool.and_eq_true, beq_iff_eq] at h k ⊢
    rcases h with h | ⟨rfl, h⟩
    · rcases k with k | ⟨rfl, k⟩
      · left
        rw [UInt8.lt_iff_toNat_lt] at *
        omega
      · exact .inl h
    · rcases k with k | ⟨rfl, k⟩
      · exact .inl k
      · exact .inr ⟨rfl, sl_trans x y z h k⟩
theorem cmp_lt : ∀ a b : List UInt8, Lib.compareBytes a b < 0 ↔ Op.bytesLess a b = true
  | [], [] => by simp [Lib.compareBytes, Op.bytesLess]
  | [], _ :: _ => by simp [Lib.compareBytes, Op.bytesLess]
  | _ :: _, [] => by simp [Lib.compareBytes, Op.bytesLess]
  | a :: x, b :: y => by
    have ih := cmp_lt x y
    unfold Lib.compareBytes
    simp only [Op.bytesLess, Bool.or_eq_true, decide_eq_true_eq, Bool.and_eq_true, beq_iff_eq]
    by_cases h : a < b
    · simp [h]
    · by_cases k : b < a
      · have : a ≠ b := by rintro rfl; exact UInt8.lt_irrefl _ k
        simp [h, k, this]
      · obtain rfl := u8_tri h k
        simp [h, ih]
theorem cmp_eq0 : ∀ a b : List UInt8, Lib.compareBytes a b = 0 ↔ a = b
  | [], [] => by simp [Lib.compareBytes]
  | [], _ :: _ => by simp [Lib.compareBytes]
  | _ :: _, [] => by simp [Lib.compareBytes]
  | a :: x, b :: y => by
    have ih := cmp_eq0 x y
    unfold Lib.compareBytes
    by_cases h : a < b
    · have : a ≠ b := by rintro rfl; exact UInt8.lt_irrefl _ h
      simp [h, this]
    · by_cases k : b < a
      · have : a ≠ b := by rintro rfl; exact UInt8.lt_irrefl _ k
        simp [h, k, this]
      · obtain rfl := u8_tri h k
        simp [h, ih]
/-! ### Sorted lists -/
/-- A strict order. -/
structure Lin {κ : Type} (lt : κ → κ → Bool) : Prop where
  irr : ∀ a, lt a a = false
  tri : ∀ a b, lt a b = false → lt b a = false → a = b
  trans : ∀ a b c, lt a b = true → lt b c = true → lt a c = true
def slt (a b : List UInt8) : Bool := Op.bytesLess a b
theorem sLin : Lin slt := ⟨sl_irr, sl_tri, sl_trans⟩
def ilt (a b : Int) : Bool := decide (a < b)
theorem iLin : Lin ilt := ⟨fun a => by simp [ilt], fun a b h k => by simp only [ilt, decide_eq_false_iff_not] at h k; omega, fun a b c h k => by simp only [ilt, decide_eq_true_eq] at h k ⊢; omega⟩
theorem Lin.asym {κ : Type} {lt : κ → κ → Bool} (L : Lin lt) {a b : κ} (h : lt a b = true) : lt b a = false := by
  cases k : lt b a with
  | false => rfl
  | true => have := L.trans _ _ _ h k; rw [L.irr] at this; cases this
section
variable {α κ : Type} [DecidableEq κ] (key : α → κ) (lt : κ → κ → Bool)
def Srt (l : List α) : Prop := l.Pairwise fun a b => lt (key a) (key b) = true
/-- Those ahead of a key. -/
def fLt (l : List α) (k : κ) : List α := l.filter fun x => lt (key x) k
/-- Those behind a key. -/
def fGt (l : List α) (k : κ) : List α := l.filter fun x => lt k (key x)
/-- One is put in its place. -/
def puL (l : List α) (x : α) : List α := fLt key lt l (key x) ++ x :: fGt key lt l (key x)
/-- One is let go. -/
def dropL (l : List α) (k : κ) : List α := l.filter fun x => !decide (key x = k)
/-- The place of a key. -/
def lo (l : List α) (k : κ) : Nat := (fLt key lt l k).length
def getL (l : List α) (k : κ) : Option α := l.find? fun x => decide (key x = k)
variable {key lt}
theorem Srt.tail {x : α} {l : List α} (h : Srt key lt (x :: l)) : Srt key lt l := (List.pairwise_cons.1 h).2
theorem Srt.head {x : α} {l : List α} (h : Srt key lt (x :: l)) : ∀ y ∈ l, lt (key x) (key y) = true := (List.pairwise_cons.1 h).1
theorem fLt_nil (L : Lin lt) {l : List α} {k : κ} (h : ∀ y ∈ l, lt (key y) k = false) : fLt key lt l k = [] := by
  unfold fLt
  rw [List.filter_eq_nil_iff]
  intro y hy
  rw [h y hy]
  decide
theorem fGt_all {l : List α} {k : κ} (h : ∀ y ∈ l, lt k (key y) = true) : fGt key lt l k = l := by
  unfold fGt
  rw [List.filter_eq_self]
  exact h
/-- A sorted list, cut at a key. -/
theorem cut (L : Lin lt) : ∀ {l : List α} (k : κ), Srt key lt l → (∀ y ∈ l, key y ≠ k) → l = fLt key lt l k ++ fGt key lt l k
  | [], k, _, _ => rfl
  | x :: l, k, h, hn => by
    have ih := cut L k h.tail fun y hy => hn y (List.mem_cons_of_mem _ hy)
    cases hx : lt (key x) k with
    | true =>
      have e : lt k (key x) = false := L.asym hx
      have e1 : fLt key lt (x :: l) k = x :: fLt key lt l k := by unfold fLt; rw [List.filter_cons_of_pos (by simpa using hx)]
      have e2 : fGt key lt (x :: l) k = fGt key lt l k := by unfold fGt; rw [List.filter_cons_of_neg (by simp [e])]
      rw [e1, e2, List.cons_append, ← ih]
    | false =>
      have e : lt k (key x) = true := by
        cases k2 : lt k (key x) with
        | true => rfl
        | false => exact absurd (L.tri _ _ hx k2) (hn x (by simp))
      have hg : ∀ y ∈ x :: l, lt k (key y) = true := by
        intro y hy
        rcases List.mem_cons.1 hy with rfl | hy
        · exact e
        · exact L.trans _ _ _ e (h.head y hy)
      rw [fLt_nil L fun y hy => L.asym (hg y hy), fGt_all hg]
      rfl
/-- .. where the key is there. -/
theorem cutAt (L : Lin lt) : ∀ {l : List α} (k : κ) (x : α), Srt key lt l → x ∈ l → key x = k → l = fLt key lt l k ++ x :: fGt key lt l k
  | [], k, _, _, h, _ => by cases h
  | y :: l, k, x, h, hx, hk => by
    rcases List.mem_cons.1 hx with rfl | hx
    · subst hk
      have hg := h.head
      have e1 : fLt key lt (x :: l) (key x) = [] := fLt_nil L fun y hy => by
        rcases List.mem_cons.1 hy with rfl | hy
        · exact L.irr _
        · exact L.asym (hg y hy)
      have e2 : fGt key lt (x :: l) (key x) = l := by
        unfold fGt
        rw [List.filter_cons_of_neg (by simp [L.irr])]
        exact fGt_all hg
      rw [e1, e2]
      rfl
    · have hy : lt (key y) k = true := by rw [← hk]; exact h.head x hx
      have ih := cutAt L k x h.tail hx hk
      have e1 : fLt key lt (y :: l) k = y :: fLt key lt l k := by unfold fLt; rw [List.filter_cons_of_pos (by simpa using hy)]
      have e2 : fGt key lt (y :: l) k = fGt key lt l k := by unfold fGt; rw [List.filter_cons_of_neg (by simp [L.asym hy])]
      rw [e1, e2, List.cons_append, ← ih]
theorem getL_some {l : List α} {k : κ} {x : α} (h : getL key l k = some x) : x ∈ l ∧ key x = k := by
  unfold getL at h
  exact ⟨List.mem_of_find?_eq_some h, by simpa using List.find?_some h⟩
theorem getL_none {l : List α} {k : κ} (h : getL key l k = none) : ∀ y ∈ l, key y ≠ k := by
  unfold getL at h
  rw [List.find?_eq_none] at h
  intro y hy
  simpa using h y hy
/-- At an index below the place: ahead of the key; from there on: not. -/
theorem at_lo (L : Lin lt) {l : List α} (k : κ) (h : Srt key lt l) (i : Nat) (hi : i < l.length) : lt (key l[i]) k = decide (i < lo key lt l k) := by
  cases hg : getL key l k with
  | some x =>
    obtain ⟨h1, h2⟩ := getL_some hg
    have e := cutAt L k x h h1 h2
    by_cases c : i < lo key lt l k
    · have : l[i] ∈ fLt key lt l k := by
        have e2 : l[i]? = (fLt key lt l k)[i]? := by
          conv => lhs; rw [e]
          rw [List.getElem?_append_left c]
        rw [List.getElem?_eq_getElem hi, List.getElem?_eq_getElem c] at e2
        simp only [Option.some.injEq] at e2
        rw [e2]
        exact List.getElem_mem c
      unfold fLt at this
      rw [List.mem_filter] at this
      rw [this.2, decide_eq_true c]
    · have c' : lo key lt l k ≤ i := by omega
      have : l[i] ∈ x :: fGt key lt l k := by
        have e2 : l[i]? = (x :: fGt key lt l k)[i - lo key lt l k]? := by
          conv => lhs; rw [e]
          rw [List.getElem?_append_right c']
          rfl
        rw [List.getElem?_eq_getElem hi] at e2
        exact List.mem_of_getElem? e2.symm
      rw [decide_eq_false c]
      rcases List.mem_cons.1 this with e3 | e3
      · rw [e3, h2]; exact L.irr k
      · unfold fGt at e3
        rw [List.mem_filter] at e3
        exact L.asym e3.2
  | none =>
    have e := cut L k h (getL_none hg)
    by_cases c : i < lo key lt l k
    · have : l[i] ∈ fLt key lt l k := by
        have e2 : l[i]? = (fLt key lt l k)[i]? := by
          conv => lhs; rw [e]
          rw [List.getElem?_append_left c]
        rw [List.getElem?_eq_getElem hi, List.getElem?_eq_getElem c] at e2
        simp only [Option.some.injEq] at e2
        rw [e2]
        exact List.getElem_mem c
      unfold fLt at this
      rw [List.mem_filter] at this
      rw [this.2, decide_eq_true c]
    · have c' : lo key lt l k ≤ i := by omega
      have : l[i] ∈ fGt key lt l k := by
        have e2 : l[i]? = (fGt key lt l k)[i - lo key lt l k]? := by
          conv => lhs; rw [e]
          rw [List.getElem?_append_right c']
          rfl
        rw [List.getElem?_eq_getElem hi] at e2
        exact List.mem_of_getElem? e2.symm
      rw [decide_eq_false c]
      unfold fGt at this
      rw [List.mem_filter] at this
      exact L.asym this.2
theorem lo_le {l : List α} {k : κ} : lo key lt l k ≤ l.length := List.length_filter_le _ _
/-- Whether the key is there: whether it is at its place. -/
theorem at_key (L : Lin lt) {l : List α} (k : κ) (h : Srt key lt l) : (∃ h : lo key lt l k < l.length, key l[lo key lt l k] = k) ↔ (getL key l k).isSome = true := by
  constructor
  · rintro ⟨h1, h2⟩
    unfold getL
    rw [List.find?_isSome]
    exact ⟨_, List.getElem_mem h1, by simpa using h2⟩
  · intro hs
    obtain ⟨x, hx⟩ := Option.isSome_iff_exists.1 hs
    obtain ⟨h1, h2⟩ := getL_some hx
    have e := cutAt L k x h h1 h2
    have e2 : l[lo key lt l k]? = some x := by
      conv => lhs; arg 1; rw [e]
      unfold lo
      rw [List.getElem?_append_right (Nat.le_refl _)]
      simp
    obtain ⟨h3, h4⟩ := List.getElem?_eq_some_iff.1 e2
    exact ⟨h3, by rw [h4]; exact h2⟩
theorem at_get (L : Lin lt) {l : List α} (k : κ) (h : Srt key lt l) {x : α} (hx : getL key l k = some x) : l[lo key lt l k]? = some x := by
  obtain ⟨h1, h2⟩ := getL_some hx
  have e := cutAt L k x h h1 h2
  conv => lhs; arg 1; rw [e]
  unfold lo
  rw [List.getElem?_append_right (Nat.le_refl _)]
  simp
/-- What is there is set anew: it is put. -/
theorem set_put (L : Lin lt) {l : List α} {x y : α} (h : Srt key lt l) (hy : getL key l (key x) = some y) : l.set (lo key lt l (key x)) x = puL key lt l x := by
  obtain ⟨h1, h2⟩ := getL_some hy
  have e := cutAt L (key x) y h h1 h2
  unfold puL
  conv => lhs; arg 1; rw [e]
  unfold lo
  rw [List.set_append_right _ _ (Nat.le_refl _)]
  simp
theorem ins_put (L : Lin lt) {l : List α} {x : α} (h : Srt key lt l) (hy : getL key l (key x) = none) : l.take (lo key lt l (key x)) ++ x :: l.drop (lo key lt l (key x)) = puL key lt l x := by
  have e := cut L (key x) h (getL_none hy)
  unfold puL
  have e1 : l.take (lo key lt l (key x)) = fLt key lt l (key x) := by
    conv => lhs; arg 2; rw [e]
    exact List.take_left' rfl
  have e2 : l.drop (lo key lt l (key x)) = fGt key lt l (key x) := by
    conv => lhs; arg 2; rw [e]
    exact List.drop_left' rfl
  rw [e1, e2]
theorem dropL_eq (L : Lin lt) {l : List α} {k : κ} (h : Srt key lt l) : dropL key l k = fLt key lt l k ++ fGt key lt l k := by
  have hf : ∀ l : List α, dropL key (fLt key lt l k ++ fGt key lt l k) k = fLt key lt l k ++ fGt key lt l k := by
    intro l
    unfold dropL
    rw [List.filter_eq_self]
    intro y hy
    rcases List.mem_append.1 hy with hy | hy
    · have := (List.mem_filter.1 hy).2
      simp only [Bool.not_eq_true', decide_eq_false_iff_not]
      rintro rfl
      rw [L.irr] at this; cases this
    · have := (List.mem_filter.1 hy).2
      simp only [Bool.not_eq_true', decide_eq_false_iff_not]
      rintro rfl
      rw [L.irr] at this; cases this
  cases hg : getL key l k with
  | none =>
    have e := cut L k h (getL_none hg)
    conv => lhs; rw [e]
    exact hf l
  | some x =>
    obtain ⟨h1, h2⟩ := getL_some hg
    have e := cutAt L k x h h1 h2
    have e3 := hf l
    unfold dropL at e3 ⊢
    conv => lhs; rw [e]
    rw [List.filter_append] at e3 ⊢
    rw [List.filter_cons_of_neg (by simp [h2])]
    exact e3
theorem erase_drop (L : Lin lt) {l : List α} {k : κ} {x : α} (h : Srt key lt l) (hx : getL key l k = some x) : l.eraseIdx (lo key lt l k) = dropL key l k := by
  obtain ⟨h1, h2⟩ := getL_some hx
  have e := cutAt L k x h h1 h2
  rw [dropL_eq L h]
  conv => lhs; arg 1; rw [e]
  unfold lo
  rw [List.eraseIdx_append_of_length_le (Nat.le_refl _)]
  simp
theorem Srt.filter {l : List α} {p : α → Bool} (h : Srt key lt l) : Srt key lt (l.filter p) := List.Pairwise.filter p h
theorem Srt.put (L : Lin lt) {l : List α} {x : α} (h : Srt key lt l) : Srt key lt (puL key lt l x) := by
  unfold puL Srt
  rw [List.pairwise_append]
  refine ⟨h.filter, ?_, ?_⟩
  · rw [List.pairwise_cons]
    exact ⟨fun y hy => (List.mem_filter.1 hy).2, h.filter⟩
  · intro a ha b hb
    have h1 := (List.mem_filter.1 ha).2
    rcases List.mem_cons.1 hb with rfl | hb
    · exact h1
    · exact L.trans _ _ _ h1 (List.mem_filter.1 hb).2
theorem mem_put (L : Lin lt) {l : List α} {x y : α} : y ∈ puL key lt l x ↔ y = x ∨ (y ∈ l ∧ key y ≠ key x) := by
  unfold puL
  rw [List.mem_append, List.mem_cons]
  unfold fLt fGt
  rw [List.mem_filter, List.mem_filter]
  constructor
  · rintro (⟨h1, h2⟩ | rfl | ⟨h1, h2⟩)
    · exact .inr ⟨h1, fun e => by rw [e, L.irr] at h2; cases h2⟩
    · exact .inl rfl
    · exact .inr ⟨h1, fun e => by rw [e, L.irr] at h2; cases h2⟩
  · rintro (rfl | ⟨h1, h2⟩)
    · exact .inr (.inl rfl)
    · cases c : lt (key y) (key x) with
      | true => exact .inl ⟨h1, rfl⟩
      | false =>
        cases d : lt (key x) (key y) with
        | true => exact .inr (.inr ⟨h1, rfl⟩)
        | false => exact absurd (L.tri _ _ c d) h2
theorem mem_drop {l : List α} {k : κ} {y : α} : y ∈ dropL key l k ↔ y ∈ l ∧ key y ≠ k := by
  unfold dropL
  rw [List.mem_filter]
  simp
/-- Two sorted lists of the same things are the same. -/
theorem srt_ext (L : Lin lt) : ∀ {l m : List α}, Srt key lt l → Srt key lt m → (∀ x, x ∈ l ↔ x ∈ m) → l = m
  | [], [], _, _, _ => rfl
  | [], y :: m, _, _, h => absurd ((h y).2 (by simp)) (by simp)
  | x :: l, [], _, _, h => absurd ((h x).1 (by simp)) (by simp)
  | x :: l, y :: m, hl, hm, h => by
    have e : x = y := by
      rcases List.mem_cons.1 ((h x).1 (by simp)) with e | e
      · exact e
      · rcases List.mem_cons.1 ((h y).2 (by simp)) with e2 | e2
        · exact e2.symm
        · have h1 := hm.head x e
          have h2 := hl.head y e2
          rw [L.asym h1] at h2
          cases h2
    subst e
    have : l = m := srt_ext L hl.tail hm.tail fun z => by
      constructor
      · intro hz
        rcases List.mem_cons.1 ((h z).1 (List.mem_cons_of_mem _ hz)) with rfl | e
        · have := hl.head z hz
          rw [L.irr] at this; cases this
        · exact e
      · intro hz
        rcases List.mem_cons.1 ((h z).2 (List.mem_cons_of_mem _ hz)) with rfl | e
        · have := hm.head z hz
          rw [L.irr] at this; cases this
        · exact e
    rw [this]
theorem Srt.uniq (L : Lin lt) {l : List α} {x y : α} (h : Srt key lt l) (hx : x ∈ l) (hy : y ∈ l) (e : key x = key y) : x = y := by
  induction l with
  | nil => cases hx
  | cons z l ih =>
    rcases List.mem_cons.1 hx with e1 | h1
    · rcases List.mem_cons.1 hy with e2 | h2
      · rw [e1, e2]
      · have := h.head y h2
        rw [← e1, e, L.irr] at this; cases this
    · rcases List.mem_cons.1 hy with e2 | h2
      · have := h.head x h1
        rw [← e2, e, L.irr] at this; cases this
      · exact ih h.tail h1 h2
theorem getL_iff (L : Lin lt) {l : List α} {k : κ} {x : α} (h : Srt key lt l) : getL key l k = some x ↔ x ∈ l ∧ key x = k := by
  constructor
  · exact getL_some
  · rintro ⟨h1, h2⟩
    cases hg : getL key l k with
    | none => exact absurd h2 (getL_none hg x h1)
    | some y =>
      obtain ⟨h3, h4⟩ := getL_some hg
      rw [h.uniq L h3 h1 (by rw [h4, h2])]
theorem get_put (L : Lin lt) {l : List α} {x : α} {k : κ} (h : Srt key lt l) : getL key (puL key lt l x) k = if key x = k then some x else getL key l k := by
  by_cases e : key x = k
  · rw [if_pos e]
    exact (getL_iff L (h.put L)).2 ⟨(mem_put L).2 (.inl rfl), e⟩
  · rw [if_neg e]
    cases hg : getL key l k with
    | none =>
      cases hp : getL key (puL key lt l x) k with
      | none => rfl
      | some y =>
        obtain ⟨h1, h2⟩ := getL_some hp
        rcases (mem_put L).1 h1 with rfl | ⟨h3, _⟩
        · exact absurd h2 e
        · exact absurd h2 (getL_none hg y h3)
    | some y =>
      obtain ⟨h1, h2⟩ := getL_some hg
      exact (getL_iff L (h.put L)).2 ⟨(mem_put L).2 (.inr ⟨h1, by rw [h2]; exact fun e2 => e e2.symm⟩), h2⟩
theorem get_drop (L : Lin lt) {l : List α} {k j : κ} (h : Srt key lt l) : getL key (dropL key l j) k = if j = k then none else getL key l k := by
  by_cases e : j = k
  · rw [if_pos e]
    cases hp : getL key (dropL key l j) k with
    | none => rfl
    | some y =>
      obtain ⟨h1, h2⟩ := getL_some hp
      exact absurd (h2.trans e.symm) (mem_drop.1 h1).2
  · rw [if_neg e]
    cases hg : getL key l k with
    | none =>
      cases hp : getL key (dropL key l j) k with
      | none => rfl
      | some y =>
        obtain ⟨h1, h2⟩ := getL_some hp
        exact absurd h2 (getL_none hg y (mem_drop.1 h1).1)
    | some y =>
      obtain ⟨h1, h2⟩ := getL_some hg
      exact (getL_iff L h.filter).2 ⟨mem_drop.2 ⟨h1, by rw [h2]; exact fun e2 => e e2.symm⟩, h2⟩
theorem put_comm (L : Lin lt) {l : List α} {x y : α} (h : Srt key lt l) (hn : key x ≠ key y) : puL key lt (puL key lt l x) y = puL key lt (puL key lt l y) x := by
  refine srt_ext L ((h.put L).put L) ((h.put L).put L) fun z => ?_
  rw [mem_put L, mem_put L, mem_put L, mem_put L]
  constructor
  · rintro (rfl | ⟨rfl | ⟨h1, h2⟩, h3⟩)
    · exact .inr ⟨.inl rfl, fun e => hn e.symm⟩
    · exact .inl rfl
    · exact .inr ⟨.inr ⟨h1, h3⟩, h2⟩
  · rintro (rfl | ⟨rfl | ⟨h1, h2⟩, h3⟩)
    · exact .inr ⟨.inl rfl, hn⟩
    · exact .inl rfl
    · exact .inr ⟨.inr ⟨h1, h3⟩, h2⟩
end
end Go.WL
namespace Go.WL
open Go.RowKit
theorem FnOK.cmpstring {P : Program} {D : Tabs} {f : Nat} {fn : Func} (hf : P.funcs[f]? = some fn) (hn : (fn.name == "runtime.NumGoroutine") = false) (hb : fn.body.isNone = true) (hx : Extern.findNext fn = none)
    (he : Extern.find fn = some Extern.BytealgCompare.compare) (a b : List UInt8) :
    FnOK P D f [.sc (.string (strB a)), .sc (.string (strB b))] [] (fun r st => r = .sc (.int .i64 (Lib.compareBytes a b)) ∧ st = []) := by
  refine .ofBelow (.int .i64 (Lib.compareBytes a b)) rfl ⟨rfl, rfl⟩ fun E us hr => .inr ⟨_, E.w, ?_, rfl, Below.refl _ _⟩
  obtain ⟨vs, rfl, h2⟩ := repL_sc hr
  obtain ⟨vs, rfl, h3⟩ := repL_sc h2
  obtain rfl : vs = [] := h3
  rw [run_callFunc_extern hf hn hb hx he]
  rw [show ([Value.string (strB a), Value.string (strB b)] : List Value).toArray = #[.string (strB a), .string (strB b)] from rfl, Lib.run_compareString]
  rfl
end Go.WL
namespace Go.WL
set_option linter.unusedVariables false
set_option linter.unusedSimpArgs false
structure Pr where
  key : List UInt8
  val : List UInt8
  deriving DecidableEq
def prA (l : List Pr) : List AV := l.map fun x => .st [.sc (.string (strB x.key)), .sc (.string (strB x.val))]
theorem lenPr (l : List Pr) : (prA l).length = l.length := by simp [prA]
theorem atPr {l : List Pr} {i : Nat} (h : i < l.length) : (prA l)[((i : Nat) : Int).toNat]? = some (.st [.sc (.string (strB l[i].key)), .sc (.string (strB l[i].val))]) := by simp [prA, h]
def mayP1 (ok : List UInt8 → Bool) (x : Pr) : Bool := ok x.key && decide (x.val.length ≤ 40)
/-- The first n of them may be. -/
def mayPN (ok : List UInt8 → Bool) (l : List Pr) : Nat → Bool
  | 0 => true
  | n + 1 => mayPN ok l n && (match l[n]? with
    | none => true
    | some x => mayP1 ok x && (match n with
      | 0 => true
      | m + 1 => match l[m]? with
        | none => true
        | some y => slt y.key x.key))
def srtP : List Pr → Prop := Srt Pr.key slt
def mayP (ok : List UInt8 → Bool) (l : List Pr) : Bool := decide (l.length ≤ 100) && mayPN ok l l.length
theorem mayPN_le (ok : List UInt8 → Bool) (l : List Pr) : ∀ (m n : Nat), n ≤ m → mayPN ok l m = true → mayPN ok l n = true
  | 0, n, h, k => by rw [show n = 0 by omega]; rfl
  | m + 1, n, h, k => by
    by_cases e : n = m + 1
    · rw [e]; exact k
    · refine mayPN_le ok l m n (by omega) ?_
      rw [mayPN, Bool.and_eq_true] at k
      exact k.1
theorem mayPN_iff (ok : List UInt8 → Bool) (l : List Pr) : mayPN ok l l.length = true ↔ (∀ x ∈ l, mayP1 ok x = true) ∧ srtP l := by
  have key : ∀ n, n ≤ l.length → (mayPN ok l n = true ↔ (∀ x ∈ l.take n, mayP1 ok x = true) ∧ srtP (l.take n)) := by
    intro n
    induction n with
    | zero => intro _; simp [mayPN, srtP, Srt]
    | succ n ih =>
      intro h
      have ih := ih (by omega)
      rw [mayPN, Bool.and_eq_true, ih, List.getElem?_eq_getElem (by omega : n < l.length), List.take_succ_eq_append_getElem (by omega : n < l.length)]
      unfold srtP Srt
      rw [List.pairwise_append]
      simp only [List.mem_append, List.mem_singleton, List.pairwise_cons, List.not_mem_nil, false_implies, implies_true, List.Pairwise.nil, and_self, true_and]
      constructor
      · rintro ⟨⟨h1, h2⟩, h3⟩
        rw [Bool.and_eq_true] at h3
        refine ⟨fun x hx => hx.elim (h1 x) fun e => e ▸ h3.1, h2, fun a ha y hy => ?_⟩
        subst hy
        cases n with
        | zero => simp at ha
        | succ m =>
          have h4 := h3.2
          dsimp only at h4
          rw [List.getElem?_eq_getElem (by omega : m < l.length)] at h4
          dsimp only at h4
          rw [List.take_succ_eq_append_getElem (by omega : m < l.length), List.mem_append, List.mem_singleton] at ha
          rcases ha with ha | rfl
          · rw [List.take_succ_eq_append_getElem (by omega : m < l.length), List.pairwise_append] at h2
            have := h2.2.2 a ha l[m] (by simp)
            exact sLin.trans _ _ _ this h4
          · exact h4
      · rintro ⟨h1, h2, h3⟩
        refine ⟨⟨fun x hx => h1 x (.inl hx), h2⟩, ?_⟩
        rw [Bool.and_eq_true]
        refine ⟨h1 _ (.inr rfl), ?_⟩
        cases n with
        | zero => rfl
        | succ m =>
          dsimp only
          rw [List.getElem?_eq_getElem (by omega : m < l.length)]
          exact h3 l[m] (by rw [List.mem_take_iff_getElem]; exact ⟨m, by omega, rfl⟩) _ rfl
  have := key l.length (Nat.le_refl _)
  rw [List.take_length] at this
  exact this
theorem mayP_iff (ok : List UInt8 → Bool) (l : List Pr) : mayP ok l = true ↔ l.length ≤ 100 ∧ (∀ x ∈ l, mayP1 ok x = true) ∧ srtP l := by
  unfold mayP
  rw [Bool.and_eq_true, decide_eq_true_eq, mayPN_iff]
/-- As the document puts: behind n of those that stay. -/
def insG (x : Pr) (rest : List Pr) : Nat → List Pr × Bool
  | 0 => ([], false)
  | n + 1 => match rest[n]? with
    | none => insG x rest n
    | some y => if (insG x rest n).2 = false ∧ slt x.key y.key = true then ((insG x rest n).1 ++ [x, y], true) else ((insG x rest n).1 ++ [y], (insG x rest n).2)
def insE (x : Pr) (rest : List Pr) : List Pr := if (insG x rest rest.length).2 = true then (insG x rest rest.length).1 else (insG x rest rest.length).1 ++ [x]
theorem insG_len (x : Pr) (rest : List Pr) : ∀ n, n ≤ rest.length → (insG x rest n).1.length = n + (if (insG x rest n).2 = true then 1 else 0)
  | 0, _ => rfl
  | n + 1, h => by
    have ih := insG_len x rest n (by omega)
    rw [insG, List.getElem?_eq_getElem (by omega : n < rest.length)]
    dsimp only
    split
    · rename_i c
      rw [c.1] at ih
      simp at ih ⊢
      omega
    · simp only [List.length_append, List.length_cons, List.length_nil]
      omega
theorem insG_is {x : Pr} {rest : List Pr} (hs : srtP rest) (hn : ∀ y ∈ rest, y.key ≠ x.key) : ∀ n, n ≤ rest.length →
    insG x rest n = if (fGt Pr.key slt (rest.take n) x.key) = [] then (rest.take n, false) else (fLt Pr.key slt (rest.take n) x.key ++ x :: fGt Pr.key slt (rest.take n) x.key, true)
  | 0, _ => by simp [insG, fGt]
  | n + 1, h => by
    have hl : n < rest.length := by omega
    have ih := insG_is hs hn n (by omega)
    have hne := hn rest[n] (List.getElem_mem hl)
    have e1 : fLt Pr.key slt (rest.take (n + 1)) x.key = fLt Pr.key slt (rest.take n) x.key ++ (if slt rest[n].key x.key then [rest[n]] else []) := by
      rw [List.take_succ_eq_append_getElem hl]; unfold fLt; rw [List.filter_append]; simp [List.filter_cons]
    have e2 : fGt Pr.key slt (rest.take (n + 1)) x.key = fGt Pr.key slt (rest.take n) x.key ++ (if slt x.key rest[n].key then [rest[n]] else []) := by
      rw [List.take_succ_eq_append_getElem hl]; unfold fGt; rw [List.filter_append]; simp [List.filter_cons]
    have hsn : srtP (rest.take (n + 1)) := List.Pairwise.sublist (List.take_sublist _ _) hs
    have hcut := cut sLin x.key hsn (fun y hy => hn y (List.take_subset _ _ hy))
    have hcut0 := cut sLin x.key (show srtP (rest.take n) from List.Pairwise.sublist (List.take_sublist _ _) hs) (fun y hy => hn y (List.take_subset _ _ hy))
    rw [insG, List.getElem?_eq_getElem hl, ih, e1, e2]
    dsimp only
    by_cases c : fGt Pr.key slt (rest.take n) x.key = []
    · rw [if_pos c]
      by_cases d : slt x.key rest[n].key = true
      · rw [if_pos ⟨rfl, d⟩, if_neg (by rw [if_pos d]; simp), if_pos d, if_neg (by rw [show slt rest[n].key x.key = false from sLin.asym d]; decide), c]
        rw [c, List.append_nil] at hcut0
        rw [List.append_nil, ← hcut0]
        rfl
      · have d2 : slt rest[n].key x.key = true := by
          cases e : slt rest[n].key x.key with
          | true => rfl
          | false => exact absurd (sLin.tri _ _ e (by simpa using d)) hne
        rw [if_neg (fun e => d e.2), if_neg d, List.append_nil, if_pos c, List.take_succ_eq_append_getElem hl]
    · rw [if_neg c]
      have d : slt x.key rest[n].key = true := by
        obtain ⟨y, hy⟩ := List.exists_mem_of_ne_nil _ c
        have h1 := (List.mem_filter.1 hy)
        rw [List.take_succ_eq_append_getElem hl] at hsn
        have h2 := (List.pairwise_append.1 hsn).2.2 y h1.1 rest[n] (by simp)
        exact sLin.trans _ _ _ h1.2 h2
      rw [if_neg (fun e => by simp at e), if_neg (by simp [c]), if_pos d, if_neg (by rw [show slt rest[n].key x.key = false from sLin.asym d]; decide), List.append_nil]
      simp
theorem insE_is {x : Pr} {rest : List Pr} (hs : srtP rest) (hn : ∀ y ∈ rest, y.key ≠ x.key) : insE x rest = puL Pr.key slt rest x := by
  unfold insE
  rw [insG_is hs hn _ (Nat.le_refl _), List.take_length]
  unfold puL
  by_cases d : fGt Pr.key slt rest x.key = []
  · have e := cut sLin x.key hs hn
    rw [d, List.append_nil] at e
    rw [if_pos d, d]
    simp only [Bool.false_eq_true, if_false]
    conv => lhs; rw [e]
  · rw [if_neg d]
    rfl
theorem put_dropP {l : List Pr} {x : Pr} (hs : srtP l) : puL Pr.key slt (dropL Pr.key l x.key) x = puL Pr.key slt l x := by
  refine srt_ext sLin (Srt.put sLin hs.filter) (Srt.put sLin hs) fun y => ?_
  rw [mem_put sLin, mem_put sLin, mem_drop]
  constructor
  · rintro (rfl | ⟨⟨h1, h2⟩, h3⟩)
    · exact .inl rfl
    · exact .inr ⟨h1, h3⟩
  · rintro (rfl | ⟨h1, h3⟩)
    · exact .inl rfl
    · exact .inr ⟨⟨h1, h3⟩, h3⟩
/-- The document's putting is the list with one in its place. -/
theorem ref_put {l : List Pr} {x : Pr} (hs : srtP l) : insE x (dropL Pr.key l x.key) = puL Pr.key slt l x := by
  rw [insE_is (rest := dropL Pr.key l x.key) hs.filter (fun y hy => (mem_drop.1 hy).2), put_dropP hs]
theorem drop_len {l : List Pr} {k : List UInt8} (hs : srtP l) : (dropL Pr.key l k).length = if (getL Pr.key l k).isSome = true then l.length - 1 else l.length := by
  cases hg : getL Pr.key l k with
  | none =>
    have e := cut sLin k hs (getL_none hg)
    rw [dropL_eq sLin hs, ← e]
    rfl
  | some x =>
    obtain ⟨h1, h2⟩ := getL_some hg
    have e := cutAt sLin k x hs h1 h2
    rw [dropL_eq sLin hs]
    have := congrArg List.length e
    simp only [List.length_append, List.length_cons] at this
    simp only [Option.isSome_some, if_true, List.length_append]
    omega
theorem put_len {l : List Pr} {x : Pr} (hs : srtP l) : (puL Pr.key slt l x).length = (dropL Pr.key l x.key).length + 1 := by
  rw [dropL_eq sLin hs]
  unfold puL
  simp only [List.length_append, List.length_cons]
  omega
end Go.WL
namespace Go.WL
theorem ar_sh (n : Nat) (s : Shape) (A B : List AV) : Shape.eqb (AV.shape (.ar n s A)) (AV.shape (.ar n s B)) = true := eqb_refl _
theorem ble_no {a b : Nat} (h : Nat.ble a b = false) : b < a := by
  rcases Nat.lt_or_ge b a with h1 | h1
  · exact h1
  · rw [show Nat.ble a b = true by rw [Nat.ble_eq]; exact h1] at h; cases h
theorem at_take {L M : List AV} {n i : Nat} (h : L.take n = M) (hi : i < n) : L[i]? = M[i]? := by
  rw [← h, List.getElem?_take, if_pos hi]
/-- One is put in among the first n: as lists. -/
theorem ins_take {L L' : List AV} {n i : Nat} {x : AV} {α : Type} {f : α → AV} {l : List α} {a : α} (h : L'.take (n + 1) = L.take i ++ [x] ++ (L.drop i).take (n - i)) (hn : l.length = n) (hL : L.take n = l.map f) (hx : x = f a) (hi : i ≤ n) :
    L'.take (n + 1) = (l.take i ++ a :: l.drop i).map f := by
  have e1 : L.take i = (l.take i).map f := by
    rw [List.map_take, ← hL, List.take_take, Nat.min_eq_left hi]
  have e2 : (L.drop i).take (n - i) = (l.drop i).map f := by
    rw [List.map_drop, ← hL, List.drop_take]
  rw [h, e1, e2, hx]
  simp
theorem del_take {L : List AV} {n i : Nat} {z : AV} {α : Type} {f : α → AV} {l : List α} (hn : l.length = n) (hL : L.take n = l.map f) (hi : i < n) (hc : n ≤ L.length) : (del1 L i n z).take (n - 1) = (l.eraseIdx i).map f := by
  have hs : L = l.map f ++ L.drop n := by rw [← hL, List.take_append_drop]
  have e : del1 L i n z = (l.map f).eraseIdx i ++ z :: L.drop n := by
    conv => lhs; rw [hs]
    exact del1_app (by simpa using hn) hi
  rw [e, List.take_left' (by rw [List.length_eraseIdx, List.length_map, if_pos (by omega), hn])]
  rw [List.eraseIdx_eq_take_drop_succ, List.eraseIdx_eq_take_drop_succ, List.map_append, List.map_take, List.map_drop]
theorem del_len {L : List AV} {n i : Nat} {z : AV} (hi : i < n) (hc : n ≤ L.length) : (del1 L i n z).length = L.length := by
  unfold del1
  simp only [List.length_append, List.length_take, List.length_drop, List.length_cons]
  omega
end Go.WL
