/- A logic of values over the model: what each operation, call and loop makes of the state, shown right against the model. No condition beyond those that each theorem names. -/
import Derived.Test.YtmpnboonjpcmpaaDoorWordsC
import Derived.OpenShut
import Derived.WalkKit
import Derived.ProofKit
import Derived.ShutString
import Derived.ChangeOld
import Derived.Carry
import Derived.LaidMore
import Derived.LaidLaws
import Derived.MakeChecks
import Derived.Handed
import Derived.Stop.Joined
import Derived.Below
set_option linter.unusedVariables false
set_option linter.unusedSimpArgs false
namespace Go.WL

/-- The kinds of a law's arguments. -/
inductive ATy where
  | int (k : IntKind)
  | bool
  | str
  | sl (s : Shape) (a : ATy)
  | ar (n : Nat) (s : Shape) (a : ATy)
  | st (l : List ATy)

mutual
/-- What reads as such an argument. -/
def OfTy : ATy → AV → Prop
  | .int k, v => ∃ i, v = .sc (.int k i) ∧ (Lit.int k i).wf = true
  | .bool, v => ∃ b, v = .sc (.bool b)
  | .str, v => ∃ s : ByteArray, v = .sc (.string s) ∧ s.size ≤ maxLen
  | .sl s a, v => ∃ xs : List AV, v = .sl s xs .ro ∧ xs.length ≤ maxLen ∧ ∀ x ∈ xs, OfTy a x
  | .ar n s a, v => ∃ xs : List AV, v = .ar n s xs ∧ xs.length = n ∧ ∀ x ∈ xs, OfTy a x
  | .st l, v => ∃ xs : List AV, v = .st xs ∧ OfTys l xs
def OfTys : List ATy → List AV → Prop
  | [], vs => vs = []
  | a :: l, vs => ∃ v us, vs = v :: us ∧ OfTy a v ∧ OfTys l us
end

def seqO : List (Option ATy) → Option (List ATy)
  | [] => some []
  | none :: _ => none
  | some a :: l => match seqO l with
    | none => none
    | some m => some (a :: m)
theorem seqO_of : ∀ {l : List (Option ATy)} {m : List ATy}, seqO l = some m → l = m.map some
  | [], m, h => by simp [seqO] at h; subst h; rfl
  | none :: l, m, h => by simp [seqO] at h
  | some a :: l, m, h => by
    simp only [seqO] at h
    split at h
    · simp at h
    · rename_i m' hm
      simp only [Option.some.injEq] at h
      subst h
      rw [seqO_of hm]
      rfl

/-- A type's kind, out of the table. -/
def aty (D : Tabs) : Nat → Nat → Option ATy
  | 0, _ => none
  | n + 1, t => match lookT D.ty t with
    | none => none
    | some ti => match ti.k with
      | .int k => some (.int k)
      | .bool => some .bool
      | .str => some .str
      | .slice e => match lookT D.ty e with
        | none => none
        | some ei => match Nat.beq ei.sh.size 0 with
          | true => none
          | false => match aty D n e with
            | none => none
            | some a => some (.sl ei.sh a)
      | .arr m e => match lookT D.ty e with
        | none => none
        | some ei => match aty D n e with
          | none => none
          | some a => some (.ar m ei.sh a)
      | .strct fs => match seqO (fs.map fun f => aty D n f.1) with
        | none => none
        | some l => some (.st l)
      | _ => none

section
variable {w : World} {lim : Nat → Nat}
theorem prs_of : ∀ (shs : List Shape) (vs : List AV) (cs : List Value), vs.length = shs.length → cs.length = Shape.sizes shs →
    (∀ (i : Nat) (s : Shape) (v : AV), shs[i]? = some s → vs[i]? = some v → PR w lim v ((cs.drop (Shape.sizes (shs.take i))).take s.size)) → ∃ ps, PRs w lim vs ps ∧ cs = ps.flatten
  | [], [], cs, _, h2, _ => ⟨[], rfl, by simpa [Shape.sizes] using h2⟩
  | s :: shs, v :: vs, cs, h1, h2, h3 => by
    simp only [Shape.sizes] at h2
    obtain ⟨ps, h4, h5⟩ := prs_of shs vs (cs.drop s.size) (by simpa using h1) (by simp; omega) fun i s' v' hi hv => by
      have := h3 (i + 1) s' v' (by simpa using hi) (by simpa using hv)
      simpa [Shape.sizes, List.drop_drop] using this
    have h0 := h3 0 s v rfl rfl
    simp only [List.take_zero, Shape.sizes, List.drop_zero] at h0
    refine ⟨cs.take s.size :: ps, ⟨_, _, rfl, h0, h4⟩, ?_⟩
    rw [List.flatten_cons, ← h5, List.take_append_drop]
theorem rows_of (a : Addr) (sz : Nat) (Q : AV → Prop) : ∀ (len k : Nat), (∀ i, i < len → ∃ (cs : List Value) (v : AV), cs.length = sz ∧ (∀ j, j < sz → w.cell? (a.add ((k + i) * sz + j)) = cs[j]?) ∧ Q v ∧ PR w lim v cs) →
    ∃ (vs : List AV) (ps : List (List Value)), vs.length = len ∧ PRs w lim vs ps ∧ (∀ v ∈ vs, Q v) ∧ ps.flatten.length = len * sz ∧ ∀ j, j < len * sz → w.cell? (a.add (k * sz + j)) = ps.flatten[j]?
  | 0, k, _ => ⟨[], [], rfl, rfl, by simp, by simp, fun j h => by omega⟩
  | len + 1, k, h => by
    obtain ⟨cs, v, h1, h2, h3, h4⟩ := h 0 (by omega)
    obtain ⟨vs, ps, g1, g2, g3, g4, g5⟩ := rows_of a sz Q len (k + 1) fun i hi => by
      obtain ⟨cs, v, h1, h2, h3⟩ := h (i + 1) (by omega)
      exact ⟨cs, v, h1, fun j hj => by rw [← h2 j hj, show k + 1 + i = k + (i + 1) by omega], h3⟩
    refine ⟨v :: vs, cs :: ps, by simp [g1], ⟨_, _, rfl, h4, g2⟩, ?_, ?_, fun j hj => ?_⟩
    · intro x hx
      rcases List.mem_cons.1 hx with rfl | hx
      · exact h3
      · exact g3 x hx
    · rw [List.flatten_cons, List.length_append, h1, g4, Nat.add_mul]; omega
    · rw [List.flatten_cons]
      by_cases c : j < sz
      · rw [List.getElem?_append_left (by omega), ← h2 j c]
        congr 2
      · rw [List.getElem?_append_right (by omega), h1]
        rw [Nat.add_mul] at hj
        rw [← g5 (j - sz) (by omega)]
        congr 2
        rw [Nat.add_mul]; omega
end

section
variable {H : Type} {enc : TypeId × Value → H} {P : Program} {D : Tabs} {w : World} {base : Nat} {spare : Nat → Bool} {held : Bool}
theorem cellsOf_of {t : Nat} {ti : TI} (h : TyOK P D t ti) : P.cellsOf t = ti.sh.size := by
  obtain ⟨d, i, z, h1, h2, h3, _⟩ := h.fact
  simp [Program.cellsOf, h2, h3]
theorem aadd (a : Addr) (i j : Nat) : (a.add i).add j = a.add (i + j) := by
  simp only [Addr.add]
  by_cases h1 : i = 0
  · subst h1; simp
  · by_cases h2 : j = 0
    · subst h2; simp [h1]
    · rw [if_neg h2, if_neg h1, if_neg (by omega)]
      simp [Nat.add_assoc]
/-- What an argument of a type reads as. -/
theorem open_pr (hT : TabOK P D) : ∀ (n t : Nat) (ti : TI) (a : ATy), lookT D.ty t = some ti → aty D n t = some a → ∀ (fuel : Nat) (cs : List Value) (x : DataW H × List MemPlace), DataW.trod enc P w base spare held fuel t cs = some x →
    ∃ v, OfTy a v ∧ v.shape = ti.sh ∧ v.pure = true ∧ PR w (ground w).lim v cs
  | 0, t, ti, a, _, ha, _, _, _, _ => by simp [aty] at ha
  | n + 1, t, ti, a, hti, ha, fuel, cs, x, hx => by
    have hok := hT t ti hti
    have hcell := cellsOf_of hok
    obtain ⟨d, inf, z, h1, h2, h3, h4, hk, h5⟩ := hok.fact
    simp only [aty, hti] at ha
    cases hkk : ti.k with
    | int k =>
      rw [hkk] at ha hk
      simp only [Option.some.injEq] at ha
      obtain ⟨hsh, rfl⟩ := hk
      obtain ⟨i, rfl, _, hw⟩ := DataW.trod_int h1 hx
      subst ha
      exact ⟨_, ⟨i, rfl, hw⟩, by rw [hsh]; rfl, rfl, rfl, rfl⟩
    | bool =>
      rw [hkk] at ha hk
      simp only [Option.some.injEq] at ha
      obtain ⟨hsh, rfl⟩ := hk
      obtain ⟨i, rfl, _⟩ := DataW.trod_bool h1 hx
      subst ha
      exact ⟨_, ⟨i, rfl⟩, by rw [hsh]; rfl, rfl, rfl, rfl⟩
    | str =>
      rw [hkk] at ha hk
      simp only [Option.some.injEq] at ha
      obtain ⟨hsh, rfl⟩ := hk
      obtain ⟨i, rfl, _, hw⟩ := DataW.trod_string h1 hx
      subst ha
      exact ⟨_, ⟨i, rfl, hw⟩, by rw [hsh]; rfl, rfl, rfl, rfl⟩
    | slice e =>
      rw [hkk] at ha hk
      simp only at ha
      split at ha
      · simp at ha
      rename_i ei hei
      split at ha
      · simp at ha
      rename_i hsz
      split at ha
      · simp at ha
      rename_i b hb
      simp only [Option.some.injEq] at ha
      subst ha
      obtain ⟨hsh, rfl⟩ := hk
      have hce := cellsOf_of (hT e ei hei)
      have hpos : ei.sh.size ≠ 0 := by intro e; rw [e] at hsz; simp at hsz
      rcases DataW.trod_slice h1 hx with ⟨rfl, _⟩ | ⟨ad, len, cap, elems, rest, m, rfl, rfl, rfl, hb1, hl, hm, hlen, hel, _⟩
      · refine ⟨.sl ei.sh [] .ro, ⟨[], rfl, by simp, by simp⟩, by rw [hsh]; rfl, rfl, ⟨none, 0, rfl, Nat.le_refl _, by simp, fun x hx => by simp at hx, fun _ => rfl, .inl rfl⟩⟩
      · obtain ⟨vs, ps, g1, g2, g3, g4, g5⟩ := rows_of (w := w) (lim := (ground w).lim) ad ei.sh.size (fun v => OfTy b v ∧ v.shape = ei.sh ∧ v.pure = true) len 0 fun i hi => by
          have h := hel i hi
          have hlt : i < elems.length := by omega
          rw [List.getElem?_eq_getElem hlt, Option.bind_eq_some_iff] at h
          obtain ⟨cs, hc, ht⟩ := h
          obtain ⟨_, hc1, hc2⟩ := World.cells?_some hc
          obtain ⟨v, k1, k2, k3, k4⟩ := open_pr hT n e ei b hei hb m cs _ ht
          rw [hce] at hc1 hc2
          refine ⟨cs, v, hc1, fun j hj => ?_, ⟨k1, k2, k3⟩, k4⟩
          rw [← hc2 j hj, aadd, Nat.zero_add]
        refine ⟨.sl ei.sh vs .ro, ⟨vs, rfl, by omega, fun x hx => (g3 x hx).1⟩, by rw [hsh]; rfl, rfl, ⟨some ad, cap, by rw [g1], by rw [g1]; exact hl, by simp, fun x hx => (g3 x hx).2, by simp, ?_⟩⟩
        by_cases h0 : len = 0
        · left
          exact List.eq_nil_of_length_eq_zero (by omega)
        · right
          have hz : 0 < len * ei.sh.size := Nat.mul_pos (by omega) (by omega)
          have at0 := g5 0 hz
          have hsp : ad.spot = none := by
            rw [List.getElem?_eq_getElem (by omega)] at at0
            cases hs : ad.spot with
            | none => rfl
            | some p =>
              have e : (ad.add (0 * ei.sh.size + 0)).spot = some p := by simp [Addr.add, hs]
              simp only [World.cell?, e, Option.isSome_some, if_true] at at0
              split at at0 <;> simp at at0
          refine ⟨ad, ps, rfl, g2, hsp, fun i u hu => ?_, fun _ => ?_⟩
          · have hi : i < len * ei.sh.size := by have := (List.getElem?_eq_some_iff.1 hu).1; omega
            have := g5 i hi
            rw [add_eq hsp, hu, Nat.zero_mul, Nat.zero_add] at this
            exact this
          · have := g5 (len * ei.sh.size - 1) (by omega)
            rw [add_eq hsp, List.getElem?_eq_getElem (by omega), Nat.zero_mul, Nat.zero_add] at this
            have := ground_cell this
            rw [g4]
            omega
    | arr m e =>
      rw [hkk] at ha hk
      simp only at ha
      split at ha
      · simp at ha
      rename_i ei hei
      split at ha
      · simp at ha
      rename_i b hb
      simp only [Option.some.injEq] at ha
      subst ha
      obtain ⟨rfl, j, hj, hsh⟩ := hk
      rw [hei] at hj
      simp only [Option.some.injEq] at hj
      subst hj
      have hce := cellsOf_of (hT e ei hei)
      obtain ⟨xs, m', rfl, rfl, hcl, hxl, hel⟩ := DataW.trod_array h1 hx
      have all : ∀ i, i < m → ∃ v, OfTy b v ∧ v.shape = ei.sh ∧ v.pure = true ∧ PR w (ground w).lim v ((cs.drop (i * ei.sh.size)).take ei.sh.size) := by
        intro i hi
        have h := hel i hi
        rw [List.getElem?_eq_getElem (by omega), hce] at h
        exact open_pr hT n e ei b hei hb m' _ _ h
      obtain ⟨vs, hvl, hvs⟩ : ∃ vs : List AV, vs.length = m ∧ ∀ i v, vs[i]? = some v → OfTy b v ∧ v.shape = ei.sh ∧ v.pure = true ∧ PR w (ground w).lim v ((cs.drop (i * ei.sh.size)).take ei.sh.size) := by
        clear hel hcl hx hxl hsh h1 hcell hkk
        induction m with
        | zero => exact ⟨[], rfl, fun i v h => by simp at h⟩
        | succ m ih =>
          obtain ⟨vs, k1, k2⟩ := ih fun i hi => all i (by omega)
          obtain ⟨v, hv⟩ := all m (by omega)
          refine ⟨vs ++ [v], by simp [k1], fun i u hu => ?_⟩
          by_cases c : i < vs.length
          · rw [List.getElem?_append_left c] at hu
            exact k2 i u hu
          · rw [List.getElem?_append_right (by omega)] at hu
            have e0 : i - vs.length = 0 := by
              have := (List.getElem?_eq_some_iff.1 hu).1
              simp at this
              omega
            rw [e0] at hu
            simp only [List.getElem?_cons_zero, Option.some.injEq] at hu
            have : i = m := by omega
            subst hu
            rw [this]
            exact hv
      obtain ⟨ps, k1, k2⟩ := prs_of (w := w) (lim := (ground w).lim) (List.replicate m ei.sh) vs cs (by simp [hvl]) (by rw [sizes_replicate, hcl, hcell, hsh, Shape.size]) fun i s v hs hv => by
        rw [List.getElem?_replicate] at hs
        split at hs
        · rename_i hi
          simp only [Option.some.injEq] at hs
          subst hs
          rw [List.take_replicate, sizes_replicate, Nat.min_eq_left (by omega)]
          exact (hvs i v hv).2.2.2
        · simp at hs
      have mem : ∀ x ∈ vs, OfTy b x ∧ x.shape = ei.sh ∧ x.pure = true := by
        intro x hx
        obtain ⟨i, hi⟩ := List.getElem?_of_mem hx
        exact ⟨(hvs i x hi).1, (hvs i x hi).2.1, (hvs i x hi).2.2.1⟩
      exact ⟨.ar m ei.sh vs, ⟨vs, rfl, hvl, fun x hx => (mem x hx).1⟩, by rw [hsh]; rfl, rfl, hvl, fun x hx => (mem x hx).2, ps, k1, k2⟩
    | strct fs =>
      rw [hkk] at ha hk
      simp only at ha
      split at ha
      · simp at ha
      rename_i l hl
      simp only [Option.some.injEq] at ha
      subst ha
      obtain ⟨fields, shs, rfl, hsh, hf1, hf2, hf3⟩ := hk
      have hseq := seqO_of hl
      obtain ⟨xs, m, rfl, rfl, hcl, hxl, hel⟩ := DataW.trod_struct h1 hx
      have hll : l.length = shs.length := by
        have := congrArg List.length hseq
        simp at this
        omega
      have all : ∀ i, i < shs.length → ∃ v b s, l[i]? = some b ∧ shs[i]? = some s ∧ OfTy b v ∧ v.shape = s ∧ v.pure = true ∧ PR w (ground w).lim v ((cs.drop (Shape.sizes (shs.take i))).take s.size) := by
        intro i hi
        have hfi : fields[i]? = some fields[i] := Array.getElem?_eq_getElem (by omega)
        obtain ⟨j, k1, k2, k3, k4, _⟩ := hf3 i _ hfi
        have h := hel i _ hfi
        rw [List.getElem?_eq_getElem (by omega), k4, cellsOf_of (hT _ j k1)] at h
        have hb : (l.map some)[i]? = some (aty D n fields[i].type) := by rw [← hseq, List.getElem?_map, k2]; rfl
        rw [List.getElem?_map] at hb
        cases hlb : l[i]? with
        | none => simp [hlb] at hb
        | some b =>
          simp only [hlb, Option.map_some, Option.some.injEq] at hb
          obtain ⟨v, g1, g2, g3, g4⟩ := open_pr hT n _ j b k1 hb.symm m _ _ h
          exact ⟨v, b, j.sh, rfl, k3, g1, g2, g3, g4⟩
      have build : ∀ (l : List ATy) (shs : List Shape) (Q : Nat → AV → Prop), l.length = shs.length → (∀ i, i < shs.length → ∃ v b s, l[i]? = some b ∧ shs[i]? = some s ∧ OfTy b v ∧ v.shape = s ∧ v.pure = true ∧ Q i v) →
          ∃ vs : List AV, vs.length = shs.length ∧ OfTys l vs ∧ AV.shapes vs = shs ∧ AV.pures vs = true ∧ ∀ i v, vs[i]? = some v → Q i v := by
        intro l
        induction l with
        | nil =>
          intro shs Q hlen _
          have : shs = [] := List.eq_nil_of_length_eq_zero hlen.symm
          subst this
          exact ⟨[], rfl, rfl, rfl, rfl, fun i v h => by simp at h⟩
        | cons b l ih =>
          intro shs Q hlen h
          cases shs with
          | nil => simp at hlen
          | cons s shs =>
            obtain ⟨vs, k1, k2, k3, k4, k5⟩ := ih shs (fun i => Q (i + 1)) (by simpa using hlen) fun i hi => by
              have := h (i + 1) (by simpa using hi)
              simpa using this
            obtain ⟨v, b', s', e1, e2, g1, g2, g3, g4⟩ := h 0 (by simp)
            simp only [List.getElem?_cons_zero, Option.some.injEq] at e1 e2
            subst e1 e2
            refine ⟨v :: vs, by simp [k1], ⟨v, vs, rfl, g1, k2⟩, by rw [AV.shapes, g2, k3], by rw [AV.pures, g3, k4]; rfl, fun i u hu => ?_⟩
            cases i with
            | zero => simp only [List.getElem?_cons_zero, Option.some.injEq] at hu; subst hu; exact g4
            | succ i => exact k5 i u (by simpa using hu)
      obtain ⟨vs, k1, k2, k3, k4, k5⟩ := build l shs (fun i v => ∃ s, shs[i]? = some s ∧ PR w (ground w).lim v ((cs.drop (Shape.sizes (shs.take i))).take s.size)) hll fun i hi => by
        obtain ⟨v, b, s, g1, g2, g3, g4, g5, g6⟩ := all i hi
        exact ⟨v, b, s, g1, g2, g3, g4, g5, s, g2, g6⟩
      obtain ⟨ps, q1, q2⟩ := prs_of (w := w) (lim := (ground w).lim) shs vs cs k1 (by rw [hcl, hcell, hsh, Shape.size]) fun i s v hs hv => by
        obtain ⟨s', e, g⟩ := k5 i v hv
        rw [hs] at e
        simp only [Option.some.injEq] at e
        subst e
        exact g
      exact ⟨.st vs, ⟨vs, rfl, k2⟩, by rw [hsh, AV.shape, k3], by rw [AV.pure, k4], ps, q1, q2⟩
    | ptr e => simp [hkk] at ha
    | map a b => simp [hkk] at ha
    | func => simp [hkk] at ha
    | tup => simp [hkk] at ha
end
end Go.WL
namespace Go.WL
open Go.ChangeShapes Go.WideShapes Go.ChangeAt Go.RowKit

section
variable {H : Type} {enc : TypeId × Value → H} {P : Program} {D : Tabs} {W W' : World} {base : Nat} {spare : Nat → Bool} {held : Bool}
theorem okWide_array {n e t : Nat} {r : Reach} {v : Value} (ht : P.underlying t = some (.array n e)) (h : Value.okWide P W r base t v) : ∃ cs, v = .agg cs := by
  unfold Value.okWide at h
  rw [ht] at h
  obtain ⟨cs, h, _⟩ := h
  exact ⟨cs, h⟩

/-- An argument, as it comes in. -/
theorem open_arg (hT : TabOK P D) {t : Nat} {a : ATy} {n b0 : Nat} (ha : aty D n t = some a) {v : Value} {r : Reach} (hv : Value.okWide P W r b0 t v) {d : DataW H} {p : List MemPlace} (h : DataW.Trod enc P W base spare held t v d p) :
    ∃ x, OfTy a x ∧ Rep0 (ground W) [] x v := by
  obtain ⟨fuel, h⟩ := h
  cases hti : lookT D.ty t with
  | none => cases n <;> simp [aty, hti] at ha
  | some ti =>
    obtain ⟨x, h1, h2, h3, h4⟩ := open_pr hT n t ti a hti ha fuel _ _ h
    refine ⟨x, h1, ?_⟩
    obtain ⟨desc, inf, z, g1, _, _, _, hk, _⟩ := (hT t ti hti).fact
    have i4 := (IR_pure (E := ground W) (shs := []) x _ h3).2 h4
    have lf : ti.sh = .lf → v.cells.toList = [v] → Rep0 (ground W) [] x v := by
      intro e1 e2
      rw [rep0_lf (h2.trans e1), ← e2]
      exact i4
    have ag : ti.sh ≠ .lf → (∃ cs, v = .agg cs) → Rep0 (ground W) [] x v := by
      rintro e1 ⟨cs, rfl⟩
      rw [rep0_ag (fun e => e1 (h2.symm.trans e))]
      exact ⟨cs, rfl, i4⟩
    cases hkk : ti.k with
    | int k =>
      rw [hkk] at hk
      obtain ⟨e1, rfl⟩ := hk
      obtain ⟨_, rfl⟩ := okWide_int g1 hv
      exact lf e1 rfl
    | bool =>
      rw [hkk] at hk
      obtain ⟨e1, rfl⟩ := hk
      obtain ⟨_, rfl⟩ := okWide_bool g1 hv
      exact lf e1 rfl
    | str =>
      rw [hkk] at hk
      obtain ⟨e1, rfl⟩ := hk
      obtain ⟨_, rfl⟩ := okWide_string g1 hv
      exact lf e1 rfl
    | slice e =>
      rw [hkk] at hk
      obtain ⟨e1, rfl⟩ := hk
      obtain ⟨_, _, _, rfl⟩ := okWide_slice g1 hv
      exact lf e1 rfl
    | ptr e =>
      rw [hkk] at hk
      obtain ⟨e1, rfl⟩ := hk
      obtain ⟨_, rfl⟩ := okWide_pointer g1 hv
      exact lf e1 rfl
    | map a b =>
      rw [hkk] at hk
      obtain ⟨e1, rfl⟩ := hk
      obtain ⟨_, rfl⟩ := okWide_map g1 hv
      exact lf e1 rfl
    | func => cases n <;> simp [aty, hti, hkk] at ha
    | tup => cases n <;> simp [aty, hti, hkk] at ha
    | arr m e =>
      rw [hkk] at hk
      obtain ⟨rfl, j, _, e1⟩ := hk
      exact ag (by rw [e1]; simp) (okWide_array g1 hv)
    | strct fs =>
      rw [hkk] at hk
      obtain ⟨fields, shs, rfl, e1, _⟩ := hk
      obtain ⟨cs, e2, _⟩ := okWide_struct g1 hv
      exact ag (by rw [e1]; simp) ⟨cs, e2⟩

def atys (D : Tabs) (ts : List Nat) : Option (List ATy) := seqO (ts.map fun t => aty D 12 t)
theorem open_args (hT : TabOK P D) {b0 : Nat} {r : Reach} : ∀ (ts : List Nat) (as : List ATy) (vs : List Value) (ds : List (DataW H)) (p : List MemPlace), ts.map (fun t => aty D 12 t) = as.map some → DataW.TrodAll enc P W base spare held ts vs ds p →
    (∀ (j : Nat) t v, ts[j]? = some t → vs[j]? = some v → Value.okWide P W r b0 t v) → ∃ xs, OfTys as xs ∧ RepL (ground W) [] xs vs
  | [], as, vs, ds, p, ha, h, hv => by
    have : as = [] := by simpa using ha.symm
    subst this
    obtain ⟨rfl, _, _⟩ := trodAll_nil h
    exact ⟨[], rfl, rfl⟩
  | t :: ts, as, vs, ds, p, ha, h, hv => by
    cases as with
    | nil => simp at ha
    | cons a as =>
      simp only [List.map_cons, List.cons.injEq] at ha
      obtain ⟨v, vs', d, ds', p', q', rfl, rfl, rfl, h0, r0⟩ := trodAll_cons h
      obtain ⟨x, h1, h2⟩ := open_arg hT ha.1 (hv 0 t v rfl rfl) h0
      obtain ⟨xs, h3, h4⟩ := open_args hT ts as vs' ds' q' ha.2 r0 fun j t v e1 e2 => hv (j + 1) t v (by simpa using e1) (by simpa using e2)
      exact ⟨x :: xs, ⟨x, xs, rfl, h1, h3⟩, v, vs', rfl, h2, h4⟩
theorem shut_args (hl : laidOutB P = true) (hb : Below W.heap.size W W') : ∀ (ts : List Nat) (vs : List Value) (ds : List (DataW H)) (p : List MemPlace), (∀ t ∈ ts, P.readableRec t = true ∧ t < P.types.size) → DataW.TrodAll enc P W 0 (fun _ => true) true ts vs ds p →
    ∃ q, DataW.TrodAll enc P W' 0 (fun b => decide (b < W.heap.size)) true ts vs ds q
  | [], vs, ds, p, ha, h => by
    obtain ⟨rfl, rfl, rfl⟩ := trodAll_nil h
    exact ⟨[], rfl⟩
  | t :: ts, vs, ds, p, ha, h => by
    obtain ⟨v, vs', d, ds', p', q', rfl, rfl, rfl, h0, r0⟩ := trodAll_cons h
    obtain ⟨q, hq⟩ := shut_args hl hb ts vs' ds' q' (fun t ht => ha t (List.mem_cons_of_mem _ ht)) r0
    have lt : ∀ x ∈ p', x.block < W.heap.size := by obtain ⟨m, hm⟩ := h0; exact DataW.trod_lt m _ _ _ hm
    exact ⟨_, trodAll_cons_mk (Below.trod hl (ha t (by simp)).1 (ha t (by simp)).2 h0 hb lt) hq⟩
theorem trodAll_len : ∀ (ts : List Nat) (vs : List Value) (ds : List (DataW H)) (p : List MemPlace), DataW.TrodAll enc P W base spare held ts vs ds p → vs.length = ts.length ∧ ds.length = ts.length
  | [], vs, ds, p, h => by
    obtain ⟨rfl, rfl, rfl⟩ := trodAll_nil h
    exact ⟨rfl, rfl⟩
  | t :: ts, vs, ds, p, h => by
    obtain ⟨v, vs', d, ds', p', q', rfl, rfl, rfl, h0, r0⟩ := trodAll_cons h
    obtain ⟨h1, h2⟩ := trodAll_len ts vs' ds' q' r0
    simp [h1, h2]
end

/-- A law that reads no variable, and returns true by its contract, does what its statement says. -/
theorem law_lifted {C : Checked} {D : Tabs} (hT : TabOK C.prog D) (hgl : D.gl = []) (own : ownKnob C.prog.godebug = none) (laid : laidOutB C.prog = true) {f : Nat} {fn : Func} (noInit : C.prog.inits.idxOf? f = none) (hf : C.prog.funcs[f]? = some fn) (hb : fn.body.isNone = false)
    (hname : (fn.name == "runtime.NumGoroutine") = false) {s : ChangeSpec} {bt : Nat} {ts : List Nat} {tys : List ATy} (hbt : fn.resultTypes = #[bt]) (hbool : C.prog.underlying bt = some .bool) (hts : fn.params.toList = ts) (hread : (ts.all fun t => C.prog.readableRec t && decide (t < C.prog.types.size)) = true)
    (has : ts.map (fun t => aty D 12 t) = tys.map some) (hvars : s.vars = [])
    (hs : ∀ (H : Type) (ds : List (DataW H)), ds.length = ts.length → s.fn H ds = { results := [.lit (.bool true)], args := ds })
    {os : Os} (started : os.Started) {H : Type} {enc : TypeId × Value → H}
    (witness : ∃ (w : World) (tape : Tape) (i : Input), w.os = os ∧ (w.forCall tape i).Shaped C.prog ∧ i.vars = [] ∧ Input.okWide C.prog (w.forCall tape i) .any w.heap.size f i ∧
      s.pre6 enc C.prog fn [] false (w.forCall tape i).memory i.args ∧ ({} : Assume).holds C.prog (lone (Frame.enter C.prog f i.args .normal) [] (w.forCall tape i)))
    (contract : ∀ xs, OfTys tys xs → FnOK C.prog D f xs [] fun r _ => r = .sc (.bool true)) :
    ReturnsInHanded {} C os f .any (s.pre6 enc C.prog fn [] false) (s.post enc C.prog fn false true false false) := by
  refine returnsInHanded_of_change (C := C) own started noInit hf witness ?_
  intro W base args ds gs before hval hW hcnd _
  have hW' := hW
  obtain ⟨p, q, hA, hV, rfl, hfz, hnd⟩ := hW
  rw [hvars] at hV
  obtain ⟨rfl, rfl⟩ := trodVars_none hV
  rw [hts] at hA
  obtain ⟨xs, h1, h2⟩ := open_args hT ts tys args.toList ds p has hA fun j t v e1 e2 => hval j t v (by rw [← Array.getElem?_toList, hts]; exact e1) (by rw [← Array.getElem?_toList]; exact e2)
  have := law_of hf hb hname (fun g v h => by rw [hgl] at h; simp [lookV] at h) (contract xs h1) h2
  rw [Array.toArray_toList] at this
  refine this.mono fun e W' ⟨he, bel⟩ => ?_
  subst he
  obtain ⟨qa, hqa⟩ := shut_args laid bel ts args.toList ds p (fun t ht => by
    have := List.all_eq_true.1 hread t ht
    simpa using this) hA
  have hfn : s.fn H (ds ++ []) = { results := [.lit (.bool true)], args := ds } := by
    rw [List.append_nil]
    exact hs H ds (trodAll_len _ _ _ _ hA).2
  refine ⟨_, rfl, ds, [], _, [], qa, [], hW', ?_, ?_, ?_, bel.frame _, fun h => by cases h⟩
  · rw [hfn, hbt]
    exact trodAll_mk1 (shut_bool hbool _)
  · rw [hfn, hts]
    exact hqa
  · rw [hvars, hfn]
    rfl
end Go.WL
namespace Go.WL
open Go.ChangeShapes Go.WideShapes Go.ChangeAt Go.RowKit

/-- Integers as cells. -/
def ints (k : IntKind) (l : List Int) : List AV := l.map fun n => .sc (.int k n)
theorem prs_ints (w : World) (lim : Nat → Nat) (k : IntKind) : ∀ l : List Int, PRs w lim (ints k l) (l.map fun n => [.int k n])
  | [] => rfl
  | n :: l => ⟨[.int k n], _, rfl, ⟨rfl, rfl⟩, prs_ints w lim k l⟩
theorem flat_ints (k : IntKind) : ∀ l : List Int, (l.map fun n => [Value.int k n]).flatten = l.map fun n => .int k n
  | [] => rfl
  | n :: l => by simp [flat_ints k l]
theorem all_ints (k : IntKind) (l : List Int) : allSh .lf (ints k l) := by
  intro x hx
  obtain ⟨n, _, rfl⟩ := List.mem_map.1 hx
  exact ⟨rfl, rfl⟩

theorem laid_ints {P : Program} {W : World} {name : String} {g t e n fuel : Nat} {k : IntKind} {cs : Array Value} {p : List MemPlace} {l : List Int} (hg : P.globalNamed name = some g) (hv : W.var? P name = some cs)
    (ht : P.underlying t = some (.array n e)) (he : P.underlying e = some (.int k)) (hc : P.cellsOf e = 1) (hct : P.cellsOf t = n) (hn : 0 < n)
    (hd : DataW.trod (fun _ => ()) P W 0 (fun _ => true) false fuel t cs.toList = some (.agg (l.map fun x => .lit (.int k x)), p)) :
    (AV.ar n .lf (ints k l)).pure = true ∧ ∃ ds, PR W (ground W).lim (.ar n .lf (ints k l)) ds ∧ Lies W (ground W).lim ⟨g, 0, none⟩ ds := by
  obtain ⟨xs, m, rfl, hx, hlen, hxn, hel⟩ := DataW.trod_array ht hd
  simp only [Prod.mk.injEq, DataW.agg.injEq] at hx
  have hl : l.length = n := by
    have := congrArg List.length hx.1
    simp only [List.length_map] at this
    omega
  have hcell : ∀ i, i < n → W.cell? ⟨g, i, none⟩ = (l.map fun x => Value.int k x)[i]? := by
    intro i hi
    have h1 := hel i hi
    rw [hc, Nat.mul_one] at h1
    have hxi : xs[i]? = some xs[i] := List.getElem?_eq_getElem (by omega)
    rw [hxi] at h1
    obtain ⟨x, e1, e2, _⟩ := DataW.trod_int he h1
    have h2 : (l.map fun x => (DataW.lit (.int k x) : DataW Unit))[i]? = some xs[i].1 := by
      rw [hx.1, List.getElem?_map, hxi]
      rfl
    rw [List.getElem?_map, List.getElem?_eq_getElem (by omega)] at h2
    simp only [Option.map_some, Option.some.injEq] at h2
    rw [e2] at h2
    simp only [DataW.lit.injEq, Lit.int.injEq, true_and] at h2
    rw [World.var?_cell hg hv i, ← Array.getElem?_toList]
    have h3 : cs.toList[i]? = some (.int k x) := by
      have := congrArg (·[0]?) e1
      simpa using this
    rw [h3, List.getElem?_map, List.getElem?_eq_getElem (by omega), ← h2]
    rfl
  refine ⟨rfl, l.map fun x => .int k x, ⟨by simp [ints, hl], all_ints k l, _, prs_ints W _ k l, (flat_ints k l).symm⟩, rfl, fun i u hu => ?_, fun _ => ?_⟩
  · have hi : i < n := by
      have := (List.getElem?_eq_some_iff.1 hu).1
      simp at this; omega
    rw [Nat.zero_add, hcell i hi]
    exact hu
  · have h1 := hcell (n - 1) (by omega)
    rw [List.getElem?_eq_getElem (by simp; omega)] at h1
    have := ground_cell h1
    simp only [List.length_map, Nat.zero_add]
    omega

section
variable {P : Program} {H : Type} {enc : TypeId × Value → H}
theorem law_lifted_laid {C : Checked} {D : Tabs} (hT : TabOK C.prog D) {ld : List (String × DataW Unit)} (hgl : ∀ W, laidMetH C.prog ld W → ∀ g v, lookV D.gl g = some v → v.pure = true ∧ ∃ cs, PR W (ground W).lim v cs ∧ Lies W (ground W).lim ⟨g, 0, none⟩ cs)
    (own : ownKnob C.prog.godebug = none) (laid : laidOutB C.prog = true) {f : Nat} {fn : Func} (noInit : C.prog.inits.idxOf? f = none) (hf : C.prog.funcs[f]? = some fn) (hb : fn.body.isNone = false)
    (hname : (fn.name == "runtime.NumGoroutine") = false) {s : ChangeSpec} {bt : Nat} {ts : List Nat} {tys : List ATy} (hbt : fn.resultTypes = #[bt]) (hbool : C.prog.underlying bt = some .bool) (hts : fn.params.toList = ts) (hread : (ts.all fun t => C.prog.readableRec t && decide (t < C.prog.types.size)) = true)
    (has : ts.map (fun t => aty D 12 t) = tys.map some) (hvars : s.vars = [])
    (hs : ∀ (H : Type) (ds : List (DataW H)), ds.length = ts.length → s.fn H ds = { results := [.lit (.bool true)], args := ds })
    {os : Os} (started : os.Started)
    (witness : ∃ (w : World) (tape : Tape) (i : Input), w.os = os ∧ (w.forCall tape i).Shaped C.prog ∧ i.vars = [] ∧ Input.okWide C.prog (w.forCall tape i) .any w.heap.size f i ∧
      ((s.pre enc C.prog fn [] false (w.forCall tape i).memory i.args ∧ laidMetH C.prog ld (w.forCall tape i).memory) ∧ sizedMet enc C.prog fn (OpenSpec.ofChange s) false (w.forCall tape i).memory i.args) ∧ ({} : Assume).holds C.prog (lone (Frame.enter C.prog f i.args .normal) [] (w.forCall tape i)))
    (contract : ∀ xs, OfTys tys xs → FnOK C.prog D f xs [] fun r _ => r = .sc (.bool true)) :
    ReturnsInHanded {} C os f .any (fun w args => (s.pre enc C.prog fn [] false w args ∧ laidMetH C.prog ld w) ∧ sizedMet enc C.prog fn (OpenSpec.ofChange s) false w args) (s.post enc C.prog fn false true false false) := by
  refine returnsInHanded_of_change_and (C := C) (X := fun w _ => laidMetH C.prog ld w) (fun _ _ _ hh h => h.of_heap hh) own started noInit hf witness ?_
  intro W base args ds gs before hval hW _ _ hL _
  have hW' := hW
  obtain ⟨p, q, hA, hV, rfl, hfz, hnd⟩ := hW
  rw [hvars] at hV
  obtain ⟨rfl, rfl⟩ := trodVars_none hV
  rw [hts] at hA
  obtain ⟨xs, h1, h2⟩ := open_args hT ts tys args.toList ds p has hA fun j t v e1 e2 => hval j t v (by rw [← Array.getElem?_toList, hts]; exact e1) (by rw [← Array.getElem?_toList]; exact e2)
  have := law_of hf hb hname (hgl W hL) (contract xs h1) h2
  rw [Array.toArray_toList] at this
  refine this.mono fun e W' ⟨he, bel⟩ => ?_
  subst he
  obtain ⟨qa, hqa⟩ := shut_args laid bel ts args.toList ds p (fun t ht => by
    have := List.all_eq_true.1 hread t ht
    simpa using this) hA
  have hfn : s.fn H (ds ++ []) = { results := [.lit (.bool true)], args := ds } := by
    rw [List.append_nil]
    exact hs H ds (trodAll_len _ _ _ _ hA).2
  refine ⟨_, rfl, ds, [], _, [], qa, [], hW', ?_, ?_, ?_, bel.frame _, fun h => by cases h⟩
  · rw [hfn, hbt]
    exact trodAll_mk1 (shut_bool hbool _)
  · rw [hfn, hts]
    exact hqa
  · rw [hvars, hfn]
    rfl
end
end Go.WL
namespace Go.WL

/-- The second says less of the same value. -/
def Weak (v v' : AV) : Prop := v = v' ∨ (v.pure = true ∧ v'.pure = true ∧ v'.shape = v.shape ∧ ∀ (w : World) (lim : Nat → Nat) (cs : List Value), PR w lim v cs → PR w lim v' cs)
def Weaks : List AV → List AV → Prop
  | [], ys => ys = []
  | x :: xs, ys => ∃ y zs, ys = y :: zs ∧ Weak x y ∧ Weaks xs zs
theorem Weak.refl (v : AV) : Weak v v := .inl rfl
theorem Weaks.refl : ∀ xs : List AV, Weaks xs xs
  | [] => rfl
  | x :: xs => ⟨x, xs, rfl, .refl x, Weaks.refl xs⟩
theorem Weaks.nil : Weaks [] [] := rfl
theorem Weaks.cons {x y : AV} {xs ys : List AV} (h : Weak x y) (k : Weaks xs ys) : Weaks (x :: xs) (y :: ys) := ⟨y, ys, rfl, h, k⟩
theorem Weak.ro {s : Shape} {xs : List AV} : Weak (.sl s xs .ex) (.sl s xs .ro) := by
  refine .inr ⟨rfl, rfl, rfl, fun w lim cs h => ?_⟩
  obtain ⟨a, c, h1, h2, h3, h4, h5, h6⟩ := h
  exact ⟨a, c, h1, h2, by simp, h4, h5, h6⟩
theorem Weaks.len : ∀ {xs ys : List AV}, Weaks xs ys → ys.length = xs.length
  | [], ys, h => by rw [show ys = [] from h]
  | x :: xs, ys, h => by
    obtain ⟨y, zs, rfl, _, h⟩ := h
    simp [h.len]
theorem Weaks.sh {s : Shape} : ∀ {xs ys : List AV}, Weaks xs ys → allSh s xs → allSh s ys
  | [], ys, h, k => by rw [show ys = [] from h]; exact k
  | x :: xs, ys, h, k => by
    obtain ⟨y, zs, rfl, h0, h⟩ := h
    have k0 := k x (by simp)
    intro z hz
    rcases List.mem_cons.1 hz with rfl | hz
    · rcases h0 with rfl | ⟨_, h2, h3, _⟩
      · exact k0
      · exact ⟨h3.trans k0.1, h2⟩
    · exact h.sh (fun u hu => k u (List.mem_cons_of_mem _ hu)) z hz
theorem Weaks.prs {w : World} {lim : Nat → Nat} : ∀ {xs ys : List AV} {ps : List (List Value)}, Weaks xs ys → PRs w lim xs ps → PRs w lim ys ps
  | [], ys, ps, h, k => by rw [show ys = [] from h]; exact k
  | x :: xs, ys, ps, h, k => by
    obtain ⟨y, zs, rfl, h0, h⟩ := h
    obtain ⟨p, qs, rfl, k0, k⟩ := k
    refine ⟨p, qs, rfl, ?_, h.prs k⟩
    rcases h0 with rfl | ⟨_, _, _, h4⟩
    · exact k0
    · exact h4 _ _ _ k0
theorem Weak.sl {s : Shape} {xs ys : List AV} {m : Mark} (hm : m = .ex ∨ m = .ro) (h : Weaks xs ys) : Weak (.sl s xs m) (.sl s ys .ro) := by
  refine .inr ⟨by rcases hm with rfl | rfl <;> rfl, rfl, rfl, fun w lim cs k => ?_⟩
  obtain ⟨a, c, h1, h2, h3, h4, h5, h6⟩ := k
  refine ⟨a, c, by rw [h.len]; exact h1, by rw [h.len]; exact h2, by simp, h.sh h4, h5, ?_⟩
  rcases h6 with rfl | ⟨ad, ps, g1, g2, g3⟩
  · exact .inl h
  · exact .inr ⟨ad, ps, g1, h.prs g2, g3⟩
theorem Weak.rep0 {E : Env} {shs : List Shape} {v v' : AV} {u : Value} (h : Weak v v') (k : Rep0 E shs v u) : Rep0 E shs v' u := by
  rcases h with rfl | ⟨h1, h2, h3, h4⟩
  · exact k
  · by_cases hs : v.shape = .lf
    · rw [rep0_lf hs] at k
      rw [rep0_lf (h3.trans hs)]
      exact (IR_pure _ _ h2).2 (h4 _ _ _ ((IR_pure _ _ h1).1 k))
    · obtain ⟨cs, e, k⟩ := (rep0_ag hs).1 k
      exact (rep0_ag (fun e => hs (h3.symm.trans e))).2 ⟨cs, e, (IR_pure _ _ h2).2 (h4 _ _ _ ((IR_pure _ _ h1).1 k))⟩
theorem Weaks.repL {E : Env} {shs : List Shape} : ∀ {xs ys : List AV} {us : List Value}, Weaks xs ys → RepL E shs xs us → RepL E shs ys us
  | [], ys, us, h, k => by rw [show ys = [] from h]; exact k
  | x :: xs, ys, us, h, k => by
    obtain ⟨y, zs, rfl, h0, h⟩ := h
    obtain ⟨u, vs, rfl, k0, k⟩ := k
    exact ⟨u, vs, rfl, h0.rep0 k0, h.repL k⟩
/-- A contract holds of arguments of which more is known. -/
theorem FnOK.weak {P : Program} {D : Tabs} {f : Nat} {args args' st : List AV} {Q : AV → List AV → Prop} (h : FnOK P D f args' st Q) (hw : Weaks args args') : FnOK P D f args st Q :=
  ⟨fun E us h1 h2 h3 => h.run E us h1 h2 (hw.repL h3)⟩
/-- A slice of numbers, as an argument. -/
theorem ints_of {k : IntKind} {v : AV} (h : OfTy (.sl .lf (.int k)) v) : ∃ l : List Int, v = .sl .lf (l.map fun n => .sc (.int k n)) .ro ∧ l.length ≤ maxLen ∧ ∀ n ∈ l, (Lit.int k n).wf = true := by
  obtain ⟨xs, rfl, h1, h2⟩ := h
  have : ∀ xs : List AV, (∀ x ∈ xs, OfTy (.int k) x) → ∃ l : List Int, xs = l.map (fun n => .sc (.int k n)) ∧ ∀ n ∈ l, (Lit.int k n).wf = true := by
    intro xs
    induction xs with
    | nil => intro _; exact ⟨[], rfl, by simp⟩
    | cons x xs ih =>
      intro h
      obtain ⟨l, e, hl⟩ := ih fun y hy => h y (List.mem_cons_of_mem _ hy)
      obtain ⟨i, e2, hi⟩ := h x (by simp)
      refine ⟨i :: l, by rw [e, e2]; rfl, fun n hn => ?_⟩
      rcases List.mem_cons.1 hn with rfl | hn
      · exact hi
      · exact hl n hn
  obtain ⟨l, rfl, hl⟩ := this xs h2
  exact ⟨l, rfl, by simpa using h1, hl⟩
/-- Bytes, as an argument. -/
theorem bytes_of {v : AV} (h : OfTy (.sl .lf (.int .u8)) v) : ∃ b : List UInt8, v = .sl .lf (by8 b) .ro ∧ b.length ≤ maxLen := by
  obtain ⟨l, rfl, h1, hl⟩ := ints_of h
  obtain ⟨b, e1, e2⟩ := as_bytes l hl
  exact ⟨b, by rw [e1], by rw [e2]; exact h1⟩
theorem wf_i64 {i : Int} (h : (Lit.int .i64 i).wf = true) : -9223372036854775808 ≤ i ∧ i < 9223372036854775808 := by
  simp [Lit.wf, IntKind.min, IntKind.max, IntKind.signed, IntKind.bits] at h
  omega
theorem wf_u64 {i : Int} (h : (Lit.int .u64 i).wf = true) : 0 ≤ i ∧ i < 18446744073709551616 := by
  simp [Lit.wf, IntKind.min, IntKind.max, IntKind.signed, IntKind.bits] at h
  omega
theorem wf_u32 {i : Int} (h : (Lit.int .u32 i).wf = true) : 0 ≤ i ∧ i < 4294967296 := by
  simp [Lit.wf, IntKind.min, IntKind.max, IntKind.signed, IntKind.bits] at h
  omega
theorem wf_u16 {i : Int} (h : (Lit.int .u16 i).wf = true) : 0 ≤ i ∧ i < 65536 := by
  simp [Lit.wf, IntKind.min, IntKind.max, IntKind.signed, IntKind.bits] at h
  omega
theorem wf_u8 {i : Int} (h : (Lit.int .u8 i).wf = true) : 0 ≤ i ∧ i < 256 := by
  simp [Lit.wf, IntKind.min, IntKind.max, IntKind.signed, IntKind.bits] at h
  omega
end Go.WL
namespace Go.WL
theorem ints_map {k : IntKind} : ∀ xs : List AV, (∀ x ∈ xs, OfTy (.int k) x) → ∃ l : List Int, xs = l.map (fun n => .sc (.int k n)) ∧ ∀ n ∈ l, (Lit.int k n).wf = true
  | [], _ => ⟨[], rfl, by simp⟩
  | x :: xs, h => by
    obtain ⟨l, e, hl⟩ := ints_map xs fun y hy => h y (List.mem_cons_of_mem _ hy)
    obtain ⟨i, e2, hi⟩ := h x (by simp)
    refine ⟨i :: l, by rw [e, e2]; rfl, fun n hn => ?_⟩
    rcases List.mem_cons.1 hn with rfl | hn
    · exact hi
    · exact hl n hn
/-- An array of bytes, as an argument. -/
theorem arr_of {n : Nat} {v : AV} (h : OfTy (.ar n .lf (.int .u8)) v) : ∃ b : List UInt8, v = .ar n .lf (by8 b) ∧ b.length = n := by
  obtain ⟨xs, rfl, h1, h2⟩ := h
  obtain ⟨l, rfl, hl⟩ := ints_map xs h2
  obtain ⟨b, e1, e2⟩ := as_bytes l hl
  exact ⟨b, by rw [e1], by rw [e2]; simpa using h1⟩
theorem nat_u64 {i : Int} (h : (Lit.int .u64 i).wf = true) : ∃ n : Nat, i = (n : Int) ∧ n < 18446744073709551616 := by
  have := wf_u64 h
  exact ⟨i.toNat, by omega, by omega⟩
theorem nat_u32 {i : Int} (h : (Lit.int .u32 i).wf = true) : ∃ n : Nat, i = (n : Int) ∧ n < 4294967296 := by
  have := wf_u32 h
  exact ⟨i.toNat, by omega, by omega⟩
end Go.WL
namespace Go.WL
theorem arrs_map {n : Nat} : ∀ xs : List AV, (∀ x ∈ xs, OfTy (.ar n .lf (.int .u8)) x) → ∃ l : List (List UInt8), xs = l.map (fun b => .ar n .lf (by8 b)) ∧ ∀ b ∈ l, b.length = n
  | [], _ => ⟨[], rfl, by simp⟩
  | x :: xs, h => by
    obtain ⟨l, e, hl⟩ := arrs_map xs fun y hy => h y (List.mem_cons_of_mem _ hy)
    obtain ⟨b, e2, hb⟩ := arr_of (h x (by simp))
    refine ⟨b :: l, by rw [e, e2]; rfl, fun c hc => ?_⟩
    rcases List.mem_cons.1 hc with rfl | hc
    · exact hb
    · exact hl c hc
theorem arrs_of {n : Nat} {v : AV} (h : OfTy (.sl (.ar n .lf) (.ar n .lf (.int .u8))) v) : ∃ l : List (List UInt8), v = .sl (.ar n .lf) (l.map fun b => .ar n .lf (by8 b)) .ro ∧ ∀ b ∈ l, b.length = n := by
  obtain ⟨xs, rfl, h1, h2⟩ := h
  obtain ⟨l, rfl, hl⟩ := arrs_map xs h2
  exact ⟨l, rfl, hl⟩
theorem lists_map : ∀ xs : List AV, (∀ x ∈ xs, OfTy (.sl .lf (.int .u8)) x) → ∃ l : List (List UInt8), xs = l.map (fun b => .sl .lf (by8 b) .ro)
  | [], _ => ⟨[], rfl⟩
  | x :: xs, h => by
    obtain ⟨l, e⟩ := lists_map xs fun y hy => h y (List.mem_cons_of_mem _ hy)
    obtain ⟨b, e2, _⟩ := bytes_of (h x (by simp))
    exact ⟨b :: l, by rw [e, e2]; rfl⟩
theorem lists_of {v : AV} (h : OfTy (.sl .lf (.sl .lf (.int .u8))) v) : ∃ l : List (List UInt8), v = .sl .lf (l.map fun b => .sl .lf (by8 b) .ro) .ro ∧ l.length ≤ maxLen := by
  obtain ⟨xs, rfl, h1, h2⟩ := h
  obtain ⟨l, rfl⟩ := lists_map xs h2
  exact ⟨l, rfl, by simpa using h1⟩
end Go.WL
namespace Go.WL
def z32 : List UInt8 := [0, 0, 0, 0, 0, 0, 0, 0, 0, 0, 0, 0, 0, 0, 0, 0, 0, 0, 0, 0, 0, 0, 0, 0, 0, 0, 0, 0, 0, 0, 0, 0]
theorem z32_is : by8 z32 = List.replicate 32 (.sc (.int .u8 0)) := rfl
theorem snocU (l : List UInt8) (c : UInt8) : by8 l ++ [.sc (.int .u8 (c.toNat : Int))] = by8 (l ++ [c]) := by simp [by8]
theorem by8_ap (a b : List UInt8) : by8 a ++ by8 b = by8 (a ++ b) := by simp [by8]
end Go.WL
namespace Go.WL
open Go.RowKit
theorem cell_block {w : World} {a : Addr} {u : Value} (h : w.cell? a = some u) : a.block < w.heap.size := World.block_lt_of_cell? _ _ h
/-- The world below stands: so does all that is told of it. -/
theorem FnOK.ofBelow {P : Program} {D : Tabs} {f : Nat} {args : List AV} {Q : AV → List AV → Prop} (v : Value) (hv : simple v = true) (hQ : Q (.sc v) [])
    (h : ∀ (E : Env) (us : List Value), RepL E (shsOf (boxesOf [])) args us → CallsX P f us.toArray E.w fun u w' => u = v ∧ Below E.w.heap.size E.w w') : FnOK P D f args [] Q := by
  refine ⟨fun E us h1 h2 h3 => (h E us h3).mono fun u w' ⟨e, hb⟩ => ?_⟩
  subst e
  have hbx : E.bx = [] := by
    have := h1.bxl
    simpa [boxesOf] using this
  have hext : Ext E.w E.lim w' E.lim := by
    refine ⟨fun b o ho => ?_, fun _ => Nat.le_refl _⟩
    obtain ⟨x, hx⟩ := h1.lim b o ho
    exact World.cell?_of_block (a := ⟨b, o, none⟩) (hb.block b (cell_block hx))
  refine ⟨{ E with w := w' }, .sc u, [], rfl, ⟨h1.bxl, ?_, ?_, ?_, ?_, ?_⟩, ?_, ⟨hb.os, hb.tape, hb.output, hb.size, hext, ?_, ?_, List.prefix_refl _⟩, List.prefix_refl _, hQ⟩
  · intro id c fl b hc
    simp [boxesOf] at hc
  · intro r hr
    simp [AV.rows, AV.rowss] at hr
  · simp [claims, hbx, AV.rows, AV.rowss]
  · intro b o ho
    obtain ⟨x, hx⟩ := h1.lim b o ho
    exact ⟨x, (hext.cell b o ho).trans hx⟩
  · intro g x hg
    obtain ⟨k1, cs, k2, k3⟩ := h1.glob g x hg
    exact ⟨k1, cs, PR_ext hext _ _ k2, k3.ext hext⟩
  · show PR w' E.lim (.sc u) [u]
    exact ⟨rfl, hv⟩
  · intro b hb2 _
    exact ⟨hb.block b hb2, rfl⟩
  · intro b hb2
    simp [claims, hbx, AV.rows, AV.rowss] at hb2
theorem FnOK.ofCalls {P : Program} {D : Tabs} {f : Nat} {args : List AV} {Q : AV → List AV → Prop} (fn : Func) (hf : P.funcs[f]? = some fn) (hn : (fn.name == "runtime.NumGoroutine") = false) (hb : fn.body.isNone = false) (v : Value) (hv : simple v = true) (hQ : Q (.sc v) [])
    (h : ∀ (E : Env) (us : List Value), RepL E (shsOf (boxesOf [])) args us → Calls P f us.toArray E.w fun e w' => e = .returned v ∧ Below E.w.heap.size E.w w') : FnOK P D f args [] Q :=
  .ofBelow v hv hQ fun E us hr => .inl ⟨fn, hf, hn, hb, (h E us hr).mono fun e w' ⟨h1, h2⟩ => ⟨v, h1, rfl, h2⟩⟩
/-- One cell as an argument. -/
theorem repL_sc {E : Env} {shs : List Shape} {v : Value} {l : List AV} {us : List Value} (h : RepL E shs (.sc v :: l) us) : ∃ vs, us = v :: vs ∧ RepL E shs l vs := by
  obtain ⟨u, vs, rfl, h1, h2⟩ := h
  obtain ⟨e, _⟩ : [u] = [v] ∧ simple v = true := h1
  obtain rfl : u = v := by simpa using e
  exact ⟨vs, rfl, h2⟩
theorem prs_by8 {w : World} {lim : Nat → Nat} : ∀ (l : List UInt8) (ps : List (List Value)), PRs w lim (by8 l) ps → ps.flatten = l.map fun c => .int .u8 c.toNat
  | [], ps, h => by rw [show ps = [] from h]; rfl
  | c :: l, ps, h => by
    obtain ⟨p, qs, rfl, h1, h2⟩ := h
    obtain ⟨e, _⟩ : p = [.int .u8 c.toNat] ∧ _ := h1
    rw [List.flatten_cons, e, prs_by8 l qs h2]
    rfl
/-- An array of bytes as an argument. -/
theorem repL_ar8 {E : Env} {shs : List Shape} {n : Nat} {b : List UInt8} {l : List AV} {us : List Value} (h : RepL E shs (.ar n .lf (by8 b) :: l) us) : ∃ vs, us = .agg (b.map fun c => Value.int .u8 c.toNat).toArray :: vs ∧ b.length = n ∧ RepL E shs l vs := by
  obtain ⟨u, vs, rfl, h1, h2⟩ := h
  obtain ⟨cs, rfl, k⟩ := h1
  obtain ⟨k1, _, ps, k2, k3⟩ := k
  rw [prs_by8 b ps k2] at k3
  refine ⟨vs, ?_, by simpa [by8] using k1, h2⟩
  rw [← k3]
end Go.WL
namespace Go.WL
set_option maxRecDepth 20000
/-- Bytes, as a string. -/
def strB (l : List UInt8) : ByteArray := ⟨l.toArray⟩
theorem strB_app (a b : List UInt8) : strB a ++ strB b = strB (a ++ b) := by
  apply ByteArray.ext
  simp [strB]
theorem strB_size (l : List UInt8) : (strB l).size = l.length := by simp [strB, ByteArray.size]
theorem strB_list (l : List UInt8) : (strB l).toList = l := by rw [ByteArray.toList_eq]; simp [strB]
def hexd (n : Nat) : UInt8 := UInt8.ofNat (if n < 10 then 48 + n else 87 + n)
theorem hex_ext : ∀ n : Fin 16, (({ data := #[48, 49, 50, 51, 52, 53, 54, 55, 56, 57, 97, 98, 99, 100, 101, 102] } : ByteArray).extract n.val (n.val + 1)).data.toList = [hexd n.val] := by decide +kernel
theorem hex_at (n : Nat) (h : n < 16) : ({ data := #[48, 49, 50, 51, 52, 53, 54, 55, 56, 57, 97, 98, 99, 100, 101, 102] } : ByteArray).extract n (n + 1) = strB [hexd n] := by
  apply ByteArray.ext
  apply Array.toList_inj.1
  rw [hex_ext ⟨n, h⟩]
  rfl
def hexB (l : List UInt8) : List UInt8 := l.flatMap fun c => [hexd (c.toNat / 16), hexd (c.toNat % 16)]
theorem hexB_len (l : List UInt8) : (hexB l).length = 2 * l.length := by
  induction l with
  | nil => rfl
  | cons c l ih =>
    have : hexB (c :: l) = [hexd (c.toNat / 16), hexd (c.toNat % 16)] ++ hexB l := rfl
    have h2 : ([hexd (c.toNat / 16), hexd (c.toNat % 16)] : List UInt8).length = 2 := rfl
    have h3 := congrArg List.length this
    rw [List.length_append] at h3
    have h4 : (c :: l).length = l.length + 1 := rfl
    omega
theorem hexB_snoc (l : List UInt8) (i : Nat) (h : i < l.length) : hexB (l.take i) ++ [hexd (l[i].toNat / 16)] ++ [hexd (l[i].toNat % 16)] = hexB (l.take (i + 1)) := by
  rw [List.take_succ_eq_append_getElem h, hexB, hexB, List.flatMap_append, List.append_assoc]
  rfl
end Go.WL
namespace Go.WL
theorem at8u {l : List UInt8} {i : Nat} (h : i < l.length) : (by8 l)[i]? = some (.sc (.int .u8 (l[i].toNat : Int))) := by simp [by8, h]
theorem set8u (l : List UInt8) (i : Nat) (a : UInt8) : (by8 l).set i (.sc (.int .u8 (a.toNat : Int))) = by8 (l.set i a) := by simp [by8, List.map_set]
theorem bytes_strB (s : List UInt8) : bytesAV (strB s) = by8 s := by unfold bytesAV; rw [strB_list]
theorem strB_of (s : ByteArray) : s = strB s.data.toList := by apply ByteArray.ext; simp [strB]
theorem beq_strB (a b : List UInt8) : ((strB a).toList == (strB b).toList) = (a == b) := by rw [strB_list, strB_list]
theorem nil_str : (({ data := #[] } : ByteArray)).toList = [] := by rw [ByteArray.toList_eq]
end Go.WL
namespace Go.WL
theorem Weaks.pures : ∀ {xs ys : List AV}, Weaks xs ys → AV.pures xs = true → AV.pures ys = true ∧ AV.shapes ys = AV.shapes xs
  | [], ys, h, _ => by rw [show ys = [] from h]; exact ⟨rfl, rfl⟩
  | x :: xs, ys, h, hp => by
    obtain ⟨y, zs, rfl, h0, h⟩ := h
    simp only [AV.pures, Bool.and_eq_true] at hp
    have ih := h.pures hp.2
    have : y.pure = true ∧ y.shape = x.shape := by
      rcases h0 with rfl | ⟨_, h2, h3, _⟩
      · exact ⟨hp.1, rfl⟩
      · exact ⟨h2, h3⟩
    exact ⟨by simp only [AV.pures, this.1, ih.1, Bool.and_self], by simp only [AV.shapes, this.2, ih.2]⟩
theorem Weak.st {xs ys : List AV} (hp : AV.pures xs = true) (h : Weaks xs ys) : Weak (.st xs) (.st ys) := by
  have k := h.pures hp
  refine .inr ⟨hp, k.1, ?_, fun w lim cs hc => ?_⟩
  · simp only [AV.shape, k.2]
  · obtain ⟨ps, h1, h2⟩ := hc
    exact ⟨ps, h.prs h1, h2⟩
end Go.WL
namespace Go.WL
open Go
/-- Walk one turn of a loop whose continuation K is any k that grants what K grants at its normal end, and at one exit. -/
theorem enter1 {w : (Ex → AS → Prop) → Prop} {K : Ex → AS → Prop} {A : AS → Prop} {i0 : Nat} {S : AS} {p : Prop} (hA : ∀ τ, A τ → K .normal τ)
    (h : ∀ k : Ex → AS → Prop, (∀ τ, A τ → k .normal τ) → (p → k (.exit i0) S) → w k) (hB : p → K (.exit i0) S) : w K :=
  h K hA hB
/-- As 'enter1', where the turn may come back from the function too. -/
theorem enter2 {w : (Ex → AS → Prop) → Prop} {K : Ex → AS → Prop} {A R : AS → Prop} {i0 : Nat} {S : AS} {p : Prop} (hA : ∀ τ, A τ → K .normal τ) (hR : ∀ τ, R τ → K .ret τ)
    (h : ∀ k : Ex → AS → Prop, (∀ τ, A τ → k .normal τ) → (p → k (.exit i0) S) → (∀ τ, R τ → k .ret τ) → w k) (hB : p → K (.exit i0) S) : w K :=
  h K hA hB hR
/-- As 'enter1', whatever the ends: each is walked on from when it is reached. -/
theorem enter3 {w : (Ex → AS → Prop) → Prop} {K : Ex → AS → Prop} (h : ∀ k : Ex → AS → Prop, (∀ e τ, K e τ → k e τ) → w k) : w K := h K fun _ _ h => h
/-- A number's value kept out of sight, wherever it stands. -/
@[elab_as_elim] theorem swap {x y : Int} {motive : Int → Prop} (e : x = y) (h : ∀ v, v = y → motive v) : motive x := h x e
end Go.WL
