/- A logic of values over the model: what each operation, call and loop makes of the state, shown right against the model. No condition beyond those that each theorem names. -/
import Derived.Test.YtcmdkiejkheahaaDoorWordsB
import Derived.Orders
set_option linter.unusedVariables false
set_option linter.unusedSimpArgs false
namespace Go.WL

def Det {α : Type} (f : (α → Prop) → Prop) : Prop := ∀ K, f K → ∃ x, K x ∧ ∀ K', K' x → f K'
theorem Det.pure {α : Type} (x : α) : Det fun K : α → Prop => K x := fun _ h => ⟨x, h, fun _ h' => h'⟩
theorem Det.no {α : Type} : Det fun _ : α → Prop => False := fun _ h => h.elim
theorem Det.bind {α β : Type} {f : (α → Prop) → Prop} {g : α → (β → Prop) → Prop} (hf : Det f) (hg : ∀ x, Det (g x)) : Det fun K => f fun x => g x K := by
  intro K h
  obtain ⟨x, h1, h2⟩ := hf _ h
  obtain ⟨y, h3, h4⟩ := hg x K h1
  exact ⟨y, h3, fun K' h' => h2 _ (h4 K' h')⟩
theorem Det.and {α : Type} {p : Prop} {f : (α → Prop) → Prop} (hf : Det f) : Det fun K => p ∧ f K := by
  intro K h
  obtain ⟨x, h1, h2⟩ := hf K h.2
  exact ⟨x, h1, fun K' h' => ⟨h.1, h2 K' h'⟩⟩
theorem Det.ex {α β : Type} {f : β → (α → Prop) → Prop} (hf : ∀ v, Det (f v)) : Det fun K => ∃ v, f v K := by
  intro K ⟨v, h⟩
  obtain ⟨x, h1, h2⟩ := hf v K h
  exact ⟨x, h1, fun K' h' => ⟨v, h2 K' h'⟩⟩
theorem Det.map {α β : Type} {f : (α → Prop) → Prop} (hf : Det f) (g : α → β) : Det fun K => f fun x => K (g x) := hf.bind fun x => Det.pure (g x)
theorem Det.branch {α : Type} {b : Bool} {f g : (α → Prop) → Prop} (hf : Det f) (hg : Det g) : Det fun K => Branch b (f K) (g K) := by
  cases b
  · exact hg
  · exact hf

theorem det_litK (e : Nat) : Det (litK e) := fun _ h => ⟨e, litK_of h, fun _ h' => litK_iff.2 h'⟩
theorem det_litsK : ∀ l : List Nat, Det (litsK l)
  | [] => Det.pure []
  | x :: xs => (det_litK x).bind fun y => (det_litsK xs).map fun ys => y :: ys
mutual
theorem det_dmK : ∀ v : AV, Det (dmK v)
  | .st xs => by simpa only [dmK] using (det_dmsK xs).map fun ys => AV.st ys
  | .tup xs => by simpa only [dmK] using (det_dmsK xs).map fun ys => AV.tup ys
  | .sl s xs m => by cases m <;> exact Det.pure _
  | .pt id p => Det.pure _
  | .bs id p s off len cap => Det.pure _
  | .fn k caps => Det.pure _
  | .sc v => Det.pure _
  | .ar n s xs => Det.pure _
  | .rp v => Det.pure _
theorem det_dmsK : ∀ xs : List AV, Det (dmsK xs)
  | [] => Det.pure _
  | x :: xs => (det_dmK x).bind fun y => (det_dmsK xs).map fun ys => y :: ys
end
mutual
theorem det_renK (f g : Nat → Nat) : ∀ v : AV, Det (renK f g v)
  | .st xs => by simpa only [renK] using (det_rensK f g xs).map fun ys => AV.st ys
  | .tup xs => by simpa only [renK] using (det_rensK f g xs).map fun ys => AV.tup ys
  | .sl s xs m => by
    cases m with
    | own r => simpa only [renK] using (det_litK (g r)).map fun i => AV.sl s xs (.own i)
    | ro => exact Det.pure _
    | ex => exact Det.pure _
  | .pt id p => by simpa only [renK] using (det_litK (f id)).map fun i => AV.pt i p
  | .bs id p s off len cap => by simpa only [renK] using (det_litK (f id)).map fun i => AV.bs i p s off len cap
  | .fn k caps => by simpa only [renK] using (det_rensK f g caps).map fun ys => AV.fn k ys
  | .sc v => Det.pure _
  | .ar n s xs => Det.pure _
  | .rp v => Det.pure _
theorem det_rensK (f g : Nat → Nat) : ∀ xs : List AV, Det (rensK f g xs)
  | [] => Det.pure _
  | x :: xs => by simpa only [rensK] using (det_renK f g x).bind fun y => (det_rensK f g xs).map fun ys => y :: ys
end
theorem det_forceB : ∀ l : List (AV × Bool), Det (forceB l)
  | [] => Det.pure _
  | (c, f) :: l => (det_forceB l).map fun l' => (c, f) :: l'
theorem det_forceL : ∀ l : List AV, Det (forceL l)
  | [] => Det.pure _
  | c :: l => (det_forceL l).map fun l' => c :: l'
theorem det_rdK : ∀ (p : List Nat) (c : AV), Det (rdK c p)
  | [], c => by cases c <;> exact Det.pure _
  | i :: p, c => by
    cases c with
    | st xs =>
      cases h : xs[i]? with
      | none => simpa only [rdK, h] using Det.no
      | some x => simpa only [rdK, h] using det_rdK p x
    | ar n s xs => simpa only [rdK] using Det.ex (α := AV) fun x => Det.and (det_rdK p x)
    | _ => exact Det.no
theorem det_wrK : ∀ (p : List Nat) (c v : AV), Det (wrK c p v)
  | [], c, v => by
    have : Det fun K => match Shape.eqb c.shape v.shape with | true => K v | false => False := by
      cases Shape.eqb c.shape v.shape <;> first | exact Det.no | exact Det.pure _
    cases c <;> exact this
  | i :: p, c, v => by
    cases c with
    | st xs =>
      cases h : xs[i]? with
      | none => simpa only [wrK, h] using Det.no
      | some x => simpa only [wrK, h] using (det_wrK p x v).map fun x' => AV.st (xs.set i x')
    | ar n s xs =>
      cases hp : v.pure with
      | false => simpa only [wrK, hp] using Det.no
      | true => simpa only [wrK, hp] using Det.ex (α := AV) fun x => Det.and ((det_wrK p x v).map fun x' => AV.ar n s (xs.set i x'))
    | _ => exact Det.no
theorem det_boxK {α : Type} {bx : List (AV × Bool)} {id : Nat} {g : AV → Bool → (α → Prop) → Prop} (h : ∀ c f, Det (g c f)) : Det fun K => boxK bx id fun c f => g c f K := by
  unfold boxK
  cases hb : bx[id]? with
  | none => exact Det.no
  | some x => exact h x.1 x.2
theorem det_elemSh {α : Type} {D : Tabs} {t : Nat} {g : Nat → Shape → Nat → (α → Prop) → Prop} (h : ∀ e s b, Det (g e s b)) : Det fun K => elemSh D t fun e s b => g e s b K := by
  unfold elemSh
  cases lookT D.ty t with
  | none => exact Det.no
  | some i =>
    obtain ⟨k, sh, b, z⟩ := i
    cases k with
    | slice e =>
      cases h2 : lookT D.ty e with
      | none => simpa only [h2] using Det.no
      | some j => obtain ⟨k2, sh2, b2, z2⟩ := j; simpa only [h2] using h e sh2 b2
    | _ => exact Det.no
theorem det_elemAr {α : Type} {D : Tabs} {t : Nat} {g : Nat → Shape → (α → Prop) → Prop} (h : ∀ n s, Det (g n s)) : Det fun K => elemAr D t fun n s => g n s K := by
  unfold elemAr
  cases lookT D.ty t with
  | none => exact Det.no
  | some i =>
    obtain ⟨k, sh, b, z⟩ := i
    cases k <;> cases sh <;> first | exact Det.no | exact h _ _
theorem det_if {α : Type} {b : Bool} {f : (α → Prop) → Prop} (h : Det f) : Det fun K => match (generalizing := false) b with | true => f K | false => False := by
  cases b
  · exact Det.no
  · exact h
theorem det_readS {α : Type} {bx : List (AV × Bool)} {v : AV} {g : Shape → List AV → (α → Prop) → Prop} (h : ∀ s xs, Det (g s xs)) : Det fun K => readS bx v fun s xs => g s xs K := by
  cases v with
  | sl s xs m => exact h s xs
  | bs id p s off len cap =>
    refine det_boxK fun c f => (det_rdK p c).bind fun a => ?_
    cases a with
    | ar n s xs => exact h _ _
    | _ => exact Det.no
  | _ => exact Det.no
theorem det_bnd (x : Option AV) (d : Nat) : Det (bnd x d) := by
  cases x with
  | none => exact Det.pure _
  | some v =>
    cases v with
    | sc c =>
      cases c with
      | int k n => exact Det.and (Det.pure _)
      | _ => exact Det.no
    | _ => exact Det.no
end Go.WL
namespace Go.WL

theorem det_fillK : ∀ (l : List (Nat × AV)) (zs : List AV), Det (fillK zs l)
  | [], zs => by cases zs <;> exact Det.pure _
  | (i, v) :: l, zs => by
    simp only [fillK]
    cases zs[i]? with
    | none => exact Det.no
    | some z => exact det_if (det_fillK l _)
theorem det_fillF (zs : List AV) (l : List (Nat × AV)) : Det (fillF zs l) := by
  cases l with
  | nil => exact Det.pure _
  | cons p l => exact (det_fillK _ _).bind fun xs => det_forceL xs
theorem det_evalP (D : Tabs) (σ : List (Nat × AV)) (ty : Nat → Nat) : ∀ l : List (Nat × Operand), Det (evalP D σ ty l)
  | [] => Det.pure _
  | (i, o) :: l => by
    simp only [evalP]
    cases evalN D σ (ty i) o with
    | none => exact Det.no
    | some v => exact (det_dmK v).bind fun u => (det_evalP D σ ty l).map fun vs => (i, u) :: vs
theorem det_wBuild (D : Tabs) (tm : List (Nat × AV)) (t : Nat) (ps : List (Nat × Operand)) : Det (wBuild D tm t ps) := by
  intro K h
  unfold wBuild at h
  split at h
  · obtain ⟨vs, h1, h2⟩ := det_evalP D tm _ ps _ h
    obtain ⟨xs, h3, h4⟩ := det_fillF _ _ _ h1
    refine ⟨_, h3, fun K' h' => ?_⟩
    unfold wBuild
    simp only [*]
  · obtain ⟨vs, h1, h2⟩ := det_evalP D tm _ ps _ h
    split at h1
    · rename_i hs
      obtain ⟨xs, h3, h4⟩ := det_fillF _ _ _ h1
      refine ⟨_, h3, fun K' h' => ?_⟩
      unfold wBuild
      simp only [*]
    · exact h1.elim
  · exact h.elim
theorem det_wLoad (D : Tabs) (bx : List (AV × Bool)) (t : Nat) (a : AV) : Det (wLoad D bx t a) := by
  unfold wLoad
  cases lookT D.ty t with
  | none => exact Det.no
  | some i =>
    obtain ⟨k, sh, b, z⟩ := i
    cases a with
    | rp v => exact det_if (Det.pure v)
    | pt id p => exact det_boxK fun c f => (det_rdK p c).bind fun v => det_if (Det.pure v)
    | _ => exact Det.no
theorem det_wFieldAddr (D : Tabs) (bx : List (AV × Bool)) (s : Nat) (a : AV) (f : Nat) : Det (wFieldAddr D bx s a f) := by
  unfold wFieldAddr
  cases lookT D.ty s with
  | none => exact Det.no
  | some i =>
    obtain ⟨k, sh, b, z⟩ := i
    cases k with
    | strct fs =>
      cases a with
      | rp v =>
        cases v with
        | st xs =>
          refine det_if ?_
          cases xs[f]? with
          | none => exact Det.no
          | some y => exact Det.pure _
        | _ => exact Det.no
      | pt id p =>
        refine det_boxK fun c fl => ?_
        cases shAt c.shape p with
        | none => exact Det.no
        | some s2 =>
          cases s2 with
          | nd l =>
            refine det_if ?_
            cases l[f]? with
            | none => exact Det.no
            | some y => exact Det.pure _
          | _ => exact Det.no
      | _ => exact Det.no
    | _ => exact Det.no
theorem det_wIndexAddr (D : Tabs) (bx : List (AV × Bool)) (t : Nat) (x ix : AV) : Det (wIndexAddr D bx t x ix) := by
  unfold wIndexAddr
  cases ix with
  | sc v =>
    cases v with
    | int k i =>
      cases x with
      | sl s xs m => exact det_elemSh fun e sh b => det_if (Det.and (Det.ex (α := AV) fun v => Det.and (Det.pure _)))
      | rp v =>
        cases v with
        | ar n s xs => exact det_elemAr fun n0 sh => det_if (Det.and (Det.ex (α := AV) fun v => Det.and (Det.pure _)))
        | _ => exact Det.no
      | pt id p =>
        refine det_boxK fun c fl => ?_
        cases shAt c.shape p with
        | none => exact Det.no
        | some s2 =>
          cases s2 with
          | ar n s => exact det_elemAr fun n0 sh => det_if (Det.and (Det.and (Det.pure _)))
          | _ => exact Det.no
      | bs id p s off len cap => exact det_elemSh fun e sh b => det_if (Det.and (Det.and (Det.pure _)))
      | _ => exact Det.no
    | _ => exact Det.no
  | _ => exact Det.no
theorem det_wIndex (D : Tabs) (t : Nat) (x ix : AV) : Det (wIndex D t x ix) := by
  unfold wIndex
  cases ix with
  | sc v =>
    cases v with
    | int k i =>
      cases x with
      | ar n s xs => exact det_elemAr fun n0 sh => det_if (Det.and (Det.ex (α := AV) fun v => Det.and (Det.pure _)))
      | sc c =>
        cases c with
        | string b =>
          cases lookT D.ty t with
          | none => exact Det.no
          | some i =>
            obtain ⟨k2, sh, b2, z⟩ := i
            cases k2 with
            | str => exact Det.and (Det.ex (α := AV) fun v => Det.and (Det.pure _))
            | _ => exact Det.no
        | _ => exact Det.no
      | _ => exact Det.no
    | _ => exact Det.no
  | _ => exact Det.no
theorem det_wField (D : Tabs) (t : Nat) (x : AV) (f : Nat) : Det (wField D t x f) := by
  unfold wField
  cases lookT D.ty t with
  | none => exact Det.no
  | some i =>
    obtain ⟨k, sh, b, z⟩ := i
    cases k with
    | strct fs =>
      cases x with
      | st xs =>
        refine det_if ?_
        cases xs[f]? with
        | none => exact Det.no
        | some y => exact Det.pure _
      | _ => exact Det.no
    | _ => exact Det.no
theorem det_lenP (D : Tabs) (t : Nat) : Det (lenP D t) := by
  intro K h
  unfold lenP at h
  split at h
  · split at h
    · exact ⟨_, h, fun K' h' => by unfold lenP; simp only [*]⟩
    · exact h.elim
  · exact h.elim
theorem det_wLen (D : Tabs) (t : Nat) (x : AV) : Det (wLen D t x) := by
  intro K h
  unfold wLen at h
  split at h
  · obtain ⟨v, h1, h2⟩ := det_elemSh (g := fun _ _ _ K => K _) (fun _ _ _ => Det.pure _) K h
    exact ⟨v, h1, fun K' h' => h2 K' h'⟩
  · obtain ⟨v, h1, h2⟩ := det_elemSh (g := fun _ _ _ K => K _) (fun _ _ _ => Det.pure _) K h
    exact ⟨v, h1, fun K' h' => h2 K' h'⟩
  · split at h
    · exact ⟨_, h, fun K' h' => by unfold wLen; simp only [*]⟩
    · exact h.elim
  · split at h
    · split at h
      · exact ⟨_, h, fun K' h' => by unfold wLen; simp only [*]⟩
      · exact h.elim
    · exact h.elim
  · obtain ⟨v, h1, h2⟩ := det_lenP D t K h
    exact ⟨v, h1, fun K' h' => h2 K' h'⟩
  · obtain ⟨v, h1, h2⟩ := det_lenP D t K h
    exact ⟨v, h1, fun K' h' => h2 K' h'⟩
  · exact h.elim
theorem det_binI (op : BinOp) (k : IntKind) (x y : Int) : Det (binI op k x y) := by
  cases op <;> first | exact Det.no | exact Det.pure _ | exact Det.and (Det.pure _)
theorem det_shiftI (op : BinOp) (k : IntKind) (x y : Int) : Det (shiftI op k x y) := by
  cases op <;> first | exact Det.no | exact Det.and (Det.pure _)
theorem det_binS (op : BinOp) (x y : ByteArray) : Det (binS op x y) := by
  cases op <;> first | exact Det.no | exact Det.pure _ | exact Det.and (Det.pure _)
theorem det_wUn (op : UnOp) (x : AV) : Det (wUn op x) := by
  intro K h
  unfold wUn at h
  split at h
  · exact ⟨_, h, fun K' h' => h'⟩
  · exact ⟨_, h, fun K' h' => h'⟩
  · exact ⟨_, h, fun K' h' => h'⟩
  · exact h.elim
mutual
theorem det_wEq (D : Tabs) : ∀ (t : Nat) (x y : AV), Det (wEq D t x y)
  | t, .sc v, y => by
    intro K h
    simp only [wEq] at h
    split at h
    · split at h
      · split at h
        · exact ⟨_, h, fun K' h' => by simp only [wEq, *]⟩
        · exact h.elim
      · exact h.elim
    · split at h
      · exact ⟨_, h, fun K' h' => by simp only [wEq, *]⟩
      · exact h.elim
    · split at h
      · exact ⟨_, h, fun K' h' => by simp only [wEq, *]⟩
      · exact h.elim
    · exact h.elim
  | t, .ar n s xs, y => by
    intro K h
    simp only [wEq] at h
    split at h
    · split at h
      · split at h
        · split at h
          · obtain ⟨as, bs, h1, h2, h3⟩ := h
            exact ⟨_, h3, fun K' h' => by simp only [wEq, *]; exact ⟨as, bs, rfl, rfl, h'⟩⟩
          · obtain ⟨as, bs, h1, h2, h3⟩ := h
            exact ⟨_, h3, fun K' h' => by simp only [wEq, *]; exact ⟨as, bs, rfl, rfl, h'⟩⟩
          · exact h.elim
        · exact h.elim
      · exact h.elim
    · exact h.elim
  | t, .st xs, y => by
    intro K h
    simp only [wEq] at h
    split at h
    · split at h
      · split at h
        · obtain ⟨b, h1, h2⟩ := det_wEqs D _ xs _ K h
          exact ⟨b, h1, fun K' h' => by simp only [wEq, *]⟩
        · exact h.elim
      · exact h.elim
    · exact h.elim
  | t, .sl s xs m, y => Det.no
  | t, .pt id p, y => Det.no
  | t, .bs id p s off len cap, y => Det.no
  | t, .fn k caps, y => Det.no
  | t, .rp v, y => Det.no
  | t, .tup xs, y => Det.no
theorem det_wEqs (D : Tabs) : ∀ (fs : List (Nat × Nat)) (xs ys : List AV), Det (wEqs D fs xs ys)
  | fs, [], ys => by cases fs <;> cases ys <;> first | exact Det.pure _ | exact Det.no
  | fs, x :: xs, ys => by
    cases fs with
    | nil => exact Det.no
    | cons f fs =>
      cases ys with
      | nil => exact Det.no
      | cons y ys =>
        have := (det_wEq D f.1 x y).bind fun b => (det_wEqs D fs xs ys).map fun c => b && c
        simpa only [wEqs] using this
end
theorem det_wBin (D : Tabs) (op : BinOp) (t : Nat) (x y : AV) : Det (wBin D op t x y) := by
  have ii : ∀ k a k' b, Det (wBin D op t (.sc (.int k a)) (.sc (.int k' b))) := by
    intro k a k' b
    have sh : ∀ o, Det (fun K => shiftI o k a b K) := fun o => det_shiftI o k a b
    have bi : ∀ o, Det (fun K => match (generalizing := false) eqK k k' with | true => binI o k a b K | false => False) := fun o => det_if (det_binI o k a b)
    cases op
    case shl => exact sh .shl
    case shr => exact sh .shr
    all_goals exact bi _
  have ss : ∀ a b, Det (wBin D op t (.sc (.string a)) (.sc (.string b))) := fun a b => det_binS _ _ _
  have gen : ∀ x y, Det fun K : Value → Prop => match (generalizing := false) op with | .eql => wEq D t x y fun b => K (.bool b) | .neq => wEq D t x y fun b => K (.bool (!b)) | _ => False := by
    intro x y
    cases op <;> first | exact (det_wEq D t x y).map fun b => Value.bool b | exact (det_wEq D t x y).map fun b => Value.bool (!b) | exact Det.no
  intro K h
  unfold wBin at h
  split at h
  · exact ii _ _ _ _ K h
  · exact ss _ _ K h
  · rename_i n1 n2
    obtain ⟨v, h1, h2⟩ := gen x y K h
    refine ⟨v, h1, fun K' h' => ?_⟩
    have := h2 K' h'
    unfold wBin
    split
    · exact absurd rfl (n1 _ _ _ _ rfl)
    · exact absurd rfl (n2 _ _ rfl)
    · exact this
end Go.WL
namespace Go.WL

theorem det_ifn {α : Type} {b : Bool} {f : (α → Prop) → Prop} (h : Det f) : Det fun K => match (generalizing := false) b with | false => False | true => f K := by
  cases b
  · exact Det.no
  · exact h
theorem det_wSlice (D : Tabs) (bx : List (AV × Bool)) (t : Nat) (x : AV) (lo hi mx : Option AV) : Det (wSlice D bx t x lo hi mx) := by
  unfold wSlice
  cases x with
  | sc c =>
    cases c with
    | string s =>
      cases mx with
      | none =>
        cases lookT D.ty t with
        | none => exact Det.no
        | some i =>
          obtain ⟨k, sh, b, z⟩ := i
          cases k with
          | str => exact (det_bnd lo 0).bind fun l => (det_bnd hi s.size).bind fun h => Det.and (Det.and (Det.pure _))
          | _ => exact Det.no
      | some a => exact Det.no
    | _ => exact Det.no
  | sl s xs mk =>
    refine det_elemSh fun e sh b => det_ifn ((det_bnd lo 0).bind fun l => (det_bnd hi xs.length).bind fun h => Det.and (Det.and ?_))
    cases mx with
    | none =>
      cases hi with
      | none => cases mk <;> exact Det.pure _
      | some a => cases mk <;> first | exact Det.pure _ | (cases xs <;> exact Det.pure _)
    | some a =>
      cases hi with
      | none => exact Det.no
      | some a2 => exact (det_bnd (some a) 0).bind fun c => Det.and (Det.pure _)
  | pt id p =>
    cases mx with
    | none =>
      refine det_boxK fun c fl => ?_
      cases shAt c.shape p with
      | none => exact Det.no
      | some s2 =>
        cases s2 with
        | ar n s => exact det_elemAr fun n0 sh => det_ifn ((det_bnd lo 0).bind fun l => (det_bnd hi n).bind fun h => Det.and (Det.and (Det.pure _)))
        | _ => exact Det.no
    | some a => exact Det.no
  | rp v =>
    cases v with
    | ar n s xs =>
      cases mx with
      | none => exact det_elemAr fun n0 sh => det_ifn ((det_bnd lo 0).bind fun l => (det_bnd hi n).bind fun h => Det.and (Det.and (Det.pure _)))
      | some a => exact Det.no
    | _ => exact Det.no
  | bs id p s off len cap =>
    cases mx with
    | none => exact det_elemSh fun e sh b => det_ifn ((det_bnd lo 0).bind fun l => (det_bnd hi len).bind fun h => Det.and (Det.and (Det.pure _)))
    | some a => 
      cases hi with
      | none => exact Det.no
      | some a2 => exact det_elemSh fun e sh b => det_ifn ((det_bnd lo 0).bind fun l => (det_bnd (some a2) 0).bind fun h => (det_bnd (some a) 0).bind fun c => Det.and (Det.and (Det.and (Det.pure _))))
  | _ => exact Det.no

theorem det_isConv (D : Tabs) (src dst : Nat) (x : AV) : Det (isConv D src dst x) := by
  intro K h
  unfold isConv at h
  split at h
  · exact h.elim
  · split at h
    · split at h
      · exact ⟨_, h, fun K' h' => by unfold isConv; simp only [*]⟩
      · exact h.elim
    · split at h
      · exact ⟨_, h, fun K' h' => by unfold isConv; simp only [*]⟩
      · split at h
        · split at h
          · obtain ⟨bs, h1, h2⟩ := h
            exact ⟨_, h2, fun K' h' => by unfold isConv; simp only [*]; exact ⟨bs, rfl, h'⟩⟩
          · exact h.elim
        · exact h.elim
      · exact h.elim
    · split at h
      · split at h
        · exact ⟨_, h.2, fun K' h' => by unfold isConv; simp only [*]; exact ⟨trivial, trivial⟩⟩
        · exact h.elim
      · exact h.elim
    · exact h.elim

/-- The outcome is this one. -/
def DetAt {α : Type} (x : α) (f : (α → Prop) → Prop) : Prop := ∀ K, f K → K x ∧ ∀ K', K' x → f K'
theorem Det.at {α : Type} {x : α} {f : (α → Prop) → Prop} (hd : Det f) (hof : ∀ K, f K → K x) : DetAt x f := by
  intro K h
  obtain ⟨y, h1, h2⟩ := hd K h
  have e : x = y := hof _ (h2 (fun z => z = y) rfl)
  subst e
  exact ⟨h1, h2⟩
theorem at_litK (e : Nat) : DetAt e (litK e) := (det_litK e).at fun _ h => litK_of h
theorem at_litsK (l : List Nat) : DetAt l (litsK l) := (det_litsK l).at fun K h => litsK_of l K h
theorem at_forceB (l : List (AV × Bool)) : DetAt l (forceB l) := (det_forceB l).at fun K h => forceB_of l K h
theorem at_dmK (v : AV) : DetAt v.dm (dmK v) := (det_dmK v).at fun K h => dmK_of v K h
theorem at_renK (f g : Nat → Nat) (v : AV) : DetAt (v.ren f g) (renK f g v) := (det_renK f g v).at fun K h => renK_of v K h
theorem at_rensK (f g : Nat → Nat) (xs : List AV) : DetAt (AV.rens f g xs) (rensK f g xs) := (det_rensK f g xs).at fun K h => rensK_of xs K h

/-- A slot's value and a memory: told alike whatever the other slots say. -/
def DetP (Φ : Mem → Prop) (nt : Nat) (d : Option Nat) (f : List (Nat × AV) → (AS → Prop) → Prop) : Prop :=
  ∀ tm K, f tm K → ∃ v m1, Φ m1 ∧ AS.put ⟨nt, tm, m1⟩ d v K ∧ ∀ tm' K', AS.put ⟨nt, tm', m1⟩ d v K' → f tm' K'
section
variable {Φ : Mem → Prop} {nt : Nat} {d : Option Nat}
theorem DetP.no : DetP Φ nt d fun _ _ => False := fun _ _ h => h.elim
theorem DetP.put (v : AV) (m : Mem) (hm : Φ m) : DetP Φ nt d fun tm K => AS.put ⟨nt, tm, m⟩ d v K := fun _ _ h => ⟨v, m, hm, h, fun _ _ h' => h'⟩
theorem DetP.bind {α : Type} {g : (α → Prop) → Prop} {f : α → List (Nat × AV) → (AS → Prop) → Prop} (hg : Det g) (hf : ∀ x, DetP Φ nt d (f x)) : DetP Φ nt d fun tm K => g fun x => f x tm K := by
  intro tm K h
  obtain ⟨x, h1, h2⟩ := hg _ h
  obtain ⟨v, m1, hm, h3, h4⟩ := hf x tm K h1
  exact ⟨v, m1, hm, h3, fun tm' K' h' => h2 _ (h4 tm' K' h')⟩
theorem DetP.at {α : Type} {g : (α → Prop) → Prop} {x : α} {f : α → List (Nat × AV) → (AS → Prop) → Prop} (hg : DetAt x g) (hf : DetP Φ nt d (f x)) : DetP Φ nt d fun tm K => g fun x => f x tm K := by
  intro tm K h
  obtain ⟨h1, h2⟩ := hg _ h
  obtain ⟨v, m1, hm, h3, h4⟩ := hf tm K h1
  exact ⟨v, m1, hm, h3, fun tm' K' h' => h2 _ (h4 tm' K' h')⟩
theorem DetP.and {p : Prop} {f : List (Nat × AV) → (AS → Prop) → Prop} (hf : DetP Φ nt d f) : DetP Φ nt d fun tm K => p ∧ f tm K := by
  intro tm K h
  obtain ⟨v, m1, hm, h3, h4⟩ := hf tm K h.2
  exact ⟨v, m1, hm, h3, fun tm' K' h' => ⟨h.1, h4 tm' K' h'⟩⟩
theorem DetP.ex {β : Type} {f : β → List (Nat × AV) → (AS → Prop) → Prop} (hf : ∀ x, DetP Φ nt d (f x)) : DetP Φ nt d fun tm K => ∃ x, f x tm K := by
  intro tm K ⟨x, h⟩
  obtain ⟨v, m1, hm, h3, h4⟩ := hf x tm K h
  exact ⟨v, m1, hm, h3, fun tm' K' h' => ⟨x, h4 tm' K' h'⟩⟩
theorem DetP.ifT {b : Bool} {f : List (Nat × AV) → (AS → Prop) → Prop} (h : DetP Φ nt d f) : DetP Φ nt d fun tm K => match (generalizing := false) b with | true => f tm K | false => False := by
  cases b
  · exact DetP.no
  · exact h
theorem DetP.ifF {b : Bool} {f : List (Nat × AV) → (AS → Prop) → Prop} (h : DetP Φ nt d f) : DetP Φ nt d fun tm K => match (generalizing := false) b with | false => False | true => f tm K := by
  cases b
  · exact DetP.no
  · exact h
theorem DetP.box {bx : List (AV × Bool)} {id : Nat} {f : AV → Bool → List (Nat × AV) → (AS → Prop) → Prop} (h : ∀ c b, DetP Φ nt d (f c b)) : DetP Φ nt d fun tm K => boxK bx id fun c b => f c b tm K := by
  unfold boxK
  cases bx[id]? with
  | none => exact DetP.no
  | some x => exact h x.1 x.2
theorem DetP.elem {D : Tabs} {t : Nat} {f : Nat → Shape → Nat → List (Nat × AV) → (AS → Prop) → Prop} (h : ∀ e s b, DetP Φ nt d (f e s b)) : DetP Φ nt d fun tm K => elemSh D t fun e s b => f e s b tm K := by
  unfold elemSh
  cases lookT D.ty t with
  | none => exact DetP.no
  | some i =>
    obtain ⟨k, sh, b, z⟩ := i
    cases k with
    | slice e =>
      cases h2 : lookT D.ty e with
      | none => simpa only [h2] using DetP.no
      | some j => obtain ⟨k2, sh2, b2, z2⟩ := j; simpa only [h2] using h e sh2 b2
    | _ => exact DetP.no
theorem DetP.read {bx : List (AV × Bool)} {v : AV} {f : Shape → List AV → List (Nat × AV) → (AS → Prop) → Prop} (h : ∀ s xs, DetP Φ nt d (f s xs)) : DetP Φ nt d fun tm K => readS bx v fun s xs => f s xs tm K := by
  have := det_readS (bx := bx) (v := v) (g := fun s xs (K : Shape × List AV → Prop) => K (s, xs)) fun s xs => Det.pure (s, xs)
  exact DetP.bind (f := fun p => f p.1 p.2) this fun p => h p.1 p.2

theorem detP_appFits (bx : List (AV × Bool)) (lv : List Nat) (nx : Nat) (sh : Shape) (xs ys : List AV) (m : Mark) (hΦ : ∀ lv nx, Φ ⟨bx, lv, nx⟩) : DetP Φ nt d fun tm K => appFits nt tm bx lv nx d sh xs ys m K := by
  have go : ∀ lv, DetP Φ nt d fun tm K => appGo nt tm bx lv nx d sh xs ys K := fun lv => DetP.and (DetP.bind (det_litK (nx + 1)) fun nx' => DetP.put _ _ (hΦ _ _))
  cases m with
  | ro => exact DetP.no
  | ex => exact go lv
  | own r => exact DetP.ifT (go (rem lv r))
theorem DetP.src {D : Tabs} {bx : List (AV × Bool)} {t2 e : Nat} {sh : Shape} {x : AV} {f : List AV → List (Nat × AV) → (AS → Prop) → Prop} (h : ∀ ys, DetP Φ nt d (f ys)) : DetP Φ nt d fun tm K => srcK D bx t2 e sh x fun ys => f ys tm K := by
  unfold srcK
  cases lookT D.ty t2 with
  | none => exact DetP.no
  | some i =>
    obtain ⟨k, s2, b2, z⟩ := i
    cases k with
    | str =>
      cases x with
      | sc c =>
        cases c with
        | string b => exact DetP.ifT (h _)
        | _ => exact DetP.no
      | _ => exact DetP.no
    | slice e2 => exact DetP.read fun s3 ys => DetP.ifT (h _)
    | int k =>
      cases x with
      | sc c =>
        cases c with
        | int k2 n =>
          cases h' : lookT D.ty e with
          | none => exact DetP.no
          | some j => obtain ⟨k3, s3, b3, z3⟩ := j; exact DetP.and (DetP.and (h _))
        | _ => exact DetP.no
      | _ => exact DetP.no
    | _ => exact DetP.no
theorem det_arK (c : AV) (p : List Nat) (g : List AV → List AV) : Det (arK c p g) := by
  intro K h
  obtain ⟨x, h1, h2⟩ : ∃ x, K x ∧ ∀ K', K' x → arK c p g K' := by
    induction p generalizing c K with
    | nil =>
      cases c with
      | ar n s xs => exact ⟨_, h, fun K' h' => h'⟩
      | _ => exact False.elim (by simp [arK] at h)
    | cons i p ih =>
      cases c with
      | st xs =>
        simp only [arK] at h ⊢
        cases hx : xs[i]? with
        | none => simp [hx] at h
        | some x =>
          simp only [hx] at h ⊢
          obtain ⟨y, h1, h2⟩ := ih x _ h
          exact ⟨_, h1, fun K' h' => h2 _ h'⟩
      | _ => exact False.elim (by simp [arK] at h)
  exact ⟨x, h1, h2⟩
theorem detP_lay (bx : List (AV × Bool)) (lv : List Nat) (nx id : Nat) (p : List Nat) (at_ : Nat) (ys : List AV) (v : AV) (hΦ : ∀ c, Φ ⟨bx.set id (c, false), lv, nx⟩) : DetP Φ nt d fun tm K => layK bx id p at_ ys fun bx' => AS.put ⟨nt, tm, ⟨bx', lv, nx⟩⟩ d v K := by
  refine DetP.box fun c f => ?_
  cases f with
  | true => exact DetP.no
  | false =>
    dsimp only
    exact DetP.bind (det_arK c p _) fun c' => DetP.at (at_forceB _) (DetP.put _ _ (hΦ c'))
theorem detP_wAppend (D : Tabs) (bx : List (AV × Bool)) (lv : List Nat) (nx t t2 : Nat) (s x : AV) (hΦ : ∀ lv nx, Φ ⟨bx, lv, nx⟩) (hΦ2 : ∀ id ∈ s.ids, ∀ c, Φ ⟨bx.set id (c, false), lv, nx⟩) : DetP Φ nt d fun tm K => wAppend D ⟨nt, tm, ⟨bx, lv, nx⟩⟩ d t t2 s x K := by
  refine DetP.elem fun e sh by_ => DetP.ifF ?_
  cases s with
  | sl sh' xs m => exact DetP.ifF (DetP.src fun ys => detP_appFits _ _ _ _ _ _ _ hΦ)
  | bs id p sh' off len cap => exact DetP.ifF (DetP.src fun ys => DetP.and (detP_lay _ _ _ _ _ _ _ _ (hΦ2 id (by simp [AV.ids]))))
  | _ => exact DetP.no
theorem detP_wClear (D : Tabs) (bx : List (AV × Bool)) (lv : List Nat) (nx t : Nat) (s : AV) (hΦ2 : ∀ id ∈ s.ids, ∀ c, Φ ⟨bx.set id (c, false), lv, nx⟩) : DetP Φ nt d fun tm K => wClear D ⟨nt, tm, ⟨bx, lv, nx⟩⟩ d t s K := by
  cases d with
  | some _ => exact DetP.no
  | none =>
    refine DetP.elem fun e sh by_ => ?_
    cases s with
    | bs id p sh' off len cap =>
      refine DetP.ifF ?_
      cases h' : lookT D.ty e with
      | none => exact DetP.no
      | some j => obtain ⟨k3, s3, b3, z3⟩ := j; exact detP_lay (d := none) _ _ _ _ _ _ _ (.tup []) (hΦ2 id (by simp [AV.ids]))
    | _ => exact DetP.no
theorem detP_cpGo (bx : List (AV × Bool)) (lv : List Nat) (nx id : Nat) (p : List Nat) (off len : Nat) (ys : List AV) (hΦ : ∀ c, Φ ⟨bx.set id (c, false), lv, nx⟩) : DetP Φ nt d fun tm K => cpGo nt tm bx lv nx d id p off len ys K := by
  refine DetP.box fun c f => ?_
  cases f with
  | true => exact DetP.no
  | false =>
    dsimp only
    refine DetP.bind (det_rdK p c) fun a => ?_
    cases a with
    | ar n s' xs => exact DetP.bind (det_wrK p c _) fun c' => DetP.at (at_forceB _) (DetP.put _ _ (hΦ c'))
    | _ => exact DetP.no
theorem detP_wCopy (D : Tabs) (bx : List (AV × Bool)) (lv : List Nat) (nx t : Nat) (s x : AV) (hΦ : ∀ id ∈ s.ids, ∀ c, Φ ⟨bx.set id (c, false), lv, nx⟩) : DetP Φ nt d fun tm K => wCopy D ⟨nt, tm, ⟨bx, lv, nx⟩⟩ d t s x K := by
  cases s with
  | bs id p s off len cap =>
    have hΦ := hΦ id (by simp [AV.ids])
    refine DetP.elem fun e sh b => DetP.ifT ?_
    have other : DetP Φ nt d fun tm K => readS bx x fun s' ys => match (generalizing := false) Shape.eqb s' sh with | true => cpGo nt tm bx lv nx d id p off len ys K | false => False := DetP.read fun s' ys => DetP.ifT (detP_cpGo _ _ _ _ _ _ _ _ hΦ)
    cases x with
    | sc c =>
      cases c with
      | string b => exact DetP.ifT (detP_cpGo _ _ _ _ _ _ _ _ hΦ)
      | _ => exact other
    | _ => exact other
  | _ => exact DetP.no
theorem detP_wStore (bx : List (AV × Bool)) (lv : List Nat) (nx : Nat) (a v : AV) (hΦ : ∀ id ∈ a.ids, ∀ c, Φ ⟨bx.set id (c, false), lv, nx⟩) : DetP Φ nt none fun tm K => wStore nt tm bx lv nx a v K := by
  cases a with
  | pt id p =>
    refine DetP.box fun c f => ?_
    cases f with
    | true => exact DetP.no
    | false =>
      dsimp only
      exact DetP.bind (det_wrK p c v) fun c' => DetP.at (at_forceB _) (DetP.put v _ (hΦ id (by simp [AV.ids]) c'))
  | _ => exact DetP.no
end
end Go.WL
namespace Go.WL

/-- A call whose outcome is told. -/
def wCallD (F : CallT) (σ : AS) (d : Option Nat) (f : Nat) (args : List AV) (K : AS → Prop) : Prop :=
  match σ with
  | ⟨nt, tm, ⟨bx0, lv, nx⟩⟩ => freezeK bx0 args fun as bx => match AV.pures as with
    | true => ∃ r0 st0, F f as [] (fun r st => r = r0 ∧ st = st0) ∧ back0 nt tm bx lv nx d r0 st0 K
    | false => match contents bx (dedup [] (AV.idss as)) with
      | none => False
      | some c0 => litsK (more bx (dedup [] (dedup [] (AV.idss as) ++ AV.idss c0))) fun ids => match contents bx ids with
        | none => False
        | some cs => litsK (AV.rowss cs) fun rows => match allMemb lv rows && noDup rows && allMemb ids (AV.idss cs) && (AV.rowss as).isEmpty with
          | false => False
          | true =>
            rensK (fun i => posOf ids i 0) (fun k => posOf rows k 0) as fun as' =>
            rensK (fun i => posOf ids i 0) (fun k => posOf rows k 0) cs fun cs' =>
            ∃ r0 st0, F f as' cs' (fun r st => r = r0 ∧ st = st0) ∧ back1 nt tm bx lv nx d ids rows r0 st0 K
/-- Results that hang on nothing that changes. -/
def AV.pureT : AV → Bool
  | .tup xs => AV.pures xs
  | v => v.pure
theorem pureT_none {v : AV} (h : v.pureT = true) : v.ids = [] ∧ v.rows = [] := by
  cases v with
  | tup xs => exact pures_none xs h
  | _ => exact pure_none _ h
/-- A call whose values hang on no box. -/
def wCallQ (F : CallT) (σ : AS) (d : Option Nat) (f : Nat) (args : List AV) (K : AS → Prop) : Prop :=
  match σ with
  | ⟨nt, tm, m⟩ => dmsK args fun as => match AV.pures as with
    | true => ∃ r0, F f as [] (fun r st => r = r0 ∧ st = []) ∧ r0.pureT = true ∧ AS.put ⟨nt, tm, m⟩ d r0 K
    | false => False
/-- Is a call one of those? -/
def qcall (q : List Nat) : Operand → Bool
  | .func k => memb q (k + 3000000)
  | _ => false
def nilTestD (D : Tabs) (t : Nat) (sl : Bool) (x : AV) (op : BinOp) (K : Value → Prop) : Prop :=
  match lookT D.ty t with
  | some ⟨.ptr _, _, _, _⟩ => match sl with
    | true => False
    | false => match x with
      | .sc (.pointer none) => nilRes op true K
      | .pt _ _ => nilRes op false K
      | .rp _ => nilRes op false K
      | _ => False
  | some ⟨.slice _, _, _, _⟩ => match sl with
    | false => False
    | true => match x with
      | .sl _ xs _ => xs ≠ [] ∧ nilRes op false K
      | .bs _ _ _ _ _ _ => nilRes op false K
      | _ => False
  | _ => False
def wOpD (D : Tabs) (F : CallT) (o : Oper) (σ : AS) (K : AS → Prop) : Prop :=
  match σ with
  | ⟨nt, tm, ⟨bx, lv, nx⟩⟩ => match o with
    | ⟨d, op, ty, po, af, g⟩ => match op with
      | .binOp op t x y _ => match isNil y with
        | some sl => match evalO D tm t x with
          | some v => nilTestD D t sl v op fun b => AS.put ⟨nt, tm, ⟨bx, lv, nx⟩⟩ d (.sc b) K
          | none => False
        | none => match isNil x with
          | some sl => match evalO D tm t y with
            | some v => nilTestD D t sl v op fun b => AS.put ⟨nt, tm, ⟨bx, lv, nx⟩⟩ d (.sc b) K
            | none => False
          | none => match evalO D tm t x with
            | some v => match evalO D tm t y with
              | some u => wBin D op t v u fun b => AS.put ⟨nt, tm, ⟨bx, lv, nx⟩⟩ d (.sc b) K
              | none => False
            | none => False
      | .call ⟨cal, args, ats⟩ => match cal with
        | .value f => match evalO D tm 0 f with
          | some (.fn k caps) => match evalA D tm args.toList ats.toList with
            | some as => match allLf caps with
              | true => match qcall D.q f with
                | true => wCallQ F ⟨nt, tm, ⟨bx, lv, nx⟩⟩ d k (as ++ caps) K
                | false => wCallD F ⟨nt, tm, ⟨bx, lv, nx⟩⟩ d k (as ++ caps) K
              | false => False
            | none => False
          | _ => False
        | .builtin b => match evalA D tm args.toList ats.toList with
          | some as => wBuiltin D ⟨nt, tm, ⟨bx, lv, nx⟩⟩ d b as ats.toList K
          | none => False
        | _ => False
      | op => wOp D F ⟨d, op, ty, po, af, g⟩ ⟨nt, tm, ⟨bx, lv, nx⟩⟩ K

def opnds : Op → List Operand
  | .move x | .assign x | .box _ x | .load _ x | .nilCheck x | .unOp _ _ x | .convert _ _ x | .sliceToArrayPointer _ x | .fieldAddr _ x _ | .field _ x _ | .extract x _ => [x]
  | .pick c a b => [c, a, b]
  | .build _ ps | .buildSlice _ _ ps => ps.toList.map (·.2)
  | .store _ a v | .binOp _ _ a v _ | .makeSlice _ a v | .indexAddr _ a v | .index _ a v => [a, v]
  | .makeFunc _ _ caps => caps.toList
  | .slice _ x l h m => x :: (l.toList ++ (h.toList ++ m.toList))
  | .call ⟨.value f, args, _⟩ => f :: args.toList
  | .call ⟨.builtin _, args, _⟩ => args.toList
  | _ => []
def tmpsOf : List Operand → List Nat
  | [] => []
  | .tmp t :: l => t :: tmpsOf l
  | _ :: l => tmpsOf l

/-! ### Soundness -/
section
variable {D : Tabs} {P : Program}
theorem wCallD_wCall {σ : AS} {d : Option Nat} {f : Nat} {args : List AV} {K : AS → Prop} (h : wCallD (FnOK P D) σ d f args K) : wCall (FnOK P D) σ d f args K := by
  obtain ⟨nt, tm, bx, lv, nx⟩ := σ
  simp only [wCallD] at h
  simp only [wCall]
  have key : ∀ (args : List AV) (bx : List (AV × Bool)) (K K' : List AV → List (AV × Bool) → Prop), (∀ as bx, K as bx → K' as bx) → freezeK bx args K → freezeK bx args K' := by
    intro args
    induction args with
    | nil => intro bx K K' hk h; exact hk _ _ h
    | cons v vs ih =>
      intro bx K K' hk h
      have other : (dmK v fun u => freezeK bx vs fun us bx' => K (u :: us) bx') → (dmK v fun u => freezeK bx vs fun us bx' => K' (u :: us) bx') := by
        intro h
        obtain ⟨u, h1, h2⟩ := det_dmK v _ h
        exact h2 (fun u => freezeK bx vs fun us bx' => K' (u :: us) bx') (ih _ _ _ (fun us bx' => hk (u :: us) bx') h1)
      cases v with
      | bs id p s off len cap =>
        simp only [freezeK, boxK] at h ⊢
        cases hb : bx[id]? with
        | none => rw [hb] at h; exact h.elim
        | some x =>
          obtain ⟨c, f⟩ := x
          rw [hb] at h
          simp only at h ⊢
          cases hp : c.pure with
          | false => rw [hp] at h; exact h.elim
          | true =>
            rw [hp] at h
            simp only at h ⊢
            obtain ⟨a, h1, h2⟩ := det_rdK p c _ h
            refine h2 _ ?_
            cases a with
            | ar n s2 xs =>
              obtain ⟨bx', h3, h4⟩ := det_forceB _ _ h1
              exact h4 (fun bx' => freezeK bx' vs fun us bx'' => K' (.sl s ((xs.drop off).take len) .ro :: us) bx'') (ih _ _ _ (fun us bx'' => hk _ bx'') h3)
            | _ => exact h1.elim
      | _ => exact other h
  refine key _ _ _ _ (fun as bx' h => ?_) h
  cases hp : AV.pures as with
  | true =>
    rw [hp] at h
    obtain ⟨r0, st0, h1, h2⟩ := h
    exact h1.mono fun r st ⟨e1, e2⟩ => by subst e1 e2; exact h2
  | false =>
    rw [hp] at h
    simp only at h ⊢
    cases hc : contents bx' (dedup [] (AV.idss as)) with
    | none => rw [hc] at h; exact h.elim
    | some c0 =>
      rw [hc] at h
      simp only at h ⊢
      obtain ⟨ids, h1, h2⟩ := det_litsK _ _ h
      refine h2 _ ?_
      cases hc2 : contents bx' ids with
      | none => rw [hc2] at h1; exact h1.elim
      | some cs =>
        rw [hc2] at h1
        simp only at h1 ⊢
        obtain ⟨rows, h3, h4⟩ := det_litsK _ _ h1
        refine h4 _ ?_
        split at h3
        · exact h3.elim
        · rename_i hcond
          rw [hcond]
          simp only
          obtain ⟨as', h5, h6⟩ := det_rensK _ _ _ _ h3
          refine h6 _ ?_
          obtain ⟨cs', h7, h8⟩ := det_rensK _ _ _ _ h5
          refine h8 _ ?_
          obtain ⟨r0, st0, h9, h10⟩ := h7
          exact h9.mono fun r st ⟨e1, e2⟩ => by subst e1 e2; exact h10
mutual
theorem dmK_iff : ∀ (v : AV) (K : AV → Prop), dmK v K ↔ K v.dm
  | .st xs, K => by simp only [dmK, AV.dm]; exact dmsK_iff xs _
  | .tup xs, K => by simp only [dmK, AV.dm]; exact dmsK_iff xs _
  | .sl s xs m, K => by cases m <;> exact Iff.rfl
  | .pt id p, K => Iff.rfl
  | .bs id p s off len cap, K => Iff.rfl
  | .fn k caps, K => Iff.rfl
  | .sc v, K => Iff.rfl
  | .ar n s xs, K => Iff.rfl
  | .rp v, K => Iff.rfl
theorem dmsK_iff : ∀ (xs : List AV) (K : List AV → Prop), dmsK xs K ↔ K (AV.dms xs)
  | [], K => Iff.rfl
  | x :: xs, K => by
    simp only [dmsK, AV.dms]
    rw [dmK_iff x]
    exact dmsK_iff xs _
end
mutual
theorem renK_iff (f g : Nat → Nat) : ∀ (v : AV) (K : AV → Prop), renK f g v K ↔ K (v.ren f g)
  | .st xs, K => by simp only [renK, AV.ren]; exact rensK_iff f g xs _
  | .tup xs, K => by simp only [renK, AV.ren]; exact rensK_iff f g xs _
  | .sl s xs m, K => by
    cases m with
    | own r => exact litK_iff
    | ro => exact Iff.rfl
    | ex => exact Iff.rfl
  | .pt id p, K => litK_iff
  | .bs id p s off len cap, K => litK_iff
  | .fn k caps, K => by simp only [renK, AV.ren]; exact rensK_iff f g caps _
  | .sc v, K => Iff.rfl
  | .ar n s xs, K => Iff.rfl
  | .rp v, K => Iff.rfl
theorem rensK_iff (f g : Nat → Nat) : ∀ (xs : List AV) (K : List AV → Prop), rensK f g xs K ↔ K (AV.rens f g xs)
  | [], K => Iff.rfl
  | x :: xs, K => by
    simp only [rensK, AV.rens]
    rw [renK_iff f g x]
    exact rensK_iff f g xs _
end
theorem forceB_iff : ∀ (l : List (AV × Bool)) (K : List (AV × Bool) → Prop), forceB l K ↔ K l
  | [], K => Iff.rfl
  | (c, f) :: l, K => by
    simp only [forceB]
    exact forceB_iff l _
theorem freezeK_pure : ∀ (args : List AV) (bx : List (AV × Bool)) (K : List AV → List (AV × Bool) → Prop), AV.pures (AV.dms args) = true → K (AV.dms args) bx → freezeK bx args K
  | [], bx, K, _, h => h
  | v :: vs, bx, K, hp, h => by
    simp only [AV.dms, AV.pures, Bool.and_eq_true] at hp
    have other : (dmK v fun u => freezeK bx vs fun us bx' => K (u :: us) bx') := (dmK_iff v _).2 (freezeK_pure vs bx _ hp.2 h)
    cases v with
    | bs id p s off len cap => simp [AV.dm, AV.pure] at hp
    | _ => exact other
theorem wCallQ_wCall {σ : AS} {d : Option Nat} {f : Nat} {args : List AV} {K : AS → Prop} (h : wCallQ (FnOK P D) σ d f args K) : wCall (FnOK P D) σ d f args K := by
  obtain ⟨nt, tm, bx, lv, nx⟩ := σ
  simp only [wCallQ] at h
  have h := (dmsK_iff _ _).1 h
  simp only [wCall]
  cases hp : AV.pures (AV.dms args) with
  | false => rw [hp] at h; exact h.elim
  | true =>
    rw [hp] at h
    obtain ⟨r0, h1, h2, h3⟩ := h
    refine freezeK_pure _ _ _ hp ?_
    rw [hp]
    refine h1.mono fun r st ⟨e1, e2⟩ => ?_
    subst e1 e2
    obtain ⟨p1, p2⟩ := pureT_none h2
    unfold back0
    simp only [AV.rowss, AV.idss, p1, p2, List.append_nil, noDup, allLt, Bool.and_self]
    rw [renK_iff, ren_none _ _ _ p1 p2]
    simp only [rensK, List.map_nil, litsK]
    rw [litK_iff, forceB_iff]
    simpa [maxL] using h3
theorem nilTestD_nil {t : Nat} {sl : Bool} {x : AV} {op : BinOp} {K : Value → Prop} (h : nilTestD D t sl x op K) : nilTest D t sl x op K := by
  unfold nilTestD at h
  split at h
  · rename_i ht
    simp only [nilTest, ht]
    exact h
  · rename_i ht
    simp only [nilTest, ht]
    split at h
    · exact h.elim
    · split at h
      · intro b hb
        rw [hb h.1]
        exact h.2
      · exact h
      · exact h.elim
  · exact h.elim
theorem wOpD_wOp {o : Oper} {σ : AS} {K : AS → Prop} (h : wOpD D (FnOK P D) o σ K) : wOp D (FnOK P D) o σ K := by
  obtain ⟨nt, tm, bx, lv, nx⟩ := σ
  obtain ⟨d, op, ty, po, af, g⟩ := o
  cases op with
  | binOp op t x y e =>
    simp only [wOpD] at h
    simp only [wOp]
    split at h
    · rename_i sl hs
      split at h
      · rename_i v hv
        simp only [hs, hv]
        exact nilTestD_nil h
      · exact h.elim
    · rename_i hs
      split at h
      · rename_i sl hs2
        split at h
        · rename_i v hv
          simp only [hs, hs2, hv]
          exact nilTestD_nil h
        · exact h.elim
      · rename_i hs2
        split at h
        · rename_i v hv
          split at h
          · rename_i u hu
            simp only [hs, hs2, hv, hu]
            exact h
          · exact h.elim
        · exact h.elim
  | call c =>
    obtain ⟨cal, args, ats⟩ := c
    simp only [wOpD] at h
    simp only [wOp]
    cases cal with
    | value f =>
      simp only at h ⊢
      split at h
      · rename_i k caps hf
        split at h
        · rename_i as has
          split at h
          · rename_i hl
            simp only [hf, has, hl]
            split at h
            · exact wCallQ_wCall h
            · exact wCallD_wCall h
          · exact h.elim
        · exact h.elim
      · exact h.elim
    | builtin b => exact h
    | invoke r m => exact h.elim
  | _ => exact h
end
end Go.WL
namespace Go.WL

def Agree (tm tm' : List (Nat × AV)) (l : List Operand) : Prop := ∀ x ∈ tmpsOf l, lookV tm' x = lookV tm x
theorem Agree.head {tm tm' : List (Nat × AV)} {o : Operand} {l : List Operand} (h : Agree tm tm' (o :: l)) : Agree tm tm' [o] := by
  cases o with
  | tmp t => intro x hx; exact h x (by simp [tmpsOf] at hx ⊢; exact .inl hx)
  | _ => intro x hx; simp [tmpsOf] at hx
theorem Agree.tail {tm tm' : List (Nat × AV)} {o : Operand} {l : List Operand} (h : Agree tm tm' (o :: l)) : Agree tm tm' l := by
  intro x hx
  cases o with
  | tmp t => exact h x (by simp [tmpsOf]; exact .inr hx)
  | _ => exact h x hx
theorem evalO_ag {D : Tabs} {tm tm' : List (Nat × AV)} {o : Operand} (h : Agree tm tm' [o]) (t : Nat) : evalO D tm' t o = evalO D tm t o := by
  cases o with
  | tmp x => exact h x (by simp [tmpsOf])
  | _ => rfl
theorem evalN_ag {D : Tabs} {tm tm' : List (Nat × AV)} {o : Operand} (h : Agree tm tm' [o]) (t : Nat) : evalN D tm' t o = evalN D tm t o := by
  unfold evalN
  rw [evalO_ag h]
theorem evalA_ag {D : Tabs} {tm tm' : List (Nat × AV)} : ∀ (l : List Operand) (ts : List Nat), Agree tm tm' l → evalA D tm' l ts = evalA D tm l ts
  | [], ts, _ => rfl
  | o :: l, ts, h => by
    cases ts with
    | nil => simp only [evalA, evalN_ag h.head, evalA_ag l [] h.tail]
    | cons t ts => simp only [evalA, evalN_ag h.head, evalA_ag l ts h.tail]
theorem evalP_ag {D : Tabs} {tm tm' : List (Nat × AV)} {ty : Nat → Nat} : ∀ (l : List (Nat × Operand)) (K : List (Nat × AV) → Prop), Agree tm tm' (l.map (·.2)) → (evalP D tm' ty l K ↔ evalP D tm ty l K)
  | [], K, _ => Iff.rfl
  | (i, o) :: l, K, h => by
    simp only [evalP, evalN_ag h.head]
    cases evalN D tm (ty i) o with
    | none => exact Iff.rfl
    | some v =>
      simp only
      have : (fun u => evalP D tm' ty l fun vs => K ((i, u) :: vs)) = fun u => evalP D tm ty l fun vs => K ((i, u) :: vs) := by
        funext u
        exact propext (evalP_ag l _ h.tail)
      rw [this]
theorem wBuild_ag {D : Tabs} {tm tm' : List (Nat × AV)} {t : Nat} {ps : List (Nat × Operand)} {K : AV → Prop} (h : Agree tm tm' (ps.map (·.2))) : wBuild D tm' t ps K ↔ wBuild D tm t ps K := by
  unfold wBuild
  split
  · exact evalP_ag ps _ h
  · exact evalP_ag ps _ h
  · exact Iff.rfl
theorem optE_ag {D : Tabs} {tm tm' : List (Nat × AV)} {o : Option Operand} {K : Option AV → Prop} (h : Agree tm tm' o.toList) : optE D tm' o K ↔ optE D tm o K := by
  cases o with
  | none => exact Iff.rfl
  | some o => simp only [optE, evalO_ag (show Agree tm tm' [o] from h)]
theorem elemSh_congr {D : Tabs} {t : Nat} {g g' : Nat → Shape → Nat → Prop} (h : ∀ e s b, g e s b ↔ g' e s b) : elemSh D t g ↔ elemSh D t g' := by
  have : g = g' := by
    funext e s b
    exact propext (h e s b)
  rw [this]
theorem Agree.left {tm tm' : List (Nat × AV)} : ∀ {l m : List Operand}, Agree tm tm' (l ++ m) → Agree tm tm' l
  | [], m, _ => fun x hx => by simp [tmpsOf] at hx
  | o :: l, m, h => by
    have h1 := h.head
    have h2 := Agree.left (l := l) h.tail
    intro x hx
    cases o with
    | tmp t =>
      simp only [tmpsOf, List.mem_cons] at hx
      rcases hx with rfl | hx
      · exact h1 x (by simp [tmpsOf])
      · exact h2 x hx
    | _ => exact h2 x hx
theorem Agree.right {tm tm' : List (Nat × AV)} : ∀ {l m : List Operand}, Agree tm tm' (l ++ m) → Agree tm tm' m
  | [], m, h => h
  | o :: l, m, h => Agree.right (l := l) h.tail

/-- Boxes' contents, whether closed or not. -/
def Same (bx bx' : List (AV × Bool)) (id : Nat) : Prop := (bx'[id]?).map (·.1) = (bx[id]?).map (·.1)
theorem boxK_same {bx bx' : List (AV × Bool)} {id : Nat} {g : AV → Prop} (h : Same bx bx' id) : boxK bx' id (fun c _ => g c) ↔ boxK bx id (fun c _ => g c) := by
  unfold Same at h
  unfold boxK
  cases h1 : bx'[id]? <;> cases h2 : bx[id]? <;> simp_all
mutual
theorem ids_dm : ∀ (v : AV) (i : Nat), i ∈ v.dm.ids → i ∈ v.ids
  | .st xs, i, h => by simp only [AV.dm, AV.ids] at h ⊢; exact idss_dms xs i h
  | .tup xs, i, h => by simp only [AV.dm, AV.ids] at h ⊢; exact idss_dms xs i h
  | .sl s xs m, i, h => by cases m <;> exact h
  | .pt id p, i, h => h
  | .bs id p s off len cap, i, h => h
  | .fn k caps, i, h => h
  | .sc v, i, h => h
  | .ar n s xs, i, h => h
  | .rp v, i, h => h
theorem idss_dms : ∀ (xs : List AV) (i : Nat), i ∈ AV.idss (AV.dms xs) → i ∈ AV.idss xs
  | [], i, h => h
  | x :: xs, i, h => by
    simp only [AV.dms, AV.idss, List.mem_append] at h ⊢
    exact h.imp (ids_dm x i) (idss_dms xs i)
end
theorem freezeK_at : ∀ (args : List AV) (bx : List (AV × Bool)) (K : List AV → List (AV × Bool) → Prop), freezeK bx args K → ∃ as bx', K as bx' ∧ (∀ K' : List AV → List (AV × Bool) → Prop, K' as bx' → freezeK bx args K') ∧ bx'.length = bx.length ∧ (∀ i, Same bx bx' i) ∧ ∀ i ∈ AV.idss as, i ∈ AV.idss args
  | [], bx, K, h => ⟨[], bx, h, fun K' h' => h', rfl, fun i => rfl, fun i hi => hi⟩
  | v :: vs, bx, K, h => by
    have other : (∀ K, freezeK bx (v :: vs) K = dmK v fun u => freezeK bx vs fun us bx' => K (u :: us) bx') → ∃ as bx', K as bx' ∧ (∀ K' : List AV → List (AV × Bool) → Prop, K' as bx' → freezeK bx (v :: vs) K') ∧ bx'.length = bx.length ∧ (∀ i, Same bx bx' i) ∧ ∀ i ∈ AV.idss as, i ∈ AV.idss (v :: vs) := by
      intro he
      rw [he] at h
      obtain ⟨h1, h2⟩ := at_dmK v _ h
      obtain ⟨as, bx', k1, k2, k3, k4, k5⟩ := freezeK_at vs bx _ h1
      refine ⟨v.dm :: as, bx', k1, fun K' h' => ?_, k3, k4, fun i hi => ?_⟩
      · rw [he]; exact h2 (fun u => freezeK bx vs fun us bx' => K' (u :: us) bx') (k2 (fun us bx' => K' (v.dm :: us) bx') h')
      · simp only [AV.idss, List.mem_append] at hi ⊢
        rcases hi with hi | hi
        · exact .inl (ids_dm v i hi)
        · exact .inr (k5 i hi)
    cases v with
    | bs id p s off len cap =>
      clear other
      simp only [freezeK, boxK] at h
      cases hb : bx[id]? with
      | none => rw [hb] at h; exact h.elim
      | some x =>
        obtain ⟨c, f⟩ := x
        rw [hb] at h
        simp only at h
        cases hp : c.pure with
        | false => rw [hp] at h; exact h.elim
        | true =>
          rw [hp] at h
          simp only at h
          obtain ⟨a, h1, h2⟩ := det_rdK p c _ h
          cases a with
          | ar n s2 xs =>
            obtain ⟨h3, h4⟩ := at_forceB _ _ h1
            obtain ⟨as, bx', k1, k2, k3, k4, k5⟩ := freezeK_at vs _ _ h3
            refine ⟨.sl s ((xs.drop off).take len) .ro :: as, bx', k1, fun K' h' => ?_, by rw [k3]; simp, fun i => ?_, fun i hi => ?_⟩
            · simp only [freezeK, boxK, hb, hp]
              refine h2 (fun a => match a with
                | .ar _ _ xs => forceB (bx.set id (c, true)) fun bx' => freezeK bx' vs fun us bx'' => K' (.sl s ((xs.drop off).take len) .ro :: us) bx''
                | _ => False) ?_
              exact h4 (fun bx' => freezeK bx' vs fun us bx'' => K' (.sl s ((xs.drop off).take len) .ro :: us) bx'') (k2 (fun us bx'' => K' (.sl s ((xs.drop off).take len) .ro :: us) bx'') h')
            · refine (k4 i).trans ?_
              by_cases e : id = i
              · subst e
                rw [List.getElem?_set_self (List.getElem?_eq_some_iff.1 hb).1, hb]
                rfl
              · rw [List.getElem?_set_ne e]
            · simp only [AV.idss, AV.ids, List.nil_append, List.mem_append] at hi ⊢
              exact .inr (k5 i hi)
          | _ => exact h1.elim
    | _ => exact other fun K => rfl

def reach1 (bx : List (AV × Bool)) (l : List Nat) : List Nat := l ++ l.flatMap fun i => match bx[i]? with | some (c, _) => c.ids | none => []
def reach (bx : List (AV × Bool)) (l : List Nat) : List Nat := reach1 bx (reach1 bx l)
/-- Which boxes an effect may turn. -/
def touch (D : Tabs) (tm : List (Nat × AV)) (bx : List (AV × Bool)) : Op → List Nat
  | .store _ a _ => match evalO D tm 0 a with
    | some v => v.ids
    | none => []
  | .call ⟨.value f, args, ats⟩ => match evalO D tm 0 f with
    | some (.fn _ caps) => match evalA D tm args.toList ats.toList with
      | some as => reach bx (AV.idss (as ++ caps))
      | none => []
    | _ => []
  | .call ⟨.builtin _, args, ats⟩ => match evalA D tm args.toList ats.toList with
    | some as => AV.idss as
    | none => []
  | _ => []
def rdV : AV → List Nat
  | .pt id _ => [id]
  | .bs id _ _ _ _ _ => [id]
  | _ => []
/-- Which boxes a reading looks at. -/
def rdIds (D : Tabs) (tm : List (Nat × AV)) : Op → List Nat
  | .load _ a | .fieldAddr _ a _ | .indexAddr _ a _ | .slice _ a _ _ _ => match evalO D tm 0 a with
    | some v => rdV v
    | none => []
  | _ => []
def quiet (q : List Nat) : Op → Bool
  | .move _ | .assign _ | .pick .. | .binOp .. | .unOp .. | .field .. | .index .. | .extract .. | .nilCheck _ | .build .. | .buildSlice .. | .convert .. | .makeFunc .. | .sliceToArrayPointer .. => true
  | .load .. | .fieldAddr .. | .indexAddr .. | .slice .. => true
  | .call ⟨.value f, _, _⟩ => qcall q f
  | .call ⟨.builtin .len, _, _⟩ | .call ⟨.builtin .min, _, _⟩ | .call ⟨.builtin .max, _, _⟩ | .call ⟨.builtin .cap, _, _⟩ => true
  | _ => false
/-- An effect leaves the other boxes as they are. -/
def Keeps (bx : List (AV × Bool)) (l : List Nat) (m1 : Mem) : Prop := bx.length ≤ m1.bx.length ∧ ∀ id, id < bx.length → id ∉ l → Same bx m1.bx id

section
variable {D : Tabs} {nt : Nat} {d : Option Nat} {F : CallT}
theorem det_nilTestD (t : Nat) (sl : Bool) (x : AV) (op : BinOp) : Det (nilTestD D t sl x op) := by
  have nr : ∀ op b, Det (nilRes op b) := by
    intro op b
    cases op <;> first | exact Det.pure _ | exact Det.no
  intro K h
  unfold nilTestD at h
  split at h
  · rename_i ht
    split at h
    · exact h.elim
    · split at h
      · obtain ⟨v, h1, h2⟩ := nr _ _ K h
        exact ⟨v, h1, fun K' h' => by simp only [nilTestD, ht]; exact h2 K' h'⟩
      · obtain ⟨v, h1, h2⟩ := nr _ _ K h
        exact ⟨v, h1, fun K' h' => by simp only [nilTestD, ht]; exact h2 K' h'⟩
      · obtain ⟨v, h1, h2⟩ := nr _ _ K h
        exact ⟨v, h1, fun K' h' => by simp only [nilTestD, ht]; exact h2 K' h'⟩
      · exact h.elim
  · rename_i ht
    split at h
    · exact h.elim
    · split at h
      · obtain ⟨v, h1, h2⟩ := nr _ _ K h.2
        exact ⟨v, h1, fun K' h' => by simp only [nilTestD, ht]; exact ⟨h.1, h2 K' h'⟩⟩
      · obtain ⟨v, h1, h2⟩ := nr _ _ K h
        exact ⟨v, h1, fun K' h' => by simp only [nilTestD, ht]; exact h2 K' h'⟩
      · exact h.elim
  · exact h.elim

end
end Go.WL
namespace Go.WL
section
variable {D : Tabs} {bx bx' : List (AV × Bool)}
theorem wLoad_same {t : Nat} {a : AV} {K : AV → Prop} (h : ∀ id ∈ rdV a, Same bx bx' id) : wLoad D bx' t a K ↔ wLoad D bx t a K := by
  unfold wLoad
  cases lookT D.ty t with
  | none => exact Iff.rfl
  | some i =>
    cases a with
    | pt id p => exact boxK_same (h id (by simp [rdV]))
    | _ => exact Iff.rfl
theorem wFieldAddr_same {t f : Nat} {a : AV} {K : AV → Prop} (h : ∀ id ∈ rdV a, Same bx bx' id) : wFieldAddr D bx' t a f K ↔ wFieldAddr D bx t a f K := by
  unfold wFieldAddr
  cases lookT D.ty t with
  | none => exact Iff.rfl
  | some i =>
    obtain ⟨k, sh, b, z⟩ := i
    cases k with
    | strct fs =>
      cases a with
      | pt id p => exact boxK_same (h id (by simp [rdV]))
      | rp v => cases v <;> exact Iff.rfl
      | _ => exact Iff.rfl
    | _ => exact Iff.rfl
theorem wIndexAddr_same {t : Nat} {a ix : AV} {K : AV → Prop} (h : ∀ id ∈ rdV a, Same bx bx' id) : wIndexAddr D bx' t a ix K ↔ wIndexAddr D bx t a ix K := by
  unfold wIndexAddr
  cases ix with
  | sc v =>
    cases v with
    | int k i =>
      cases a with
      | pt id p => exact boxK_same (h id (by simp [rdV]))
      | rp v => cases v <;> exact Iff.rfl
      | _ => exact Iff.rfl
    | _ => exact Iff.rfl
  | _ => exact Iff.rfl
theorem wSlice_same {t : Nat} {a : AV} {lo hi mx : Option AV} {K : AV → Prop} (h : ∀ id ∈ rdV a, Same bx bx' id) : wSlice D bx' t a lo hi mx K ↔ wSlice D bx t a lo hi mx K := by
  unfold wSlice
  cases a with
  | pt id p =>
    cases mx with
    | none => exact boxK_same (h id (by simp [rdV]))
    | some m => exact Iff.rfl
  | rp v => cases v <;> exact Iff.rfl
  | sc c => cases c <;> exact Iff.rfl
  | _ => exact Iff.rfl
end
section
variable {D : Tabs} {nt : Nat} {F : CallT}
theorem loc_quiet {o : Oper} {m : Mem} {tm : List (Nat × AV)} {K : AS → Prop} (hq : quiet D.q o.op = true) (h : wOpD D F o ⟨nt, tm, m⟩ K) :
    ∃ v, AS.put ⟨nt, tm, m⟩ o.dst v K ∧ ∀ tm' bx' lv' nx', Agree tm tm' (opnds o.op) → (∀ id ∈ rdIds D tm o.op, Same m.bx bx' id) → ∀ K', AS.put ⟨nt, tm', ⟨bx', lv', nx'⟩⟩ o.dst v K' → wOpD D F o ⟨nt, tm', ⟨bx', lv', nx'⟩⟩ K' := by
  obtain ⟨bx, lv, nx⟩ := m
  obtain ⟨d, op, ty, po, af, g⟩ := o
  simp only at hq
  have fin1 : ∀ {g' : (AV → Prop) → Prop}, Det g' → (g' fun u => AS.put ⟨nt, tm, ⟨bx, lv, nx⟩⟩ d u K) → (∀ tm' bx' lv' nx', Agree tm tm' (opnds op) → (∀ id ∈ rdIds D tm op, Same bx bx' id) → ∀ K', (g' fun u => AS.put ⟨nt, tm', ⟨bx', lv', nx'⟩⟩ d u K') → wOpD D F ⟨d, op, ty, po, af, g⟩ ⟨nt, tm', ⟨bx', lv', nx'⟩⟩ K') →
      ∃ v, AS.put ⟨nt, tm, ⟨bx, lv, nx⟩⟩ d v K ∧ ∀ tm' bx' lv' nx', Agree tm tm' (opnds op) → (∀ id ∈ rdIds D tm op, Same bx bx' id) → ∀ K', AS.put ⟨nt, tm', ⟨bx', lv', nx'⟩⟩ d v K' → wOpD D F ⟨d, op, ty, po, af, g⟩ ⟨nt, tm', ⟨bx', lv', nx'⟩⟩ K' := by
    intro g' hg hf hw
    obtain ⟨v, h1, h2⟩ := hg _ hf
    exact ⟨v, h1, fun tm' bx' lv' nx' ha hsm K' h' => hw tm' bx' lv' nx' ha hsm K' (h2 _ h')⟩
  cases op with
  | move x =>
    simp only [wOpD, wOp] at h
    cases he : evalO D tm ty x with
    | none => simp [he] at h
    | some v =>
      simp only [he] at h
      exact fin1 (Det.pure v) h fun tm' bx' lv' nx' ha hsm K' h' => by simp only [wOpD, wOp, evalO_ag ha, he]; exact h'
  | assign x =>
    simp only [wOpD, wOp] at h
    cases he : evalO D tm ty x with
    | none => simp [he] at h
    | some v =>
      simp only [he] at h
      exact fin1 (Det.pure v) h fun tm' bx' lv' nx' ha hsm K' h' => by simp only [wOpD, wOp, evalO_ag ha, he]; exact h'
  | pick c a b =>
    simp only [wOpD, wOp] at h
    split at h
    · rename_i t hc
      cases t with
      | true =>
        simp only [Branch] at h
        split at h
        · rename_i v hv
          exact fin1 (Det.pure v) h fun tm' bx' lv' nx' ha hsm K' h' => by
            simp only [wOpD, wOp, evalO_ag (Agree.head ha), hc, Branch, evalO_ag (Agree.head (Agree.tail ha)), hv]; exact h'
        · exact h.elim
      | false =>
        simp only [Branch] at h
        split at h
        · rename_i v hv
          exact fin1 (Det.pure v) h fun tm' bx' lv' nx' ha hsm K' h' => by
            simp only [wOpD, wOp, evalO_ag (Agree.head ha), hc, Branch, evalO_ag (Agree.tail (Agree.tail ha)), hv]; exact h'
        · exact h.elim
    · exact h.elim
  | load t x =>
    simp only [wOpD, wOp] at h
    split at h
    · rename_i p hp
      exact fin1 (det_wLoad D bx t p) h fun tm' bx' lv' nx' ha hsm K' h' => by simp only [wOpD, wOp, evalO_ag ha, hp]; exact (wLoad_same (by simpa only [rdIds, hp] using hsm)).2 h'
    · exact h.elim
  | fieldAddr s x f =>
    simp only [wOpD, wOp] at h
    split at h
    · rename_i p hp
      exact fin1 (det_wFieldAddr D bx s p f) h fun tm' bx' lv' nx' ha hsm K' h' => by simp only [wOpD, wOp, evalO_ag ha, hp]; exact (wFieldAddr_same (by simpa only [rdIds, hp] using hsm)).2 h'
    · exact h.elim
  | field s x f =>
    simp only [wOpD, wOp] at h
    split at h
    · rename_i p hp
      exact fin1 (det_wField D s p f) h fun tm' bx' lv' nx' ha hsm K' h' => by simp only [wOpD, wOp, evalO_ag ha, hp]; exact h'
    · exact h.elim
  | indexAddr t x ix =>
    simp only [wOpD, wOp] at h
    split at h
    · rename_i i hi
      split at h
      · rename_i p hp
        exact fin1 (det_wIndexAddr D bx t p i) h fun tm' bx' lv' nx' ha hsm K' h' => by simp only [wOpD, wOp, evalO_ag (Agree.head ha), evalO_ag (Agree.tail ha), hi, hp]; exact (wIndexAddr_same (by simpa only [rdIds, hp] using hsm)).2 h'
      · exact h.elim
    · exact h.elim
  | index t x ix =>
    simp only [wOpD, wOp] at h
    split at h
    · rename_i i hi
      split at h
      · rename_i p hp
        exact fin1 (det_wIndex D t p i) h fun tm' bx' lv' nx' ha hsm K' h' => by simp only [wOpD, wOp, evalO_ag (Agree.head ha), evalO_ag (Agree.tail ha), hi, hp]; exact h'
      · exact h.elim
    · exact h.elim
  | unOp op t x =>
    simp only [wOpD, wOp] at h
    split at h
    · rename_i p hp
      exact fin1 ((det_wUn op p).map AV.sc) h fun tm' bx' lv' nx' ha hsm K' h' => by simp only [wOpD, wOp, evalO_ag ha, hp]; exact h'
    · exact h.elim
  | convert s t x =>
    simp only [wOpD, wOp] at h
    split at h
    · rename_i p hp
      exact fin1 (det_isConv D s t p) h fun tm' bx' lv' nx' ha hsm K' h' => by simp only [wOpD, wOp, evalO_ag ha, hp]; exact h'
    · exact h.elim
  | nilCheck x =>
    simp only [wOpD, wOp] at h
    split at h
    · rename_i id p hp
      exact fin1 (Det.pure (AV.pt id p)) h fun tm' bx' lv' nx' ha hsm K' h' => by simp only [wOpD, wOp, evalO_ag ha, hp]; exact h'
    · rename_i v hp
      exact fin1 (Det.pure (AV.rp v)) h fun tm' bx' lv' nx' ha hsm K' h' => by simp only [wOpD, wOp, evalO_ag ha, hp]; exact h'
    · rename_i f cs hp
      exact fin1 (Det.pure (AV.fn f cs)) h fun tm' bx' lv' nx' ha hsm K' h' => by simp only [wOpD, wOp, evalO_ag ha, hp]; exact h'
    · exact h.elim
  | extract x i =>
    simp only [wOpD, wOp] at h
    split at h
    · rename_i xs hp
      split at h
      · rename_i v hv
        exact fin1 (Det.pure v) h fun tm' bx' lv' nx' ha hsm K' h' => by simp only [wOpD, wOp, evalO_ag ha, hp, hv]; exact h'
      · exact h.elim
    · exact h.elim
  | binOp op t x y e =>
    simp only [wOpD] at h
    split at h
    · rename_i sl hs
      split at h
      · rename_i v hv
        exact fin1 ((det_nilTestD t sl v op).map AV.sc) h fun tm' bx' lv' nx' ha hsm K' h' => by simp only [wOpD, hs, evalO_ag (Agree.head ha), hv]; exact h'
      · exact h.elim
    · rename_i hs
      split at h
      · rename_i sl hs2
        split at h
        · rename_i v hv
          exact fin1 ((det_nilTestD t sl v op).map AV.sc) h fun tm' bx' lv' nx' ha hsm K' h' => by simp only [wOpD, hs, hs2, evalO_ag (Agree.tail ha), hv]; exact h'
        · exact h.elim
      · rename_i hs2
        split at h
        · rename_i v hv
          split at h
          · rename_i u hu
            exact fin1 ((det_wBin D op t v u).map AV.sc) h fun tm' bx' lv' nx' ha hsm K' h' => by simp only [wOpD, hs, hs2, evalO_ag (Agree.head ha), evalO_ag (Agree.tail ha), hv, hu]; exact h'
          · exact h.elim
        · exact h.elim
  | slice t x lo hi mx =>
    simp only [wOpD, wOp] at h
    split at h
    · rename_i v hv
      have det_optE : ∀ (o : Option Operand), Det (optE D tm o) := by
        intro o
        cases o with
        | none => exact Det.pure _
        | some o =>
          unfold optE
          dsimp only
          cases evalO D tm 0 o with
          | none => exact Det.no
          | some v => exact Det.pure _
      refine fin1 ((det_optE lo).bind fun l => (det_optE hi).bind fun h => (det_optE mx).bind fun m => det_wSlice D bx t v l h m) h fun tm' bx' lv' nx' ha hsm K' h' => ?_
      have a1 := Agree.tail ha
      simp only [wOpD, wOp, evalO_ag (Agree.head ha), hv]
      refine (optE_ag (Agree.left a1)).2 ?_
      have e2 : (fun l => optE D tm' hi fun h => optE D tm' mx fun m => wSlice D bx' t v l h m fun u => AS.put ⟨nt, tm', ⟨bx', lv', nx'⟩⟩ d u K') = fun l => optE D tm hi fun h => optE D tm mx fun m => wSlice D bx t v l h m fun u => AS.put ⟨nt, tm', ⟨bx', lv', nx'⟩⟩ d u K' := by
        funext l
        refine propext ((optE_ag (Agree.left (Agree.right a1))).trans ?_)
        have e3 : (fun h => optE D tm' mx fun m => wSlice D bx' t v l h m fun u => AS.put ⟨nt, tm', ⟨bx', lv', nx'⟩⟩ d u K') = fun h => optE D tm mx fun m => wSlice D bx t v l h m fun u => AS.put ⟨nt, tm', ⟨bx', lv', nx'⟩⟩ d u K' := by
          funext h
          refine propext ((optE_ag (Agree.right (Agree.right a1))).trans ?_)
          have e4 : (fun m => wSlice D bx' t v l h m fun u => AS.put ⟨nt, tm', ⟨bx', lv', nx'⟩⟩ d u K') = fun m => wSlice D bx t v l h m fun u => AS.put ⟨nt, tm', ⟨bx', lv', nx'⟩⟩ d u K' := by
            funext m
            exact propext (wSlice_same (by simpa only [rdIds, hv] using hsm))
          rw [e4]
        rw [e3]
      rw [e2]
      exact h'
    · exact h.elim
  | build t ps =>
    simp only [wOpD, wOp] at h
    exact fin1 (det_wBuild D tm t ps.toList) h fun tm' bx' lv' nx' ha hsm K' h' => by simp only [wOpD, wOp]; exact (wBuild_ag ha).2 h'
  | buildSlice t n ps =>
    simp only [wOpD, wOp] at h
    have hdet : Det fun K : AV → Prop => elemSh D t fun e sh _ => match (generalizing := false) Nat.ble (n * sh.size) 16777216 with
       | false => False
       | true => match lookT D.ty e with
        | some ⟨_, _, _, z⟩ => evalP D tm (fun _ => e) ps.toList fun vs => match (generalizing := false) sndPure vs with
          | true => fillF (List.replicate n z) vs fun xs => K (.sl sh xs .ex)
          | false => False
        | none => False := by
      refine det_elemSh fun e sh b => det_ifn ?_
      cases lookT D.ty e with
      | none => exact Det.no
      | some i => obtain ⟨k2, sh2, b2, z⟩ := i; exact (det_evalP D tm _ _).bind fun vs => det_if ((det_fillF _ _).map fun xs => AV.sl sh xs .ex)
    refine fin1 hdet h fun tm' bx' lv' nx' ha hsm K' h' => ?_
    simp only [wOpD, wOp]
    refine (elemSh_congr fun e sh b => ?_).2 h'
    cases Nat.ble (n * sh.size) 16777216 with
    | false => exact Iff.rfl
    | true =>
      cases lookT D.ty e with
      | none => exact Iff.rfl
      | some i => exact evalP_ag _ _ ha
  | sliceToArrayPointer t x =>
    simp only [wOpD, wOp] at h
    split at h
    · rename_i s xs m hp
      have hd : Det fun K : AV → Prop => arrSh (lookT D.ty t) fun n s' => match (generalizing := false) Shape.eqb s s' && Nat.blt 0 n with
          | true => n ≤ xs.length ∧ K (.rp (.ar n s (xs.take n)))
          | false => False := by
        unfold arrSh
        cases lookT D.ty t with
        | none => exact Det.no
        | some i =>
          obtain ⟨k, sh, b, z⟩ := i
          cases k <;> cases sh <;> first | exact Det.no | exact det_if (Det.and (Det.pure _))
      exact fin1 hd h fun tm' bx' lv' nx' ha hsm K' h' => by simp only [wOpD, wOp, evalO_ag ha, hp]; exact h'
    · exact h.elim
  | makeFunc f first caps =>
    simp only [wOpD, wOp] at h
    split at h
    · split at h
      · rename_i k hf
        split at h
        · rename_i cs hcs
          split at h
          · rename_i hl
            refine fin1 ((det_dmsK cs).map fun cs' => AV.fn _ cs') h fun tm' bx' lv' nx' ha hsm K' h' => ?_
            simp only [wOpD, wOp, evalA_ag _ _ (show Agree tm tm' caps.toList from ha), hcs, hl, hf]
            exact h'
          · exact h.elim
        · exact h.elim
      · exact h.elim
    · exact h.elim
  | call c =>
    obtain ⟨cal, args, ats⟩ := c
    cases cal with
    | builtin b =>
      simp only [wOpD] at h
      split at h
      · rename_i as has
        cases b with
        | len =>
          simp only [wBuiltin] at h
          split at h
          · rename_i x t hts
            have has2 := has
            rw [hts] at has2
            exact fin1 (det_wLen D t x) h fun tm' bx' lv' nx' ha hsm K' h' => by
              simp only [wOpD, evalA_ag _ _ (show Agree tm tm' args.toList from ha), hts, has2, wBuiltin]; exact h'
          · exact h.elim
        | min =>
          simp only [wBuiltin] at h
          split at h
          · rename_i k x k' y
            split at h
            · rename_i hk
              exact fin1 (Det.pure (AV.sc (.int k (min x y)))) h fun tm' bx' lv' nx' ha hsm K' h' => by
                simp only [wOpD, evalA_ag _ _ (show Agree tm tm' args.toList from ha), has, wBuiltin, hk]; exact h'
            · exact h.elim
          · exact h.elim
        | max =>
          simp only [wBuiltin] at h
          split at h
          · rename_i k x k' y
            split at h
            · rename_i hk
              exact fin1 (Det.pure (AV.sc (.int k (max x y)))) h fun tm' bx' lv' nx' ha hsm K' h' => by
                simp only [wOpD, evalA_ag _ _ (show Agree tm tm' args.toList from ha), has, wBuiltin, hk]; exact h'
            · exact h.elim
          · exact h.elim
        | cap =>
          simp only [wBuiltin] at h
          split at h
          · rename_i sh xs t hts
            split at h
            · rename_i ht
              have has2 := has
              rw [hts] at has2
              exact fin1 (Det.pure (AV.sc (.int .i64 (xs.length : Int)))) h fun tm' bx' lv' nx' ha hsm K' h' => by
                simp only [wOpD, evalA_ag _ _ (show Agree tm tm' args.toList from ha), hts, has2, wBuiltin, ht]; exact h'
            · exact h.elim
          · rename_i id p sh off len cp t hts
            split at h
            · rename_i ht
              have has2 := has
              rw [hts] at has2
              exact fin1 (Det.pure (AV.sc (.int .i64 (cp : Int)))) h fun tm' bx' lv' nx' ha hsm K' h' => by
                simp only [wOpD, evalA_ag _ _ (show Agree tm tm' args.toList from ha), hts, has2, wBuiltin, ht]; exact h'
            · exact h.elim
          · exact h.elim
        | _ => simp [quiet] at hq
      · exact h.elim
    | value f =>
      simp only [quiet] at hq
      simp only [wOpD] at h
      split at h
      · rename_i k caps hf
        split at h
        · rename_i as has
          split at h
          · rename_i hl
            rw [hq] at h
            simp only [wCallQ] at h
            have h := (dmsK_iff _ _).1 h
            cases hp : AV.pures (AV.dms (as ++ caps)) with
            | false => rw [hp] at h; exact h.elim
            | true =>
              rw [hp] at h
              obtain ⟨r0, h1, h2, h3⟩ := h
              exact fin1 (Det.pure r0) h3 fun tm' bx' lv' nx' ha hsm K' h' => by
                simp only [wOpD, evalO_ag (Agree.head ha), hf, evalA_ag _ _ (Agree.tail ha), has, hl, hq, wCallQ]
                refine (dmsK_iff _ _).2 ?_
                rw [hp]
                exact ⟨r0, h1, h2, h'⟩
          · exact h.elim
        · exact h.elim
      · exact h.elim
    | invoke r m => simp [quiet] at hq
  | _ => simp [quiet] at hq
end
end Go.WL
namespace Go.WL
theorem keeps_refl (bx : List (AV × Bool)) (l lv : List Nat) (nx : Nat) : Keeps bx l ⟨bx, lv, nx⟩ := ⟨Nat.le_refl _, fun _ _ _ => rfl⟩
theorem keeps_app (bx ys : List (AV × Bool)) (l lv : List Nat) (nx : Nat) : Keeps bx l ⟨bx ++ ys, lv, nx⟩ :=
  ⟨by simp, fun id h _ => by simp only [Same, List.getElem?_append_left h]⟩
theorem keeps_set {bx : List (AV × Bool)} {l : List Nat} {id : Nat} (h : id ∈ l) (c : AV × Bool) (lv : List Nat) (nx : Nat) : Keeps bx l ⟨bx.set id c, lv, nx⟩ :=
  ⟨by simp, fun i _ hi => by
    have hne : id ≠ i := fun e => by subst e; exact hi h
    simp only [Same, List.getElem?_set_ne hne]⟩
theorem mem_idss : ∀ {xs : List AV} {i : Nat}, i ∈ AV.idss xs → ∃ c, c ∈ xs ∧ i ∈ c.ids
  | [], i, h => by simp [AV.idss] at h
  | x :: xs, i, h => by
    simp only [AV.idss, List.mem_append] at h
    rcases h with h | h
    · exact ⟨x, by simp, h⟩
    · obtain ⟨c, h1, h2⟩ := mem_idss h
      exact ⟨c, List.mem_cons_of_mem _ h1, h2⟩
theorem setAll_out : ∀ (ids : List Nat) (cs : List AV) (bx : List (AV × Bool)) (k : Nat), k ∉ ids → (setAll bx ids cs)[k]? = bx[k]?
  | [], cs, bx, k, _ => by simp [setAll]
  | i :: l, [], bx, k, _ => by simp [setAll]
  | i :: l, c :: cs, bx, k, h => by
    simp only [List.mem_cons, not_or] at h
    rw [setAll, setAll_out l cs _ k h.2, List.getElem?_set_ne (Ne.symm h.1)]
section
variable {D : Tabs} {nt : Nat} {d : Option Nat} {F : CallT}
theorem detP_back0 {Φ : Mem → Prop} (bx : List (AV × Bool)) (lv : List Nat) (nx : Nat) (r : AV) (st : List AV) (hΦ : ∀ ys lv nx, Φ ⟨bx ++ ys, lv, nx⟩) : DetP Φ nt d fun tm K => back0 nt tm bx lv nx d r st K :=
  DetP.ifF (DetP.bind (det_renK _ _ _) fun _ => DetP.bind (det_rensK _ _ _) fun _ => DetP.bind (det_litsK _) fun _ => DetP.bind (det_litK _) fun _ => DetP.at (at_forceB _) (DetP.put _ _ (hΦ _ _ _)))
theorem detP_back1 {Φ : Mem → Prop} (bx : List (AV × Bool)) (lv : List Nat) (nx : Nat) (ids rows : List Nat) (r : AV) (st : List AV) (hΦ : ∀ cs ys lv nx, Φ ⟨setAll bx ids cs ++ ys, lv, nx⟩) : DetP Φ nt d fun tm K => back1 nt tm bx lv nx d ids rows r st K :=
  DetP.ifF (DetP.bind (det_renK _ _ _) fun _ => DetP.bind (det_rensK _ _ _) fun _ => DetP.bind (det_litsK _) fun _ => DetP.bind (det_litK _) fun _ => DetP.at (at_forceB _) (DetP.put _ _ (hΦ _ _ _ _)))
theorem detP_wCallD (bx0 : List (AV × Bool)) (lv : List Nat) (nx f : Nat) (args : List AV) : DetP (Keeps bx0 (reach bx0 (AV.idss args))) nt d fun tm K => wCallD F ⟨nt, tm, ⟨bx0, lv, nx⟩⟩ d f args K := by
  intro tm K h
  simp only [wCallD] at h
  obtain ⟨as, bx, h1, h2, hl, hs, hi⟩ := freezeK_at args bx0 _ h
  have rest : DetP (Keeps bx0 (reach bx0 (AV.idss args))) nt d fun tm K => match (generalizing := false) AV.pures as with
    | true => ∃ r0 st0, F f as [] (fun r st => r = r0 ∧ st = st0) ∧ back0 nt tm bx lv nx d r0 st0 K
    | false => match contents bx (dedup [] (AV.idss as)) with
      | none => False
      | some c0 => litsK (more bx (dedup [] (dedup [] (AV.idss as) ++ AV.idss c0))) fun ids => match contents bx ids with
        | none => False
        | some cs => litsK (AV.rowss cs) fun rows => match allMemb lv rows && noDup rows && allMemb ids (AV.idss cs) && (AV.rowss as).isEmpty with
          | false => False
          | true =>
            rensK (fun i => posOf ids i 0) (fun k => posOf rows k 0) as fun as' =>
            rensK (fun i => posOf ids i 0) (fun k => posOf rows k 0) cs fun cs' =>
            ∃ r0 st0, F f as' cs' (fun r st => r = r0 ∧ st = st0) ∧ back1 nt tm bx lv nx d ids rows r0 st0 K := by
    cases AV.pures as with
    | true =>
      refine DetP.ex fun r0 => DetP.ex fun st0 => DetP.and (detP_back0 _ _ _ _ _ fun ys lv nx => ⟨by simp; omega, fun id hid _ => ?_⟩)
      simp only [Same, List.getElem?_append_left (show id < bx.length by omega)]
      exact hs id
    | false =>
      dsimp only
      cases hc0 : contents bx (dedup [] (AV.idss as)) with
      | none => exact DetP.no
      | some c0 =>
        dsimp only
        refine DetP.at (at_litsK _) ?_
        cases contents bx (more bx (dedup [] (dedup [] (AV.idss as) ++ AV.idss c0))) with
        | none => exact DetP.no
        | some cs =>
          dsimp only
          refine DetP.bind (det_litsK _) fun rows => DetP.ifF (DetP.bind (det_rensK _ _ _) fun as' => DetP.bind (det_rensK _ _ _) fun cs' => DetP.ex fun r0 => DetP.ex fun st0 => DetP.and (detP_back1 _ _ _ _ _ _ _ fun cs2 ys lv nx => ⟨by simp [setAll_len]; omega, fun id hid hni => ?_⟩))
          have hn : id ∉ more bx (dedup [] (dedup [] (AV.idss as) ++ AV.idss c0)) := by
            have r1 : ∀ id, id ∈ dedup [] (dedup [] (AV.idss as) ++ AV.idss c0) → id ∈ reach1 bx0 (AV.idss args) := by
              intro id hm
              obtain ⟨_, d2⟩ := dedup_spec (dedup [] (AV.idss as) ++ AV.idss c0) [] (by simp)
              obtain ⟨_, d3⟩ := dedup_spec (AV.idss as) [] (by simp)
              unfold reach1
              rcases (d2 id).1 hm with hm | hm
              · simp at hm
              · rcases List.mem_append.1 hm with hm | hm
                · rcases (d3 id).1 hm with hm | hm
                  · simp at hm
                  · exact List.mem_append_left _ (hi id hm)
                · refine List.mem_append_right _ (List.mem_flatMap.2 ?_)
                  obtain ⟨hl0, hat⟩ := contents_at bx _ c0 hc0
                  obtain ⟨c, hc, hic⟩ := mem_idss hm
                  obtain ⟨j, hj, he⟩ := List.getElem_of_mem hc
                  have hj2 : j < (dedup [] (AV.idss as)).length := by omega
                  obtain ⟨c2, k1, k2⟩ := hat j _ (List.getElem?_eq_getElem hj2)
                  rw [List.getElem?_eq_getElem hj, he, Option.some.injEq] at k1
                  subst k1
                  refine ⟨_, hi _ (((d3 _).1 (List.getElem_mem hj2)).resolve_left (by simp)), ?_⟩
                  have := hs (dedup [] (AV.idss as))[j]
                  simp only [Same, k2, Option.map_some] at this
                  cases hb : bx0[(dedup [] (AV.idss as))[j]]? with
                  | none => rw [hb] at this; simp at this
                  | some x =>
                    rw [hb] at this
                    simp only [Option.map_some, Option.some.injEq] at this
                    obtain ⟨x1, x2⟩ := x
                    simp only at this ⊢
                    rw [← this]
                    exact hic
            intro hm
            refine hni ?_
            obtain ⟨dd, _⟩ := dedup_spec (dedup [] (AV.idss as) ++ AV.idss c0) [] (by simp)
            rcases (more_spec bx _ dd).2.2 id hm with k | ⟨cs2, hcs2, hx⟩
            · exact List.mem_append_left _ (r1 id k)
            · refine List.mem_append_right _ (List.mem_flatMap.2 ?_)
              obtain ⟨hl0, hat⟩ := contents_at bx _ cs2 hcs2
              obtain ⟨c, hc, hic⟩ := mem_idss hx
              obtain ⟨j, hj, he⟩ := List.getElem_of_mem hc
              have hj2 : j < (dedup [] (dedup [] (AV.idss as) ++ AV.idss c0)).length := by omega
              obtain ⟨c2, k1, k2⟩ := hat j _ (List.getElem?_eq_getElem hj2)
              rw [List.getElem?_eq_getElem hj, he, Option.some.injEq] at k1
              subst k1
              refine ⟨_, r1 _ (List.getElem_mem hj2), ?_⟩
              have := hs (dedup [] (dedup [] (AV.idss as) ++ AV.idss c0))[j]
              simp only [Same, k2, Option.map_some] at this
              cases hb : bx0[(dedup [] (dedup [] (AV.idss as) ++ AV.idss c0))[j]]? with
              | none => rw [hb] at this; simp at this
              | some x =>
                rw [hb] at this
                simp only [Option.map_some, Option.some.injEq] at this
                obtain ⟨x1, x2⟩ := x
                simp only at this ⊢
                rw [← this]
                exact hic
          simp only [Same]
          rw [List.getElem?_append_left (by rw [setAll_len]; omega), setAll_out _ _ _ _ hn]
          exact hs id
  obtain ⟨v, m1, k1, k2, k3⟩ := rest tm K h1
  exact ⟨v, m1, k1, k2, fun tm' K' h' => by simp only [wCallD]; exact h2 _ (k3 tm' K' h')⟩
theorem loc_eff {o : Oper} {m : Mem} {tm : List (Nat × AV)} {K : AS → Prop} (hq : quiet D.q o.op = false) (h : wOpD D F o ⟨nt, tm, m⟩ K) :
    ∃ v m1, Keeps m.bx (touch D tm m.bx o.op) m1 ∧ AS.put ⟨nt, tm, m1⟩ o.dst v K ∧ ∀ tm', Agree tm tm' (opnds o.op) → ∀ K', AS.put ⟨nt, tm', m1⟩ o.dst v K' → wOpD D F o ⟨nt, tm', m⟩ K' := by
  obtain ⟨bx, lv, nx⟩ := m
  obtain ⟨d, op, ty, po, af, g⟩ := o
  simp only at hq
  have fin : ∀ {f : List (Nat × AV) → (AS → Prop) → Prop}, DetP (Keeps bx (touch D tm bx op)) nt d f → f tm K → (∀ tm', Agree tm tm' (opnds op) → ∀ K', f tm' K' → wOpD D F ⟨d, op, ty, po, af, g⟩ ⟨nt, tm', ⟨bx, lv, nx⟩⟩ K') →
      ∃ v m1, Keeps bx (touch D tm bx op) m1 ∧ AS.put ⟨nt, tm, m1⟩ d v K ∧ ∀ tm', Agree tm tm' (opnds op) → ∀ K', AS.put ⟨nt, tm', m1⟩ d v K' → wOpD D F ⟨d, op, ty, po, af, g⟩ ⟨nt, tm', ⟨bx, lv, nx⟩⟩ K' := by
    intro f hd hf hw
    obtain ⟨v, m1, hk, h1, h2⟩ := hd tm K hf
    exact ⟨v, m1, hk, h1, fun tm' ha K' h' => hw tm' ha K' (h2 tm' K' h')⟩
  cases op with
  | alloc e =>
    simp only [wOpD, wOp] at h
    split at h
    · rename_i k sh b z ht
      exact fin (f := fun tm K => litK bx.length fun id => forceB (bx ++ [(z, false)]) fun bx' => AS.put ⟨nt, tm, ⟨bx', lv, nx⟩⟩ d (.pt id []) K) (DetP.bind (det_litK _) fun id => DetP.at (at_forceB _) (DetP.put _ _ (keeps_app _ _ _ _ _))) h fun tm' ha K' h' => by simp only [wOpD, wOp, ht]; exact h'
    · exact h.elim
  | box e x =>
    simp only [wOpD, wOp] at h
    split at h
    · rename_i k sh b z ht
      split at h
      · rename_i v hv
        exact fin (f := fun tm K => match (generalizing := false) Shape.eqb sh v.shape with | true => dmK v fun u => litK bx.length fun id => forceB (bx ++ [(u, false)]) fun bx' => AS.put ⟨nt, tm, ⟨bx', lv, nx⟩⟩ d (.pt id []) K | false => False)
          (DetP.ifT (DetP.bind (det_dmK v) fun u => DetP.bind (det_litK _) fun id => DetP.at (at_forceB _) (DetP.put _ _ (keeps_app _ _ _ _ _)))) h fun tm' ha K' h' => by simp only [wOpD, wOp, ht, evalN_ag ha, hv]; exact h'
      · exact h.elim
    · exact h.elim
  | store t x y =>
    simp only [wOpD, wOp] at h
    cases d with
    | some d => exact h.elim
    | none =>
      simp only at h
      split at h
      · rename_i p hp
        split at h
        · rename_i k sh b z ht
          split at h
          · rename_i v hv
            have hΦ : ∀ id ∈ p.ids, ∀ c, Keeps bx (touch D tm bx (.store t x y)) ⟨bx.set id (c, false), lv, nx⟩ := fun id hid c => keeps_set (by simp only [touch, hp]; exact hid) _ _ _
            have hd : DetP (Keeps bx (touch D tm bx (.store t x y))) nt none fun tm K => match (generalizing := false) Shape.eqb sh v.shape with
                | true => (match (generalizing := false) v with
                  | .sl s xs m => wStore nt tm bx lv nx p (.sl s xs m) K
                  | v => dmK v fun u => wStore nt tm bx lv nx p u K)
                | false => False := by
              have other : ∀ v, DetP (Keeps bx (touch D tm bx (.store t x y))) nt none fun tm K => dmK v fun u => wStore nt tm bx lv nx p u K := fun v => DetP.bind (det_dmK v) fun u => detP_wStore _ _ _ _ _ hΦ
              refine DetP.ifT ?_
              cases v with
              | sl s xs m => exact detP_wStore _ _ _ _ _ hΦ
              | _ => exact other _
            exact fin hd h fun tm' ha K' h' => by simp only [wOpD, wOp, evalO_ag (Agree.head ha), hp, ht, evalN_ag (Agree.tail ha), hv]; exact h'
          · exact h.elim
        · exact h.elim
      · exact h.elim
  | makeSlice t l c =>
    simp only [wOpD, wOp] at h
    have hd : DetP (Keeps bx (touch D tm bx (.makeSlice t l c))) nt d fun tm0 K => elemSh D t fun e sh by_ => match lookT D.ty e with
        | some ⟨_, _, _, z⟩ => match evalO D tm 0 l with
          | some (.sc (.int _ n)) => match evalO D tm 0 c with
            | some (.sc (.int _ k)) => match Nat.ble by_ 4096 with
              | true => 0 ≤ n ∧ n ≤ k ∧ k < 4294967296 ∧ litK bx.length fun id =>
                forceB (bx ++ [(.ar k.toNat sh (List.replicate k.toNat z), false)]) fun bx' => AS.put ⟨nt, tm0, ⟨bx', lv, nx⟩⟩ d (.bs id [] sh 0 n.toNat k.toNat) K
              | false => False
            | _ => False
          | _ => False
        | none => False := by
      refine DetP.elem fun e sh b => ?_
      cases lookT D.ty e with
      | none => exact DetP.no
      | some i =>
        obtain ⟨k2, sh2, b2, z⟩ := i
        dsimp only
        cases evalO D tm 0 l with
        | none => exact DetP.no
        | some v =>
          cases v with
          | sc v =>
            cases v with
            | int k3 n =>
              dsimp only
              cases evalO D tm 0 c with
              | none => exact DetP.no
              | some v2 =>
                cases v2 with
                | sc v2 =>
                  cases v2 with
                  | int k4 k =>
                    dsimp only
                    cases Nat.ble b 4096 with
                    | false => exact DetP.no
                    | true => exact DetP.and (DetP.and (DetP.and (DetP.bind (det_litK _) fun id => DetP.at (at_forceB _) (DetP.put _ _ (keeps_app _ _ _ _ _)))))
                  | _ => exact DetP.no
                | _ => exact DetP.no
            | _ => exact DetP.no
          | _ => exact DetP.no
    refine fin hd h fun tm' ha K' h' => ?_
    simp only [wOpD, wOp, evalO_ag (Agree.head ha), evalO_ag (Agree.tail ha)]
    exact h'
  | call c =>
    obtain ⟨cal, args, ats⟩ := c
    simp only [wOpD] at h
    cases cal with
    | value f =>
      simp only at h
      split at h
      · rename_i k caps hf
        split at h
        · rename_i as has
          split at h
          · rename_i hl
            have hq : qcall D.q f = false := hq
            rw [hq] at h
            have e : touch D tm bx (.call ⟨.value f, args, ats⟩) = reach bx (AV.idss (as ++ caps)) := by simp only [touch, hf, has]
            have hd : DetP (Keeps bx (touch D tm bx (.call ⟨.value f, args, ats⟩))) nt d fun tm K => wCallD F ⟨nt, tm, ⟨bx, lv, nx⟩⟩ d k (as ++ caps) K := by rw [e]; exact detP_wCallD bx lv nx k (as ++ caps)
            exact fin hd h fun tm' ha K' h' => by
              simp only [wOpD, evalO_ag (Agree.head ha), hf, evalA_ag _ _ (Agree.tail ha), has, hl, hq]; exact h'
          · exact h.elim
        · exact h.elim
      · exact h.elim
    | builtin b =>
      simp only at h
      split at h
      · rename_i as has
        have e : touch D tm bx (.call ⟨.builtin b, args, ats⟩) = AV.idss as := by simp only [touch, has]
        have hd : DetP (Keeps bx (touch D tm bx (.call ⟨.builtin b, args, ats⟩))) nt d fun tm K => wBuiltin D ⟨nt, tm, ⟨bx, lv, nx⟩⟩ d b as ats.toList K := by
          rw [e]
          intro tm K h
          unfold wBuiltin at h
          split at h
          · split at h
            · rename_i s x t t2 hts _
              obtain ⟨v, m1, k1, k2, k3⟩ := detP_wAppend (Φ := Keeps bx (AV.idss [s, x])) D bx lv nx _ _ _ _ (fun lv nx => keeps_refl _ _ _ _) (fun id hid c => keeps_set (by simp only [AV.idss, List.mem_append]; exact .inl hid) _ _ _) tm K h
              exact ⟨v, m1, k1, k2, fun tm' K' h' => by simp only [wBuiltin, hts]; exact k3 tm' K' h'⟩
            · exact h.elim
          · simp [quiet] at hq
          · split at h
            · rename_i s x t t2 hts _
              obtain ⟨v, m1, k1, k2, k3⟩ := detP_wCopy (Φ := Keeps bx (AV.idss [s, x])) D bx lv nx _ _ _ (fun id hid c => keeps_set (by simp only [AV.idss, List.mem_append]; exact .inl hid) _ _ _) tm K h
              exact ⟨v, m1, k1, k2, fun tm' K' h' => by simp only [wBuiltin, hts]; exact k3 tm' K' h'⟩
            · exact h.elim
          · split at h
            · rename_i x t hts _
              obtain ⟨v, m1, k1, k2, k3⟩ := detP_wClear (Φ := Keeps bx (AV.idss [x])) D bx lv nx _ _ (fun id hid c => keeps_set (by simp only [AV.idss, List.mem_append]; exact .inl hid) _ _ _) tm K h
              exact ⟨v, m1, k1, k2, fun tm' K' h' => by simp only [wBuiltin, hts]; exact k3 tm' K' h'⟩
            · exact h.elim
          · simp [quiet] at hq
          · simp [quiet] at hq
          · simp [quiet] at hq
          · exact h.elim
        exact fin hd h fun tm' ha K' h' => by
          simp only [wOpD, evalA_ag _ _ (show Agree tm tm' args.toList from ha), has]; exact h'
      · exact h.elim
    | invoke r m => exact h.elim
  | _ => first | exact h.elim | simp [quiet] at hq
end
end Go.WL
namespace Go.WL

def bindsB (e : Edge) : Bool := match e.ground with
  | .textOnly _ => false
  | .gcOnly _ => false
  | _ => true
def ins (l : List Nat) (x : Nat) : List Nat := match memb l x with
  | true => l
  | false => x :: l
def insAll : List Nat → List Nat → List Nat
  | l, [] => l
  | l, x :: xs => insAll (ins l x) xs
def nthL : List (List Nat) → Nat → List Nat
  | [], _ => []
  | x :: _, 0 => x
  | _ :: l, n + 1 => nthL l n
/-- What is behind an operation's edges, with all that is behind those. -/
def anc1 (tab : List (List Nat)) : List Edge → List Nat
  | [] => []
  | e :: es => match bindsB e with
    | true => insAll (ins (anc1 tab es) e.on) (nthL tab e.on)
    | false => anc1 tab es
def ancs : List Oper → List (List Nat) → List (List Nat)
  | [], tab => tab
  | o :: l, tab => ancs l (tab ++ [anc1 tab o.after.toList])
def backB1 (j : Nat) : List Edge → Bool
  | [] => true
  | e :: es => (match bindsB e with | true => Nat.blt e.on j | false => true) && backB1 j es
def backAll : List Oper → Nat → Bool
  | [], _ => true
  | o :: l, j => backB1 j o.after.toList && backAll l (j + 1)
def dsts : List Oper → List Nat
  | [] => []
  | o :: l => match o.dst with
    | some d => d :: dsts l
    | none => dsts l
/-- The slots that an operation looks at. -/
def looks (all : List Oper) (o : Oper) : List Nat := match o.guard with
  | none => tmpsOf (opnds o.op)
  | some (g, _) => match dstOf all g with
    | some t => t :: tmpsOf (opnds o.op)
    | none => tmpsOf (opnds o.op)
/-- Every writer of what is looked at is behind, or ahead, by edges. -/
def lookOne (tab : List (List Nat)) (j : Nat) (lk : List Nat) : List Oper → Nat → Bool
  | [], _ => true
  | o :: l, i => (match o.dst with
      | none => true
      | some d => match memb lk d with
        | false => true
        | true => match Nat.beq i j with
          | true => false
          | false => memb (nthL tab j) i || memb (nthL tab i) j) && lookOne tab j lk l (i + 1)
def lookAll (all : List Oper) (tab : List (List Nat)) : List Oper → Nat → Bool
  | [], _ => true
  | o :: l, j => lookOne tab j (looks all o) all 0 && lookAll all tab l (j + 1)

/-- What was done: an effect, the boxes touched and how many there were; or the boxes read. -/
structure Ent where
  j : Nat
  eff : Bool
  ids : List Nat
  len : Nat
def apartB : List Nat → List Nat → Bool
  | [], _ => true
  | x :: l, m => !(memb m x) && apartB l m
/-- May two be done in either order? -/
def freeE (a b : Ent) : Bool := match a.eff with
  | true => match b.eff with
    | true => false
    | false => apartB b.ids a.ids && allLt a.len b.ids
  | false => match b.eff with
    | true => apartB a.ids b.ids && allLt b.len a.ids
    | false => true
def okLog (anc : List Nat) (e : Ent) : List Ent → Bool
  | [] => true
  | b :: l => (freeE e b || memb anc b.j) && okLog anc e l
def entOf (D : Tabs) (σ : AS) (j : Nat) (op : Op) : Ent := match quiet D.q op with
  | true => ⟨j, false, rdIds D σ.tm op, 0⟩
  | false => ⟨j, true, touch D σ.tm σ.m.bx op, σ.m.bx.length⟩
noncomputable def wOpsD (D : Tabs) (F : CallT) (all : List Oper) (tab : List (List Nat)) (l : List Oper) : Nat → List Ent → AS → (AS → Prop) → Prop :=
  List.rec (motive := fun _ => Nat → List Ent → AS → (AS → Prop) → Prop) (fun _ _ σ K => K σ)
    (fun o _ ih j log σ K => match o with
      | ⟨d, op, ty, po, af, g⟩ => match g with
        | none => match okLog (nthL tab j) (entOf D σ j op) log with
          | true => wOpD D F ⟨d, op, ty, po, af, g⟩ σ fun σ' => ih (j + 1) (entOf D σ j op :: log) σ' K
          | false => False
        | some (i, want) => match dstOf all i with
          | none => False
          | some t => match lookV σ.tm t with
            | some (.sc (.bool b)) => match want with
              | true => Branch b (match okLog (nthL tab j) (entOf D σ j op) log with
                  | true => wOpD D F ⟨d, op, ty, po, af, g⟩ σ fun σ' => ih (j + 1) (entOf D σ j op :: log) σ' K
                  | false => False) (ih (j + 1) log (σ.drop d) K)
              | false => Branch b (ih (j + 1) log (σ.drop d) K) (match okLog (nthL tab j) (entOf D σ j op) log with
                  | true => wOpD D F ⟨d, op, ty, po, af, g⟩ σ fun σ' => ih (j + 1) (entOf D σ j op :: log) σ' K
                  | false => False)
            | some (.tup []) => ih (j + 1) log (σ.drop d) K
            | _ => False) l
theorem wOpsD_cons (D : Tabs) (F : CallT) (all : List Oper) (tab : List (List Nat)) (o : Oper) (l : List Oper) (j : Nat) (log : List Ent) (σ : AS) (K : AS → Prop) : wOpsD D F all tab (o :: l) j log σ K = (match o with
      | ⟨d, op, ty, po, af, g⟩ => match g with
        | none => match okLog (nthL tab j) (entOf D σ j op) log with
          | true => wOpD D F ⟨d, op, ty, po, af, g⟩ σ fun σ' => wOpsD D F all tab l (j + 1) (entOf D σ j op :: log) σ' K
          | false => False
        | some (i, want) => match dstOf all i with
          | none => False
          | some t => match lookV σ.tm t with
            | some (.sc (.bool b)) => match want with
              | true => Branch b (match okLog (nthL tab j) (entOf D σ j op) log with
                  | true => wOpD D F ⟨d, op, ty, po, af, g⟩ σ fun σ' => wOpsD D F all tab l (j + 1) (entOf D σ j op :: log) σ' K
                  | false => False) (wOpsD D F all tab l (j + 1) log (σ.drop d) K)
              | false => Branch b (wOpsD D F all tab l (j + 1) log (σ.drop d) K) (match okLog (nthL tab j) (entOf D σ j op) log with
                  | true => wOpD D F ⟨d, op, ty, po, af, g⟩ σ fun σ' => wOpsD D F all tab l (j + 1) (entOf D σ j op :: log) σ' K
                  | false => False)
            | some (.tup []) => wOpsD D F all tab l (j + 1) log (σ.drop d) K
            | _ => False) := rfl
def eqL : List Nat → List Nat → Bool
  | [], [] => true
  | x :: l, y :: m => Nat.beq x y && eqL l m
  | _, _ => false
def eqLL : List (List Nat) → List (List Nat) → Bool
  | [], [] => true
  | x :: l, y :: m => eqL x y && eqLL l m
  | _, _ => false
theorem eqL_of : ∀ {l m : List Nat}, eqL l m = true → l = m
  | [], [], _ => rfl
  | x :: l, y :: m, h => by
    simp only [eqL, Bool.and_eq_true] at h
    rw [Nat.eq_of_beq_eq_true h.1, eqL_of h.2]
  | [], _ :: _, h => by simp [eqL] at h
  | _ :: _, [], h => by simp [eqL] at h
theorem eqLL_of : ∀ {l m : List (List Nat)}, eqLL l m = true → l = m
  | [], [], _ => rfl
  | x :: l, y :: m, h => by
    simp only [eqLL, Bool.and_eq_true] at h
    rw [eqL_of h.1, eqLL_of h.2]
  | [], _ :: _, h => by simp [eqLL] at h
  | _ :: _, [], h => by simp [eqLL] at h
/-- A region whose order is drawn: the table is who is behind whom, and all is in order. -/
def tabOf (ops : List Oper) (tab : List (List Nat)) : Bool := eqLL (ancs ops []) tab && backAll ops 0 && noDup (dsts ops) && lookAll ops tab ops 0
def wDrawn (D : Tabs) (F : CallT) (sp : List Nat) (ops : List Oper) (σ : AS) (K : AS → Prop) : Prop :=
  ∃ tab : List (List Nat), tabOf ops tab = true ∧ wOpsD ⟨D.ty, D.gl, sp⟩ F ops tab ops 0 [] σ K
/-- A call of which more than one outcome may come. -/
def callRestX (F : CallT) (nt : Nat) (tm : List (Nat × AV)) (bx : List (AV × Bool)) (lv : List Nat) (nx : Nat) (d : Option Nat) (f : Nat) (as : List AV) (K : AS → Prop) : Prop :=
  match AV.pures as with
  | true => ∃ Q : AV → List AV → Prop, F f as [] Q ∧ (∃ r st, Q r st) ∧ ∀ r st, Q r st → back0 nt tm bx lv nx d r st K
  | false => match contents bx (dedup [] (AV.idss as)) with
    | none => False
    | some c0 => litsK (more bx (dedup [] (dedup [] (AV.idss as) ++ AV.idss c0))) fun ids => match contents bx ids with
      | none => False
      | some cs => litsK (AV.rowss cs) fun rows => match allMemb lv rows && noDup rows && allMemb ids (AV.idss cs) && (AV.rowss as).isEmpty with
        | false => False
        | true =>
          rensK (fun i => posOf ids i 0) (fun k => posOf rows k 0) as fun as' =>
          rensK (fun i => posOf ids i 0) (fun k => posOf rows k 0) cs fun cs' =>
          ∃ Q : AV → List AV → Prop, F f as' cs' Q ∧ (∃ r st, Q r st) ∧ ∀ r st, Q r st → back1 nt tm bx lv nx d ids rows r st K
/-- An append whose room is not known beforehand: into a box of its own; or a call of which more than one outcome may come. -/
def wSpA (D : Tabs) (F : CallT) (d : Option Nat) (op : Op) (σ : AS) (K : AS → Prop) : Prop :=
  match σ with
  | ⟨nt, tm, m⟩ => match op with
    | .call ⟨cal, args, ats⟩ => match cal with
      | .value f => match evalO D tm 0 f with
        | some (.fn k caps) => match evalA D tm args.toList ats.toList with
          | some as => match allLf caps with
            | true => match m with
              | ⟨bx, lv, nx⟩ => dmsK (as ++ caps) fun as => callRestX F nt tm bx lv nx d k as K
            | false => False
          | none => False
        | _ => False
      | .builtin .append => match evalA D tm args.toList ats.toList with
        | some as => match as, ats.toList with
          | [s, x], [t, t2] => wAppB D ⟨nt, tm, m⟩ d t t2 s x K
          | _, _ => False
        | none => False
      | _ => False
    | _ => False
/-- As 'wOpsD', where operation number kx is such an append. -/
noncomputable def wOpsX (D : Tabs) (F : CallT) (all : List Oper) (tab : List (List Nat)) (kx : Nat) (l : List Oper) : Nat → List Ent → AS → (AS → Prop) → Prop :=
  List.rec (motive := fun _ => Nat → List Ent → AS → (AS → Prop) → Prop) (fun _ _ _ _ => False)
    (fun o l ih j log σ K => match Nat.beq j kx with
      | true => match o with
        | ⟨d, op, ty, po, af, g⟩ => match g with
          | some _ => False
          | none => match quiet D.q op with
            | true => False
            | false => match okLog (nthL tab j) (entOf D σ j op) log with
              | true => wSpA D F d op σ fun σ' => wOpsD D F all tab l (j + 1) (entOf D σ j op :: log) σ' K
              | false => False
      | false => match o with
      | ⟨d, op, ty, po, af, g⟩ => match g with
        | none => match okLog (nthL tab j) (entOf D σ j op) log with
          | true => wOpD D F ⟨d, op, ty, po, af, g⟩ σ fun σ' => ih (j + 1) (entOf D σ j op :: log) σ' K
          | false => False
        | some (i, want) => match dstOf all i with
          | none => False
          | some t => match lookV σ.tm t with
            | some (.sc (.bool b)) => match want with
              | true => Branch b (match okLog (nthL tab j) (entOf D σ j op) log with
                  | true => wOpD D F ⟨d, op, ty, po, af, g⟩ σ fun σ' => ih (j + 1) (entOf D σ j op :: log) σ' K
                  | false => False) (ih (j + 1) log (σ.drop d) K)
              | false => Branch b (ih (j + 1) log (σ.drop d) K) (match okLog (nthL tab j) (entOf D σ j op) log with
                  | true => wOpD D F ⟨d, op, ty, po, af, g⟩ σ fun σ' => ih (j + 1) (entOf D σ j op :: log) σ' K
                  | false => False)
            | some (.tup []) => ih (j + 1) log (σ.drop d) K
            | _ => False) l
/-- All operations behind number kx hang on it. -/
def behX (kx : Nat) : List (List Nat) → Nat → Bool
  | [], _ => true
  | a :: l, i => (Nat.ble i kx || memb a kx) && behX kx l (i + 1)
def wDrawnX (D : Tabs) (F : CallT) (sp : List Nat) (kx : Nat) (ops : List Oper) (σ : AS) (K : AS → Prop) : Prop :=
  ∃ tab : List (List Nat), (tabOf ops tab && behX kx tab 0) = true ∧ wOpsX ⟨D.ty, D.gl, sp⟩ F ops tab kx ops 0 [] σ K
/-- Which operation of region 'id' is such an append: 'sp' tells it as 4000000 + 1000 * id + number. -/
def flagX (id : Nat) : List Nat → Option Nat
  | [] => none
  | x :: l => match Nat.beq (x / 1000) (id + 4000) with
    | true => some (x % 1000)
    | false => flagX id l
end Go.WL
namespace Go.WL

def putl (d : Option Nat) (v : AV) (tm : List (Nat × AV)) : List (Nat × AV) := match d with
  | some d => (d, v) :: tm
  | none => tm
def dropl (d : Option Nat) (tm : List (Nat × AV)) : List (Nat × AV) := match d with
  | some d => (d, .tup []) :: tm
  | none => tm
structure Step where
  o : Oper
  tm : List (Nat × AV)
  m : Mem
  run : Bool
  v : AV
  m1 : Mem
  eff : Bool
def GuardOK (all : List Oper) (tm : List (Nat × AV)) (o : Oper) (run : Bool) : Prop := match o.guard with
  | none => run = true
  | some (i, want) => ∃ t, dstOf all i = some t ∧ ((∃ b, lookV tm t = some (.sc (.bool b)) ∧ run = (b == want)) ∨ (lookV tm t = some (.tup []) ∧ run = false))
def StepOK (D : Tabs) (F : CallT) (nt : Nat) (e : Prop) (o : Oper) (tm : List (Nat × AV)) (m : Mem) (v : AV) (m1 : Mem) : Prop :=
  (∀ d, o.dst = some d → Nat.blt d nt = true) ∧ match (generalizing := false) quiet D.q o.op with
  | true => m1 = m ∧ ∀ tm' bx' lv' nx', Agree tm tm' (opnds o.op) → (∀ id ∈ rdIds D tm o.op, Same m.bx bx' id) → ∀ K' : AS → Prop, K' ⟨nt, putl o.dst v tm', ⟨bx', lv', nx'⟩⟩ → wOpD D F o ⟨nt, tm', ⟨bx', lv', nx'⟩⟩ K'
  | false => Keeps m.bx (touch D tm m.bx o.op) m1 ∧ (e ∨ ∀ tm', Agree tm tm' (opnds o.op) → ∀ K' : AS → Prop, K' ⟨nt, putl o.dst v tm', m1⟩ → wOpD D F o ⟨nt, tm', m⟩ K')
-- x: the number of the operation of which no more is asked than what it leaves alone
inductive Trace (D : Tabs) (F : CallT) (nt : Nat) (all : List Oper) (tab : List (List Nat)) (x : Nat) : List Oper → Nat → List Ent → List (Nat × AV) → Mem → List Step → List (Nat × AV) → Mem → Prop
  | nil {j : Nat} {log : List Ent} {tm : List (Nat × AV)} {m : Mem} : Trace D F nt all tab x [] j log tm m [] tm m
  | run {o : Oper} {l : List Oper} {j : Nat} {log : List Ent} {tm : List (Nat × AV)} {m : Mem} {v : AV} {m1 : Mem} {ss : List Step} {tm' : List (Nat × AV)} {m' : Mem} :
      GuardOK all tm o true → okLog (nthL tab j) (entOf D ⟨nt, tm, m⟩ j o.op) log = true → StepOK D F nt (j = x) o tm m v m1 →
      Trace D F nt all tab x l (j + 1) (entOf D ⟨nt, tm, m⟩ j o.op :: log) (putl o.dst v tm) m1 ss tm' m' → Trace D F nt all tab x (o :: l) j log tm m (⟨o, tm, m, true, v, m1, !quiet D.q o.op⟩ :: ss) tm' m'
  | skip {o : Oper} {l : List Oper} {j : Nat} {log : List Ent} {tm : List (Nat × AV)} {m : Mem} {ss : List Step} {tm' : List (Nat × AV)} {m' : Mem} :
      GuardOK all tm o false → Trace D F nt all tab x l (j + 1) log (dropl o.dst tm) m ss tm' m' → Trace D F nt all tab x (o :: l) j log tm m (⟨o, tm, m, false, default, m, false⟩ :: ss) tm' m'

section
variable {D : Tabs} {F : CallT} {nt : Nat} {all : List Oper} {tab : List (List Nat)} {x : Nat}
theorem put_iff {d : Option Nat} {v : AV} {tm : List (Nat × AV)} {m : Mem} {K : AS → Prop} : AS.put ⟨nt, tm, m⟩ d v K ↔ (∀ d', d = some d' → Nat.blt d' nt = true) ∧ K ⟨nt, putl d v tm, m⟩ := by
  cases d with
  | none => simp [AS.put, putl]
  | some d =>
    simp only [AS.put, putl]
    cases h : Nat.blt d nt with
    | false => exact ⟨fun h' => h'.elim, fun h' => by have := h'.1 d rfl; rw [h] at this; simp at this⟩
    | true => exact ⟨fun h' => ⟨fun d' e => by rw [← Option.some.inj e]; exact h, h'⟩, fun h' => h'.2⟩
theorem step_of {o : Oper} {tm : List (Nat × AV)} {m : Mem} {K : AS → Prop} (h : wOpD D F o ⟨nt, tm, m⟩ K) : ∃ v m1, (∀ e, StepOK D F nt e o tm m v m1) ∧ K ⟨nt, putl o.dst v tm, m1⟩ := by
  cases hq : quiet D.q o.op with
  | true =>
    obtain ⟨v, h1, h2⟩ := loc_quiet hq h
    obtain ⟨h3, h4⟩ := put_iff.1 h1
    refine ⟨v, m, fun e => ⟨h3, ?_⟩, h4⟩
    simp only [hq]
    exact ⟨trivial, fun tm' bx' lv' nx' ha hs K' h' => h2 tm' bx' lv' nx' ha hs K' (put_iff.2 ⟨h3, h'⟩)⟩
  | false =>
    obtain ⟨v, m1, hk, h1, h2⟩ := loc_eff hq h
    obtain ⟨h3, h4⟩ := put_iff.1 h1
    refine ⟨v, m1, fun e => ⟨h3, ?_⟩, h4⟩
    simp only [hq]
    exact ⟨hk, .inr fun tm' ha K' h' => h2 tm' ha K' (put_iff.2 ⟨h3, h'⟩)⟩
theorem trace_of : ∀ (l : List Oper) (j : Nat) (log : List Ent) (tm : List (Nat × AV)) (m : Mem) (K : AS → Prop), wOpsD D F all tab l j log ⟨nt, tm, m⟩ K → ∃ ss tm' m', Trace D F nt all tab x l j log tm m ss tm' m' ∧ K ⟨nt, tm', m'⟩
  | [], j, log, tm, m, K, h => ⟨[], tm, m, .nil, h⟩
  | ⟨d, op, ty, po, af, g⟩ :: l, j, log, tm, m, K, h => by
    have run : GuardOK all tm ⟨d, op, ty, po, af, g⟩ true → (match okLog (nthL tab j) (entOf D ⟨nt, tm, m⟩ j op) log with
              | true => wOpD D F ⟨d, op, ty, po, af, g⟩ ⟨nt, tm, m⟩ fun σ' => wOpsD D F all tab l (j + 1) (entOf D ⟨nt, tm, m⟩ j op :: log) σ' K
              | false => False) → ∃ ss tm' m', Trace D F nt all tab x (⟨d, op, ty, po, af, g⟩ :: l) j log tm m ss tm' m' ∧ K ⟨nt, tm', m'⟩ := by
      intro hg h
      split at h
      · rename_i hok
        obtain ⟨v, m1, h1, h2⟩ := step_of h
        obtain ⟨ss, tm', m', h3, h4⟩ := trace_of l _ _ _ _ K h2
        exact ⟨_, tm', m', .run hg hok (h1 _) h3, h4⟩
      · exact h.elim
    have skip : GuardOK all tm ⟨d, op, ty, po, af, g⟩ false → wOpsD D F all tab l (j + 1) log (AS.drop ⟨nt, tm, m⟩ d) K → ∃ ss tm' m', Trace D F nt all tab x (⟨d, op, ty, po, af, g⟩ :: l) j log tm m ss tm' m' ∧ K ⟨nt, tm', m'⟩ := by
      intro hg h
      have e : AS.drop ⟨nt, tm, m⟩ d = ⟨nt, dropl d tm, m⟩ := by cases d <;> rfl
      rw [e] at h
      obtain ⟨ss, tm', m', h3, h4⟩ := trace_of l _ _ _ _ K h
      exact ⟨_, tm', m', .skip hg h3, h4⟩
    cases g with
    | none => exact run rfl h
    | some iw =>
      obtain ⟨i, want⟩ := iw
      rw [wOpsD_cons] at h
      simp only at h
      cases hd : dstOf all i with
      | none => simp [hd] at h
      | some t =>
        simp only [hd] at h
        split at h
        · rename_i b hv
          cases want with
          | true =>
            cases b with
            | true => exact run ⟨t, hd, .inl ⟨true, hv, rfl⟩⟩ h
            | false => exact skip ⟨t, hd, .inl ⟨false, hv, rfl⟩⟩ h
          | false =>
            cases b with
            | true => exact skip ⟨t, hd, .inl ⟨true, hv, rfl⟩⟩ h
            | false => exact run ⟨t, hd, .inl ⟨false, hv, rfl⟩⟩ h
        · rename_i hv
          exact skip ⟨t, hd, .inr ⟨hv, rfl⟩⟩ h
        · exact h.elim
end
end Go.WL
namespace Go.WL

def Step.next (s : Step) (tm : List (Nat × AV)) : List (Nat × AV) := match s.run with
  | true => putl s.o.dst s.v tm
  | false => dropl s.o.dst tm
def tmAt : List Step → List (Nat × AV) → Nat → List (Nat × AV)
  | [], tm, _ => tm
  | _ :: _, tm, 0 => tm
  | s :: ss, tm, k + 1 => tmAt ss (s.next tm) k
def mAt : List Step → Mem → Nat → Mem
  | [], m, _ => m
  | _ :: _, m, 0 => m
  | s :: ss, _, k + 1 => mAt ss s.m1 k
def entS (D : Tabs) (nt j : Nat) (s : Step) : Ent := entOf D ⟨nt, s.tm, s.m⟩ j s.o.op

theorem okLog_of {anc : List Nat} {e : Ent} : ∀ {log : List Ent}, okLog anc e log = true → ∀ b ∈ log, b.j ∈ anc ∨ freeE e b = true
  | [], _ => by simp
  | b :: l, h => by
    simp only [okLog, Bool.and_eq_true, Bool.or_eq_true] at h
    intro c hc
    rcases List.mem_cons.1 hc with rfl | hc
    · exact h.1.symm.imp (fun h => memb_of _ _ h) id
    · exact okLog_of h.2 c hc

section
variable {D : Tabs} {F : CallT} {nt : Nat} {all : List Oper} {tab : List (List Nat)} {x : Nat}
theorem trace_len {l : List Oper} {j : Nat} {log : List Ent} {tm tm' : List (Nat × AV)} {m m' : Mem} {ss : List Step} (h : Trace D F nt all tab x l j log tm m ss tm' m') : ss.length = l.length ∧ tm' = tmAt ss tm ss.length ∧ m' = mAt ss m ss.length := by
  induction h with
  | nil => exact ⟨rfl, rfl, rfl⟩
  | run _ _ _ _ ih => exact ⟨by simp [ih.1], by simp only [List.length_cons, tmAt, Step.next]; exact ih.2.1, by simp only [List.length_cons, mAt]; exact ih.2.2⟩
  | skip _ _ ih => exact ⟨by simp [ih.1], by simp only [List.length_cons, tmAt, Step.next]; exact ih.2.1, by simp only [List.length_cons, mAt]; exact ih.2.2⟩
/-- Of one step. -/
theorem trace_at {l : List Oper} {j : Nat} {log : List Ent} {tm tm' : List (Nat × AV)} {m m' : Mem} {ss : List Step} (h : Trace D F nt all tab x l j log tm m ss tm' m') : ∀ (k : Nat) (s : Step), ss[k]? = some s →
    l[k]? = some s.o ∧ GuardOK all s.tm s.o s.run ∧ (s.run = true → StepOK D F nt (j + k = x) s.o s.tm s.m s.v s.m1) ∧ (s.run = false → s.m1 = s.m) ∧ s.tm = tmAt ss tm k ∧ s.m = mAt ss m k ∧
    (s.run = true → ∀ b ∈ log, b.j ∈ nthL tab (j + k) ∨ freeE (entS D nt (j + k) s) b = true) ∧ s.eff = (s.run && !quiet D.q s.o.op) := by
  induction h with
  | nil => intro k s h; simp at h
  | run hg hok hs _ ih =>
    intro k s hk
    cases k with
    | zero =>
      simp only [List.getElem?_cons_zero, Option.some.injEq] at hk
      subst hk
      exact ⟨rfl, hg, fun _ => hs, fun e => by simp at e, rfl, rfl, fun _ b hb => okLog_of hok b hb, by simp⟩
    | succ k =>
      obtain ⟨h1, h2, h3, h4, h5, h6, h7, h8⟩ := ih k s (by simpa using hk)
      refine ⟨by simpa using h1, h2, fun hr => (by have := h3 hr; rwa [show ∀ j : Nat, j + 1 + k = j + (k + 1) from fun j => by omega] at this), h4, h5, h6, fun hr b hb => ?_, h8⟩
      have := h7 hr b (List.mem_cons_of_mem _ hb)
      rwa [show ∀ j : Nat, j + 1 + k = j + (k + 1) from fun j => by omega] at this
  | skip hg _ ih =>
    intro k s hk
    cases k with
    | zero =>
      simp only [List.getElem?_cons_zero, Option.some.injEq] at hk
      subst hk
      exact ⟨rfl, hg, fun e => by simp at e, fun _ => rfl, rfl, rfl, fun e => by simp at e, by simp⟩
    | succ k =>
      obtain ⟨h1, h2, h3, h4, h5, h6, h7, h8⟩ := ih k s (by simpa using hk)
      refine ⟨by simpa using h1, h2, fun hr => (by have := h3 hr; rwa [show ∀ j : Nat, j + 1 + k = j + (k + 1) from fun j => by omega] at this), h4, h5, h6, fun hr b hb => ?_, h8⟩
      have := h7 hr b hb
      rwa [show ∀ j : Nat, j + 1 + k = j + (k + 1) from fun j => by omega] at this
/-- Of two steps. -/
theorem trace_two {l : List Oper} {j : Nat} {log : List Ent} {tm tm' : List (Nat × AV)} {m m' : Mem} {ss : List Step} (h : Trace D F nt all tab x l j log tm m ss tm' m') : ∀ (i k : Nat) (si sk : Step), i < k → ss[i]? = some si → ss[k]? = some sk →
    si.run = true → sk.run = true → j + i ∈ nthL tab (j + k) ∨ freeE (entS D nt (j + k) sk) (entS D nt (j + i) si) = true := by
  induction h with
  | nil => intro i k si sk _ h; simp at h
  | @run o l j log tm m v m1 ss tm' m' hg hok hs ht ih =>
    intro i k si sk hik hi hk r1 r2
    cases k with
    | zero => omega
    | succ k =>
      have hk' : ss[k]? = some sk := by simpa using hk
      cases i with
      | zero =>
        simp only [List.getElem?_cons_zero, Option.some.injEq] at hi
        subst hi
        have := (trace_at ht k sk hk').2.2.2.2.2.2.1 r2 (entOf D ⟨nt, tm, m⟩ j o.op) (by simp)
        rw [show j + 1 + k = j + (k + 1) by omega] at this
        have ej : (entOf D ⟨nt, tm, m⟩ j o.op).j = j := by unfold entOf; cases quiet D.q o.op <;> rfl
        rw [ej] at this
        exact this
      | succ i =>
        have := ih i k si sk (by omega) (by simpa using hi) hk' r1 r2
        rwa [show j + 1 + k = j + (k + 1) by omega, show j + 1 + i = j + (i + 1) by omega] at this
  | @skip o l j log tm m ss tm' m' hg ht ih =>
    intro i k si sk hik hi hk r1 r2
    cases k with
    | zero => omega
    | succ k =>
      have hk' : ss[k]? = some sk := by simpa using hk
      cases i with
      | zero =>
        simp only [List.getElem?_cons_zero, Option.some.injEq] at hi
        subst hi
        simp at r1
      | succ i =>
        have := ih i k si sk (by omega) (by simpa using hi) hk' r1 r2
        rwa [show j + 1 + k = j + (k + 1) by omega, show j + 1 + i = j + (i + 1) by omega] at this
end
end Go.WL
namespace Go.WL

def Step.res (s : Step) : Option AV := match s.run with
  | true => some s.v
  | false => some (.tup [])
/-- The slots when the steps in L are done. -/
def tmL (L : Nat → Bool) : List Step → Nat → List (Nat × AV) → List (Nat × AV)
  | [], _, tm => tm
  | s :: ss, j, tm => match L j with
    | true => s.next (tmL L ss (j + 1) tm)
    | false => tmL L ss (j + 1) tm
def lkS (L : Nat → Bool) : List Step → Nat → List (Nat × AV) → Nat → Option AV
  | [], _, tm, x => lookV tm x
  | s :: ss, j, tm, x => if s.o.dst = some x ∧ L j = true then s.res else lkS L ss (j + 1) tm x

theorem lookV_next (s : Step) (tm : List (Nat × AV)) (x : Nat) : lookV (s.next tm) x = if s.o.dst = some x then s.res else lookV tm x := by
  unfold Step.next Step.res
  cases hr : s.run with
  | true =>
    simp only
    cases hd : s.o.dst with
    | none => simp [putl]
    | some d =>
      simp only [putl, lookV, Option.some.injEq]
      cases hb : Nat.beq d x with
      | true => rw [if_pos (Nat.eq_of_beq_eq_true hb)]
      | false => rw [if_neg (fun e => by subst e; simp at hb)]
  | false =>
    simp only
    cases hd : s.o.dst with
    | none => simp [dropl]
    | some d =>
      simp only [dropl, lookV, Option.some.injEq]
      cases hb : Nat.beq d x with
      | true => rw [if_pos (Nat.eq_of_beq_eq_true hb)]
      | false => rw [if_neg (fun e => by subst e; simp at hb)]
theorem lookV_tmL (L : Nat → Bool) : ∀ (ss : List Step) (j : Nat) (tm : List (Nat × AV)) (x : Nat), lookV (tmL L ss j tm) x = lkS L ss j tm x
  | [], j, tm, x => rfl
  | s :: ss, j, tm, x => by
    simp only [tmL, lkS]
    cases hL : L j with
    | true =>
      simp only
      rw [lookV_next, lookV_tmL L ss (j + 1) tm x]
      by_cases e : s.o.dst = some x
      · rw [if_pos e, if_pos ⟨e, by simp⟩]
      · rw [if_neg e, if_neg (fun h => e h.1)]
    | false =>
      simp only
      rw [lookV_tmL L ss (j + 1) tm x]
      exact (if_neg (fun h => by simp at h)).symm
theorem lkS_congr {L L' : Nat → Bool} {x : Nat} : ∀ (ss : List Step) (j : Nat) (tm : List (Nat × AV)), (∀ (k : Nat) (s : Step), ss[k]? = some s → s.o.dst = some x → L (j + k) = L' (j + k)) → lkS L ss j tm x = lkS L' ss j tm x
  | [], j, tm, _ => rfl
  | s :: ss, j, tm, h => by
    have ih := lkS_congr (L := L) (L' := L') ss (j + 1) tm fun k t ht hd => by
      have := h (k + 1) t ht hd
      have e : j + 1 + k = j + (k + 1) := by omega
      rw [e]; exact this
    simp only [lkS]
    by_cases e : s.o.dst = some x
    · have := h 0 s rfl e
      rw [Nat.add_zero] at this
      rw [this, ih]
    · rw [if_neg (fun h => e h.1), if_neg (fun h => e h.1), ih]
/-- No two steps write one slot. -/
def Apart : List Step → Prop
  | [] => True
  | s :: ss => (∀ x, s.o.dst = some x → ∀ t ∈ ss, t.o.dst ≠ some x) ∧ Apart ss
theorem lkS_none {L : Nat → Bool} {x : Nat} : ∀ (ss : List Step) (j : Nat) (tm : List (Nat × AV)), (∀ t ∈ ss, t.o.dst ≠ some x) → lkS L ss j tm x = lookV tm x
  | [], j, tm, _ => rfl
  | s :: ss, j, tm, h => by
    simp only [lkS]
    rw [if_neg (fun e => h s (by simp) e.1), lkS_none ss (j + 1) tm fun t ht => h t (List.mem_cons_of_mem _ ht)]
theorem lkS_tm {L : Nat → Bool} {x : Nat} : ∀ (ss : List Step) (j : Nat) (tm tm' : List (Nat × AV)), lookV tm x = lookV tm' x → lkS L ss j tm x = lkS L ss j tm' x
  | [], j, tm, tm', h => h
  | s :: ss, j, tm, tm', h => by simp only [lkS, lkS_tm ss (j + 1) tm tm' h]
theorem lookV_tmAt : ∀ (ss : List Step) (j : Nat) (tm : List (Nat × AV)) (k x : Nat), Apart ss → k ≤ ss.length → lookV (tmAt ss tm k) x = lkS (fun i => decide (i < j + k)) ss j tm x
  | [], j, tm, k, x, _, _ => by cases k <;> rfl
  | s :: ss, j, tm, 0, x, _, _ => by
    simp only [tmAt]
    rw [lkS_congr (L' := fun _ => false) (s :: ss) j tm fun k t _ _ => by simp]
    have : ∀ (ss : List Step) (j : Nat), lkS (fun _ => false) ss j tm x = lookV tm x := by
      intro ss
      induction ss with
      | nil => intro j; rfl
      | cons t ss ih => intro j; simp only [lkS]; rw [if_neg (fun e => by simp at e), ih]
    rw [this]
  | s :: ss, j, tm, k + 1, x, ha, hk => by
    simp only [tmAt, lkS]
    rw [lookV_tmAt ss (j + 1) (s.next tm) k x ha.2 (by simpa using hk)]
    have e : (fun i => decide (i < j + 1 + k)) = fun i => decide (i < j + (k + 1)) := by funext i; congr 1; rw [show j + 1 + k = j + (k + 1) by omega]
    rw [e]
    by_cases hd : s.o.dst = some x
    · rw [if_pos ⟨hd, by simp⟩, lkS_none ss (j + 1) _ (ha.1 x hd), lookV_next, if_pos hd]
    · rw [if_neg (fun h => hd h.1)]
      exact lkS_tm _ _ _ _ (by rw [lookV_next, if_neg hd])
end Go.WL
namespace Go.WL

/-- The memory when the steps in L are done. -/
def mL (L : Nat → Bool) : List Step → Nat → Mem → Mem
  | [], _, m => m
  | s :: ss, j, m => mL L ss (j + 1) (if L j = true ∧ s.eff = true then s.m1 else m)
/-- Each step begins with the memory of the one ahead, and only effects turn it. -/
def Chain : List Step → Mem → Prop
  | [], _ => True
  | s :: ss, m => s.m = m ∧ (s.eff = false → s.m1 = m) ∧ Chain ss s.m1

theorem mL_id {L : Nat → Bool} : ∀ (ss : List Step) (j : Nat) (m : Mem), (∀ (k : Nat) (s : Step), ss[k]? = some s → s.eff = true → L (j + k) = false) → mL L ss j m = m
  | [], j, m, _ => rfl
  | s :: ss, j, m, h => by
    have h0 : ¬ (L j = true ∧ s.eff = true) := fun ⟨h1, h2⟩ => by
      have := h 0 s rfl h2
      rw [Nat.add_zero] at this
      rw [h1] at this
      simp at this
    simp only [mL]
    rw [if_neg h0]
    refine mL_id ss (j + 1) m fun k t ht he => ?_
    have := h (k + 1) t ht he
    have e : j + 1 + k = j + (k + 1) := by omega
    rw [e]; exact this
theorem mL_at {L : Nat → Bool} : ∀ (ss : List Step) (j : Nat) (m : Mem), Chain ss m → (∀ (i k : Nat) (s t : Step), i < k → ss[i]? = some s → ss[k]? = some t → s.eff = true → t.eff = true → L (j + k) = true → L (j + i) = true) →
    ∃ p, p ≤ ss.length ∧ mL L ss j m = mAt ss m p ∧ (∀ (i : Nat) (s : Step), i < p → ss[i]? = some s → s.eff = true → L (j + i) = true) ∧ (∀ (i : Nat) (s : Step), p ≤ i → ss[i]? = some s → s.eff = true → L (j + i) = false)
  | [], j, m, _, _ => ⟨0, Nat.le_refl _, rfl, fun i s h => by omega, fun i s _ h => by simp at h⟩
  | s :: ss, j, m, hc, h => by
    have hrest : ∀ (i k : Nat) (s' t : Step), i < k → ss[i]? = some s' → ss[k]? = some t → s'.eff = true → t.eff = true → L (j + 1 + k) = true → L (j + 1 + i) = true := by
      intro i k s' t hik hs ht e1 e2 hl
      have a1 : j + 1 + k = j + (k + 1) := by omega
      have a2 : j + 1 + i = j + (i + 1) := by omega
      rw [a1] at hl
      rw [a2]
      exact h (i + 1) (k + 1) s' t (by omega) hs ht e1 e2 hl
    have go : ∀ m', (if L j = true ∧ s.eff = true then s.m1 else m) = m' → m' = s.m1 → (s.eff = true → L j = true) → ∃ p, p ≤ (s :: ss).length ∧ mL L (s :: ss) j m = mAt (s :: ss) m p ∧ (∀ (i : Nat) (t : Step), i < p → (s :: ss)[i]? = some t → t.eff = true → L (j + i) = true) ∧ (∀ (i : Nat) (t : Step), p ≤ i → (s :: ss)[i]? = some t → t.eff = true → L (j + i) = false) := by
      intro m' e1 e2 e3
      obtain ⟨p, p1, p2, p3, p4⟩ := mL_at ss (j + 1) s.m1 hc.2.2 hrest
      refine ⟨p + 1, by simpa using p1, ?_, fun i t hi ht he => ?_, fun i t hi ht he => ?_⟩
      · simp only [mL, mAt]
        rw [e1, e2]
        exact p2
      · cases i with
        | zero =>
          simp only [List.getElem?_cons_zero, Option.some.injEq] at ht
          subst ht
          exact e3 he
        | succ i =>
          have := p3 i t (by omega) ht he
          have a : j + 1 + i = j + (i + 1) := by omega
          rw [a] at this
          exact this
      · cases i with
        | zero => omega
        | succ i =>
          have := p4 i t (by omega) ht he
          have a : j + 1 + i = j + (i + 1) := by omega
          rw [a] at this
          exact this
    cases he : s.eff with
    | false => exact go m (by rw [if_neg]; rw [he]; simp) (hc.2.1 he).symm (fun e => by rw [he] at e; simp at e)
    | true =>
      cases hl : L j with
      | true => exact go s.m1 (if_pos ⟨hl, he⟩) rfl (fun _ => hl)
      | false =>
        have none : ∀ (i : Nat) (t : Step), (s :: ss)[i]? = some t → t.eff = true → L (j + i) = false := by
          intro i t ht he2
          cases i with
          | zero => rw [Nat.add_zero]; exact hl
          | succ i =>
            cases hL : L (j + (i + 1)) with
            | false => rfl
            | true =>
              have := h 0 (i + 1) s t (by omega) rfl ht he he2 hL
              rw [Nat.add_zero, hl] at this
              simp at this
        exact ⟨0, Nat.zero_le _, mL_id _ _ _ none, fun i t hi => by omega, fun i t _ => none i t⟩
/-- From one memory of the text's run to a later one: a box that no effect between touches is as it was. -/
theorem mAt_same {id : Nat} : ∀ (ss : List Step) (m : Mem) (a b : Nat), Chain ss m → a ≤ b → (∀ (i : Nat) (s : Step), a ≤ i → i < b → ss[i]? = some s → s.eff = true → Same s.m.bx s.m1.bx id) → Same (mAt ss m a).bx (mAt ss m b).bx id
  | [], m, a, b, _, _, _ => rfl
  | s :: ss, m, 0, 0, _, _, _ => rfl
  | s :: ss, m, 0, b + 1, hc, _, h => by
    have h1 : Same m.bx s.m1.bx id := by
      cases he : s.eff with
      | true => have := h 0 s (Nat.le_refl _) (by omega) rfl he; rw [hc.1] at this; exact this
      | false => rw [hc.2.1 he]; rfl
    have h2 := mAt_same ss s.m1 0 b hc.2.2 (by omega) fun i t hi hb ht he => h (i + 1) t (by omega) (by omega) ht he
    have e0 : mAt ss s.m1 0 = s.m1 := by cases ss <;> rfl
    rw [e0] at h2
    simp only [mAt]
    exact h2.trans h1
  | s :: ss, m, a + 1, 0, _, hab, _ => by omega
  | s :: ss, m, a + 1, b + 1, hc, hab, h => by
    simp only [mAt]
    exact mAt_same ss s.m1 a b hc.2.2 (by omega) fun i t hi hb ht he => h (i + 1) t (by omega) (by omega) ht he
theorem mAt_const : ∀ (ss : List Step) (m : Mem) (a b : Nat), Chain ss m → a ≤ b → b ≤ ss.length → (∀ (i : Nat) (s : Step), a ≤ i → i < b → ss[i]? = some s → s.eff = false) → mAt ss m a = mAt ss m b
  | [], m, a, b, _, _, _, _ => rfl
  | s :: ss, m, 0, 0, _, _, _, _ => rfl
  | s :: ss, m, 0, b + 1, hc, _, hl, h => by
    have h1 := hc.2.1 (h 0 s (Nat.le_refl _) (by omega) rfl)
    have h2 := mAt_const ss s.m1 0 b hc.2.2 (by omega) (by simpa using hl) fun i t hi hb ht => h (i + 1) t (by omega) (by omega) ht
    have e0 : mAt ss s.m1 0 = s.m1 := by cases ss <;> rfl
    rw [e0] at h2
    simp only [mAt]
    rw [← h2, h1]
  | s :: ss, m, a + 1, 0, _, hab, _, _ => by omega
  | s :: ss, m, a + 1, b + 1, hc, hab, hl, h => by
    simp only [mAt]
    exact mAt_const ss s.m1 a b hc.2.2 (by omega) (by simpa using hl) fun i t hi hb ht => h (i + 1) t (by omega) (by omega) ht
end Go.WL
namespace Go.WL

/-! ### What the static checks say -/
theorem memb_iff (l : List Nat) (x : Nat) : memb l x = true ↔ x ∈ l := by
  constructor
  · exact memb_of l x
  · intro h
    cases hm : memb l x with
    | true => rfl
    | false => exact absurd h (memb_not l x hm)
theorem mem_ins {l : List Nat} {x y : Nat} : y ∈ ins l x ↔ y = x ∨ y ∈ l := by
  unfold ins
  cases h : memb l x with
  | true =>
    have := memb_of l x h
    simp only
    exact ⟨.inr, fun h => h.elim (fun e => e ▸ this) id⟩
  | false => simp
theorem mem_insAll : ∀ {xs l : List Nat} {y : Nat}, y ∈ insAll l xs ↔ y ∈ xs ∨ y ∈ l
  | [], l, y => by simp [insAll]
  | x :: xs, l, y => by
    rw [insAll, mem_insAll, mem_ins, List.mem_cons]
    constructor
    · rintro (h | h | h)
      · exact .inl (.inr h)
      · exact .inl (.inl h)
      · exact .inr h
    · rintro ((h | h) | h)
      · exact .inr (.inl h)
      · exact .inl h
      · exact .inr (.inr h)
theorem mem_anc1 {tab : List (List Nat)} {y : Nat} : ∀ {es : List Edge}, y ∈ anc1 tab es ↔ ∃ e ∈ es, bindsB e = true ∧ (y = e.on ∨ y ∈ nthL tab e.on)
  | [] => by simp [anc1]
  | e :: es => by
    have ih := mem_anc1 (tab := tab) (y := y) (es := es)
    simp only [anc1]
    cases hb : bindsB e with
    | true =>
      simp only
      rw [mem_insAll, mem_ins, ih]
      constructor
      · rintro (h | h | ⟨e', h1, h2⟩)
        · exact ⟨e, by simp, hb, .inr h⟩
        · exact ⟨e, by simp, hb, .inl h⟩
        · exact ⟨e', List.mem_cons_of_mem _ h1, h2⟩
      · rintro ⟨e', h1, h2, h3⟩
        rcases List.mem_cons.1 h1 with rfl | h1
        · rcases h3 with h3 | h3
          · exact .inr (.inl h3)
          · exact .inl h3
        · exact .inr (.inr ⟨e', h1, h2, h3⟩)
    | false =>
      simp only
      rw [ih]
      constructor
      · rintro ⟨e', h1, h2⟩; exact ⟨e', List.mem_cons_of_mem _ h1, h2⟩
      · rintro ⟨e', h1, h2, h3⟩
        rcases List.mem_cons.1 h1 with rfl | h1
        · rw [hb] at h2; simp at h2
        · exact ⟨e', h1, h2, h3⟩
theorem nthL_append {l : List (List Nat)} {x : List Nat} : ∀ {i : Nat}, i < l.length → nthL (l ++ [x]) i = nthL l i := by
  induction l with
  | nil => intro i h; simp at h
  | cons y l ih =>
    intro i h
    cases i with
    | zero => rfl
    | succ i => exact ih (by simpa using h)
theorem nthL_last {l : List (List Nat)} {x : List Nat} : nthL (l ++ [x]) l.length = x := by
  induction l with
  | nil => rfl
  | cons y l ih => exact ih
theorem backB1_of {j : Nat} : ∀ {es : List Edge}, backB1 j es = true → ∀ e ∈ es, bindsB e = true → e.on < j
  | [], _ => by simp
  | e :: es, h => by
    simp only [backB1, Bool.and_eq_true] at h
    intro e' he hb
    rcases List.mem_cons.1 he with rfl | he
    · have h1 := h.1
      rw [hb] at h1
      exact Nat.le_of_ble_eq_true h1
    · exact backB1_of h.2 e' he hb
/-- What is done is closed under all that is behind. -/
theorem ancs_closed {L : Nat → Bool} : ∀ (l : List Oper) (tab : List (List Nat)), backAll l tab.length = true → (∀ i, i < tab.length → ∀ y ∈ nthL tab i, L i = true → L y = true) →
    (∀ (k : Nat) (o : Oper), l[k]? = some o → L (tab.length + k) = true → ∀ e ∈ o.after.toList, bindsB e = true → L e.on = true) → ∀ i, i < tab.length + l.length → ∀ y ∈ nthL (ancs l tab) i, L i = true → L y = true
  | [], tab, _, h2, _ => fun i hi y hy hL => h2 i (by simpa using hi) y hy hL
  | o :: l, tab, h1, h2, h3 => by
    simp only [backAll, Bool.and_eq_true] at h1
    have hlen : (tab ++ [anc1 tab o.after.toList]).length = tab.length + 1 := by simp
    intro i hi y hy hL
    simp only [ancs] at hy
    refine ancs_closed l (tab ++ [anc1 tab o.after.toList]) (by rw [hlen]; exact h1.2) (fun i hi y hy hL => ?_) (fun k o' ho hL => ?_) i (by rw [hlen]; simp only [List.length_cons] at hi; omega) y hy hL
    · rw [hlen] at hi
      by_cases e : i < tab.length
      · rw [nthL_append e] at hy
        exact h2 i e y hy hL
      · have : i = tab.length := by omega
        subst this
        rw [nthL_last] at hy
        obtain ⟨ed, g1, g2, g3⟩ := mem_anc1.1 hy
        have hon := h3 0 o rfl (by rw [Nat.add_zero]; exact hL) ed g1 g2
        rcases g3 with rfl | g3
        · exact hon
        · exact h2 _ (backB1_of h1.1 ed g1 g2) y g3 hon
    · rw [hlen] at hL
      exact h3 (k + 1) o' (by simpa using ho) (by rw [show tab.length + (k + 1) = tab.length + 1 + k by omega]; exact hL)
theorem lookOne_of {tab : List (List Nat)} {j : Nat} {lk : List Nat} : ∀ (l : List Oper) (i : Nat), lookOne tab j lk l i = true → ∀ (k : Nat) (o : Oper) (d : Nat), l[k]? = some o → o.dst = some d → d ∈ lk → i + k ≠ j ∧ (i + k ∈ nthL tab j ∨ j ∈ nthL tab (i + k))
  | [], i, _, k, o, d, h, _, _ => by simp at h
  | o :: l, i, h, k, o', d, hk, hd, hm => by
    simp only [lookOne, Bool.and_eq_true] at h
    cases k with
    | zero =>
      simp only [List.getElem?_cons_zero, Option.some.injEq] at hk
      subst hk
      have h1 := h.1
      rw [hd] at h1
      simp only [(memb_iff lk d).2 hm] at h1
      cases hb : Nat.beq i j with
      | true => rw [hb] at h1; simp at h1
      | false =>
        rw [hb] at h1
        simp only [Bool.or_eq_true] at h1
        rw [Nat.add_zero]
        exact ⟨fun e => by subst e; simp at hb, h1.imp (memb_of _ _) (memb_of _ _)⟩
    | succ k =>
      have := lookOne_of l (i + 1) h.2 k o' d (by simpa using hk) hd hm
      rwa [show i + 1 + k = i + (k + 1) by omega] at this
theorem lookAll_of {all : List Oper} {tab : List (List Nat)} : ∀ (l : List Oper) (j : Nat), lookAll all tab l j = true → ∀ (k : Nat) (o : Oper), l[k]? = some o → lookOne tab (j + k) (looks all o) all 0 = true
  | [], j, _, k, o, h => by simp at h
  | o :: l, j, h, k, o', hk => by
    simp only [lookAll, Bool.and_eq_true] at h
    cases k with
    | zero =>
      simp only [List.getElem?_cons_zero, Option.some.injEq] at hk
      subst hk
      exact h.1
    | succ k =>
      have := lookAll_of l (j + 1) h.2 k o' (by simpa using hk)
      rwa [show j + 1 + k = j + (k + 1) by omega] at this
theorem mem_dsts : ∀ (l : List Oper) (d : Nat), d ∈ dsts l ↔ ∃ o ∈ l, o.dst = some d
  | [], d => by simp [dsts]
  | o :: l, d => by
    have ih := mem_dsts l d
    simp only [dsts]
    cases hd : o.dst with
    | none =>
      simp only
      rw [ih]
      constructor
      · rintro ⟨o', h1, h2⟩; exact ⟨o', List.mem_cons_of_mem _ h1, h2⟩
      · rintro ⟨o', h1, h2⟩
        rcases List.mem_cons.1 h1 with rfl | h1
        · rw [hd] at h2; simp at h2
        · exact ⟨o', h1, h2⟩
    | some d' =>
      simp only [List.mem_cons]
      rw [ih]
      constructor
      · rintro (rfl | ⟨o', h1, h2⟩)
        · exact ⟨o, .inl rfl, hd⟩
        · exact ⟨o', .inr h1, h2⟩
      · rintro ⟨o', h1 | h1, h2⟩
        · subst h1; rw [hd] at h2; exact .inl (Option.some.inj h2).symm
        · exact .inr ⟨o', h1, h2⟩
theorem apart_of : ∀ (l : List Oper) (ss : List Step), ss.map (·.o) = l → (dsts l).Nodup → Apart ss
  | l, [], _, _ => trivial
  | l, s :: ss, e, h => by
    subst e
    simp only [List.map_cons, dsts] at h
    refine ⟨fun x hx t ht hd => ?_, apart_of (ss.map (·.o)) ss rfl ?_⟩
    · rw [hx] at h
      simp only at h
      exact (List.nodup_cons.1 h).1 ((mem_dsts _ _).2 ⟨t.o, List.mem_map.2 ⟨t, ht, rfl⟩, hd⟩)
    · cases hd : s.o.dst with
      | none => rw [hd] at h; exact h
      | some d => rw [hd] at h; exact (List.nodup_cons.1 h).2
end Go.WL
namespace Go.WL

theorem apart_mem : ∀ {ss : List Step} {s : Step} {x : Nat} {k : Nat}, Apart ss → ss[k]? = some s → s.o.dst = some x → ∀ (i : Nat) (t : Step), ss[i]? = some t → t.o.dst = some x → i = k
  | [], s, x, k, _, h, _ => by simp at h
  | u :: ss, s, x, k, ha, hk, hd => by
    intro i t hi ht
    cases k with
    | zero =>
      simp only [List.getElem?_cons_zero, Option.some.injEq] at hk
      subst hk
      cases i with
      | zero => rfl
      | succ i => exact absurd ht (ha.1 x hd t (List.mem_of_getElem? (by simpa using hi)))
    | succ k =>
      cases i with
      | zero =>
        simp only [List.getElem?_cons_zero, Option.some.injEq] at hi
        subst hi
        exact absurd hd (ha.1 x ht s (List.mem_of_getElem? (by simpa using hk)))
      | succ i =>
        have := apart_mem (ss := ss) ha.2 (by simpa using hk) hd i t (by simpa using hi) ht
        omega
theorem lkS_hit {L : Nat → Bool} {x : Nat} : ∀ (ss : List Step) (j : Nat) (tm : List (Nat × AV)) (k : Nat) (s : Step), Apart ss → ss[k]? = some s → s.o.dst = some x → L (j + k) = true → lkS L ss j tm x = s.res
  | [], j, tm, k, s, _, h, _, _ => by simp at h
  | u :: ss, j, tm, k, s, ha, hk, hd, hL => by
    simp only [lkS]
    cases k with
    | zero =>
      simp only [List.getElem?_cons_zero, Option.some.injEq] at hk
      subst hk
      rw [Nat.add_zero] at hL
      rw [if_pos ⟨hd, hL⟩]
    | succ k =>
      have hk' : ss[k]? = some s := by simpa using hk
      rw [if_neg (fun h => ha.1 x h.1 s (List.mem_of_getElem? hk') hd)]
      refine lkS_hit ss (j + 1) tm k s ha.2 hk' hd ?_
      rw [show j + 1 + k = j + (k + 1) by omega]
      exact hL
/-- One step more is done. -/
theorem tmL_step {L L' : Nat → Bool} {ss : List Step} {tm : List (Nat × AV)} {k : Nat} {s : Step} (ha : Apart ss) (hk : ss[k]? = some s) (hL : L' k = true) (hne : ∀ i, i ≠ k → L' i = L i) (x : Nat) : lookV (s.next (tmL L ss 0 tm)) x = lookV (tmL L' ss 0 tm) x := by
  rw [lookV_next, lookV_tmL, lookV_tmL]
  by_cases e : s.o.dst = some x
  · rw [if_pos e, lkS_hit ss 0 tm k s ha hk e (by rw [Nat.zero_add]; exact hL)]
  · rw [if_neg e]
    refine lkS_congr ss 0 tm fun i t ht hd => ?_
    rw [Nat.zero_add]
    refine (hne i fun e' => ?_).symm
    subst e'
    rw [hk] at ht
    exact e (Option.some.inj ht ▸ hd)
theorem mL_congr {L L' : Nat → Bool} : ∀ (ss : List Step) (j : Nat) (m : Mem), (∀ (k : Nat) (s : Step), ss[k]? = some s → s.eff = true → L (j + k) = L' (j + k)) → mL L ss j m = mL L' ss j m
  | [], j, m, _ => rfl
  | s :: ss, j, m, h => by
    have e : (if L j = true ∧ s.eff = true then s.m1 else m) = if L' j = true ∧ s.eff = true then s.m1 else m := by
      cases he : s.eff with
      | false => simp
      | true =>
        have := h 0 s rfl he
        rw [Nat.add_zero] at this
        rw [this]
    simp only [mL]
    rw [e]
    refine mL_congr (L := L) (L' := L') ss (j + 1) _ fun k t ht he => ?_
    have := h (k + 1) t ht he
    have e2 : j + 1 + k = j + (k + 1) := by omega
    rw [e2]; exact this
/-- All effects ahead of a place are done, none behind: the memory is the text's there. -/
theorem mL_cut {L : Nat → Bool} {ss : List Step} {m : Mem} {p : Nat} (hc : Chain ss m) (hp : p ≤ ss.length) (h1 : ∀ (i : Nat) (s : Step), i < p → ss[i]? = some s → s.eff = true → L i = true) (h2 : ∀ (i : Nat) (s : Step), p ≤ i → ss[i]? = some s → s.eff = true → L i = false) : mL L ss 0 m = mAt ss m p := by
  obtain ⟨q, q1, q2, q3, q4⟩ := mL_at (L := L) ss 0 m hc fun i k s t hik hs ht e1 e2 hL => by
    rw [Nat.zero_add] at hL
    rw [Nat.zero_add]
    by_cases c : k < p
    · exact h1 i s (by omega) hs e1
    · rw [h2 k t (by omega) ht e2] at hL; simp at hL
  rw [q2]
  have none : ∀ (i : Nat) (s : Step), ss[i]? = some s → (p ≤ i ∧ i < q ∨ q ≤ i ∧ i < p) → s.eff = false := by
    intro i s hs hi
    cases he : s.eff with
    | false => rfl
    | true =>
      rcases hi with ⟨a, b⟩ | ⟨a, b⟩
      · have k1 := q3 i s b hs he
        have k2 := h2 i s a hs he
        rw [Nat.zero_add, k2] at k1
        simp at k1
      · have k1 := q4 i s a hs he
        have k2 := h1 i s b hs he
        rw [Nat.zero_add, k2] at k1
        simp at k1
  by_cases c : p ≤ q
  · exact (mAt_const ss m p q hc c q1 fun i s ha hb hs => none i s hs (.inl ⟨ha, hb⟩)).symm
  · exact mAt_const ss m q p hc (by omega) hp fun i s ha hb hs => none i s hs (.inr ⟨ha, hb⟩)
end Go.WL
namespace Go.WL

theorem chain_of {D : Tabs} {F : CallT} {nt : Nat} {all : List Oper} {tab : List (List Nat)} {x : Nat} {l : List Oper} {j : Nat} {log : List Ent} {tm tm' : List (Nat × AV)} {m m' : Mem} {ss : List Step} (h : Trace D F nt all tab x l j log tm m ss tm' m') : Chain ss m := by
  induction h with
  | nil => trivial
  | @run o l j log tm m v m1 ss tm' m' hg hok hs ht ih =>
    refine ⟨rfl, fun he => ?_, ih⟩
    have hq : quiet D.q o.op = true := by simpa using he
    have := hs.2
    simp only [hq] at this
    exact this.1
  | skip hg ht ih => exact ⟨rfl, fun _ => rfl, ih⟩
theorem Sim.same {D : Tabs} {B : Base} {E : Env} {nt : Nat} {tm tm' : List (Nat × AV)} {m : Mem} {tmps : Array Value} (h : Sim D B E ⟨nt, tm, m⟩ tmps) (he : ∀ x, lookV tm' x = lookV tm x) : Sim D B E ⟨nt, tm', m⟩ tmps :=
  ⟨h.sz, h.nx, h.m, h.fb, fun t v hv => h.tm t v (by rw [← he]; exact hv), h.shp⟩
/-- Nobody between turns what is read. -/
theorem free_same {e : Prop} {D : Tabs} {F : CallT} {nt j k : Nat} {s t : Step} (hs : s.run = true) (hq : quiet D.q s.o.op = true) (hte : t.eff = (t.run && !quiet D.q t.o.op)) (ht : t.eff = true) (hok : StepOK D F nt e t.o t.tm t.m t.v t.m1) (hf : freeE (entS D nt j s) (entS D nt k t) = true ∨ freeE (entS D nt k t) (entS D nt j s) = true) : ∀ id ∈ rdIds D s.tm s.o.op, Same t.m.bx t.m1.bx id := by
  have htq : quiet D.q t.o.op = false := by rw [hte] at ht; simp only [Bool.and_eq_true, Bool.not_eq_true'] at ht; exact ht.2
  have e1 : entS D nt j s = ⟨j, false, rdIds D s.tm s.o.op, 0⟩ := by unfold entS entOf; rw [hq]
  have e2 : entS D nt k t = ⟨k, true, touch D t.tm t.m.bx t.o.op, t.m.bx.length⟩ := by unfold entS entOf; rw [htq]
  have hf : apartB (rdIds D s.tm s.o.op) (touch D t.tm t.m.bx t.o.op) = true ∧ allLt t.m.bx.length (rdIds D s.tm s.o.op) = true := by
    rw [e1, e2] at hf
    simp only [freeE, Bool.and_eq_true] at hf
    exact hf.elim id id
  have hk := hok.2
  simp only [htq] at hk
  intro id hid
  have ap : ∀ (l m : List Nat), apartB l m = true → ∀ x ∈ l, x ∉ m := by
    intro l
    induction l with
    | nil => intro m _ x hx; simp at hx
    | cons y l ih =>
      intro m h x hx
      simp only [apartB, Bool.and_eq_true, Bool.not_eq_true'] at h
      rcases List.mem_cons.1 hx with rfl | hx
      · exact memb_not _ _ h.1
      · exact ih m h.2 x hx
  exact hk.1.2 id (allLt_of _ _ hf.2 id hid) (ap _ _ hf.1 id hid)
/-- What is behind lies ahead in the text. -/
theorem ancs_lt : ∀ (l : List Oper) (tab : List (List Nat)), backAll l tab.length = true → (∀ i, i < tab.length → ∀ y ∈ nthL tab i, y < i) → ∀ i, i < tab.length + l.length → ∀ y ∈ nthL (ancs l tab) i, y < i
  | [], tab, _, h2 => fun i hi y hy => h2 i (by simpa using hi) y hy
  | o :: l, tab, h1, h2 => by
    simp only [backAll, Bool.and_eq_true] at h1
    have hlen : (tab ++ [anc1 tab o.after.toList]).length = tab.length + 1 := by simp
    intro i hi y hy
    simp only [ancs] at hy
    refine ancs_lt l (tab ++ [anc1 tab o.after.toList]) (by rw [hlen]; exact h1.2) (fun i hi y hy => ?_) i (by rw [hlen]; simp only [List.length_cons] at hi; omega) y hy
    rw [hlen] at hi
    by_cases e : i < tab.length
    · rw [nthL_append e] at hy
      exact h2 i e y hy
    · have : i = tab.length := by omega
      subst this
      rw [nthL_last] at hy
      obtain ⟨ed, g1, g2, g3⟩ := mem_anc1.1 hy
      have hlt := backB1_of h1.1 ed g1 g2
      rcases g3 with rfl | g3
      · exact hlt
      · have := h2 _ hlt y g3; omega
end Go.WL
namespace Go.WL
section
variable {P : Program} {D : Tabs} {B : Base}

/-- What is fixed of a region: its text's run. -/
structure Reg (P : Program) (D : Tabs) (nt : Nat) (ops : Array Oper) (tm0 : List (Nat × AV)) (m0 : Mem) (ss : List Step) (x : Nat) : Prop where
  tr : ∃ tm' m', Trace D (FnOK P D) nt ops.toList (ancs ops.toList []) x ops.toList 0 [] tm0 m0 ss tm' m'
  back : backAll ops.toList 0 = true
  nodup : (dsts ops.toList).Nodup
  look : lookAll ops.toList (ancs ops.toList []) ops.toList 0 = true

theorem mAt_succ : ∀ (ss : List Step) (m : Mem) (k : Nat) (s : Step), ss[k]? = some s → mAt ss m (k + 1) = s.m1
  | [], m, k, s, h => by simp at h
  | t :: ss, m, 0, s, h => by
    simp only [List.getElem?_cons_zero, Option.some.injEq] at h
    subst h
    simp only [mAt]
    cases ss <;> rfl
  | t :: ss, m, k + 1, s, h => by
    simp only [mAt]
    exact mAt_succ ss t.m1 k s (by simpa using h)
theorem Reg.ops_eq {nt : Nat} {ops : Array Oper} {tm0 : List (Nat × AV)} {m0 : Mem} {ss : List Step} {xq : Nat} (R : Reg P D nt ops tm0 m0 ss xq) : ss.map (·.o) = ops.toList := by
  obtain ⟨tm', m', tr⟩ := R.tr
  have hl := (trace_len tr).1
  apply List.ext_getElem?
  intro i
  rw [List.getElem?_map]
  cases hs : ss[i]? with
  | none =>
    have := List.getElem?_eq_none_iff.1 hs
    rw [List.getElem?_eq_none (by omega)]
    rfl
  | some s => rw [(trace_at tr i s hs).1]; rfl
theorem Reg.agree {nt : Nat} {ops : Array Oper} {tm0 : List (Nat × AV)} {m0 : Mem} {ss : List Step} {xq : Nat} (R : Reg P D nt ops tm0 m0 ss xq) {L : Nat → Bool} {k : Nat} {s : Step}
    (hk : ss[k]? = some s) (hLk : L k = false) (hcl : ∀ i, i < ops.size → ∀ y ∈ nthL (ancs ops.toList []) i, L i = true → L y = true) (hpre : ∀ y ∈ nthL (ancs ops.toList []) k, L y = true) :
    ∀ x ∈ looks ops.toList s.o, lookV (tmL L ss 0 tm0) x = lookV s.tm x := by
  intro x hx
  obtain ⟨tm', m', tr⟩ := R.tr
  have hl := (trace_len tr).1
  have hkl : k < ss.length := (List.getElem?_eq_some_iff.1 hk).1
  obtain ⟨h1, _, _, _, h5, _⟩ := trace_at tr k s hk
  have hap := apart_of _ ss R.ops_eq R.nodup
  rw [h5, lookV_tmAt ss 0 tm0 k x hap (by omega), lookV_tmL]
  refine lkS_congr (L := L) ss 0 tm0 fun i t ht hd => ?_
  obtain ⟨g1, _⟩ := trace_at tr i t ht
  have hil : i < ss.length := (List.getElem?_eq_some_iff.1 ht).1
  have hlk := lookAll_of ops.toList 0 R.look k s.o h1
  have := lookOne_of ops.toList 0 hlk i t.o x g1 hd hx
  simp only [Nat.zero_add] at this ⊢
  have lt := ancs_lt ops.toList [] R.back (fun i hi => by simp at hi)
  have hsz : ops.toList.length = ops.size := by simp
  rcases this.2 with hm | hm
  · have := lt k (by simp; omega) i hm
    rw [hpre i hm]
    simp [this]
  · have h6 := lt i (by simp; omega) k hm
    have : L i = false := by
      cases hL : L i with
      | false => rfl
      | true => rw [hcl i (by omega) k hm hL] at hLk; simp at hLk
    rw [this]
    simp
    omega
theorem Reg.step {nt : Nat} {ops : Array Oper} {tm0 : List (Nat × AV)} {m0 : Mem} {ss : List Step} {xq : Nat} (R : Reg P D nt ops tm0 m0 ss xq) (hT : TabOK P D) {L L' : Nat → Bool} {k : Nat} {s : Step} {E : Env} {a : Act} {next : Act → World → Prop} {Q : Exit → Act → World → Prop}
    (hxq : k ≠ xq) (hk : ss[k]? = some s) (hLk : L k = false) (hL' : L' k = true) (hne : ∀ i, i ≠ k → L' i = L i)
    (hcl : ∀ i, i < ops.size → ∀ y ∈ nthL (ancs ops.toList []) i, L i = true → L y = true) (hpre : ∀ y ∈ nthL (ancs ops.toList []) k, L y = true)
    (h : Sim D B E ⟨nt, tmL L ss 0 tm0, mL L ss 0 m0⟩ a.tmps)
    (hn : ∀ E' a', Sim D B E' ⟨nt, tmL L' ss 0 tm0, mL L' ss 0 m0⟩ a'.tmps → a'.defers = a.defers → next a' E'.w) :
    if Region.wanted s.o (yielded ops a.tmps) then s.o.wp P a E.w next Q else next (a.put s.o.dst undef) E.w := by
  obtain ⟨tm', m', tr⟩ := R.tr
  obtain ⟨h1, hg, hs, hskip, h5, h6, _, h8⟩ := trace_at tr k s hk
  have hag := R.agree hk hLk hcl hpre
  have hap := apart_of _ ss R.ops_eq R.nodup
  have hw : Region.wanted s.o (yielded ops a.tmps) = s.run := by
    unfold GuardOK at hg
    unfold Region.wanted
    cases hgd : s.o.guard with
    | none => rw [hgd] at hg; simp only at hg ⊢; exact hg.symm
    | some iw =>
      obtain ⟨i, want⟩ := iw
      rw [hgd] at hg
      simp only at hg ⊢
      obtain ⟨t, g1, hg⟩ := hg
      rcases hg with ⟨b, g2, g3⟩ | ⟨g2, g3⟩
      · have hl : lookV (tmL L ss 0 tm0) t = some (.sc (.bool b)) := by
          rw [hag t (by simp only [looks, hgd, g1]; simp), g2]
        obtain ⟨hr, _⟩ := rep_sc.1 (h.tm t _ hl)
        rw [yielded_of g1 hr, g3]
        cases b <;> cases want <;> rfl
      · have hl : lookV (tmL L ss 0 tm0) t = some (.tup []) := by
          rw [hag t (by simp only [looks, hgd, g1]; simp), g2]
        rw [yielded_none g1 (rep_tup0 (h.tm t _ hl)), g3]
        rfl
  rw [hw]
  have htm := tmL_step (tm := tm0) hap hk hL' hne
  have hc := chain_of tr
  have hagO : Agree s.tm (tmL L ss 0 tm0) (opnds s.o.op) := fun x hx => hag x (by
    unfold looks
    split
    · exact hx
    · split
      · exact List.mem_cons_of_mem _ hx
      · exact hx)
  have hsame : s.eff = false → mL L' ss 0 m0 = mL L ss 0 m0 := fun he => mL_congr ss 0 m0 fun i t ht hte => by
    rw [Nat.zero_add]
    refine hne i fun e => ?_
    subst e
    rw [hk] at ht
    rw [← Option.some.inj ht, he] at hte
    simp at hte
  cases hr : s.run with
  | false =>
    simp only [Bool.false_eq_true, if_false]
    refine hn E _ ?_ (Act.put_defers _ _ _)
    have hd := h.drop (d := s.o.dst)
    have e : AS.drop ⟨nt, tmL L ss 0 tm0, mL L ss 0 m0⟩ s.o.dst = ⟨nt, s.next (tmL L ss 0 tm0), mL L ss 0 m0⟩ := by
      unfold Step.next
      rw [hr]
      cases s.o.dst <;> rfl
    rw [e] at hd
    rw [hsame (by rw [h8]; simp [hr])]
    exact hd.same fun x => (htm x).symm
  | true =>
    simp only [if_true]
    obtain ⟨hlt, hstep⟩ := hs hr
    have hl0 := (trace_len tr).1
    have hsz : ops.toList.length = ops.size := by simp
    have two : ∀ (i i2 : Nat) (s1 s2 : Step), i < i2 → ss[i]? = some s1 → ss[i2]? = some s2 → s1.eff = true → s2.eff = true → i ∈ nthL (ancs ops.toList []) i2 := by
      intro i i2 s1 s2 hlt2 k1 k2 f1 f2
      rw [(trace_at tr i s1 k1).2.2.2.2.2.2.2] at f1
      rw [(trace_at tr i2 s2 k2).2.2.2.2.2.2.2] at f2
      simp only [Bool.and_eq_true, Bool.not_eq_true'] at f1 f2
      have := trace_two tr i i2 s1 s2 hlt2 k1 k2 f1.1 f2.1
      simp only [Nat.zero_add] at this
      refine this.resolve_right fun hf => ?_
      unfold entS entOf at hf
      rw [f1.2, f2.2] at hf
      simp [freeE] at hf
    cases hq : quiet D.q s.o.op with
    | true =>
      simp only [hq] at hstep
      obtain ⟨e1, h2⟩ := hstep
      have heff : s.eff = false := by rw [h8]; simp [hq]
      have hmem : ∀ id ∈ rdIds D s.tm s.o.op, Same s.m.bx (mL L ss 0 m0).bx id := by
        intro id hid
        obtain ⟨p, p1, p2, p3, p4⟩ := mL_at (L := L) ss 0 m0 hc fun i i2 s1 s2 hlt2 k1 k2 f1 f2 hL => by
          rw [Nat.zero_add] at hL
          rw [Nat.zero_add]
          have := (List.getElem?_eq_some_iff.1 k2).1
          exact hcl i2 (by omega) i (two i i2 s1 s2 hlt2 k1 k2 f1 f2) hL
        simp only [Nat.zero_add] at p3 p4
        rw [p2, h6]
        by_cases c : k ≤ p
        · refine mAt_same ss m0 k p hc c fun i t hki hip ht he => ?_
          have hik : i ≠ k := fun e => by subst e; rw [hk] at ht; rw [← Option.some.inj ht, heff] at he; simp at he
          have hte := (trace_at tr i t ht).2.2.2.2.2.2.2
          have htr : t.run = true := by rw [hte] at he; simp only [Bool.and_eq_true] at he; exact he.1
          have := trace_two tr k i s t (by omega) hk ht hr htr
          simp only [Nat.zero_add] at this
          have hil := (List.getElem?_eq_some_iff.1 ht).1
          refine free_same (j := k) (k := i) hr hq hte he ((trace_at tr i t ht).2.2.1 htr) (.inr (this.resolve_left fun hm => ?_)) id hid
          rw [hcl i (by omega) k hm (p3 i t hip ht he)] at hLk
          simp at hLk
        · refine (mAt_same ss m0 p k hc (by omega) fun i t hpi hik ht he => ?_).symm
          have hte := (trace_at tr i t ht).2.2.2.2.2.2.2
          have htr : t.run = true := by rw [hte] at he; simp only [Bool.and_eq_true] at he; exact he.1
          have := trace_two tr i k t s hik ht hk htr hr
          simp only [Nat.zero_add] at this
          refine free_same (j := k) (k := i) hr hq hte he ((trace_at tr i t ht).2.2.1 htr) (.inl (this.resolve_left fun hm => ?_)) id hid
          have := p4 i t hpi ht he
          rw [hpre i hm] at this
          simp at this
      have hfin : ∀ K' : AS → Prop, K' ⟨nt, putl s.o.dst s.v (tmL L ss 0 tm0), mL L ss 0 m0⟩ → wOpD D (FnOK P D) s.o ⟨nt, tmL L ss 0 tm0, mL L ss 0 m0⟩ K' := by
        intro K' hK
        exact h2 _ _ _ _ hagO hmem K' hK
      refine wOp_ok hT h (wOpD_wOp (hfin (fun σ => σ = ⟨nt, putl s.o.dst s.v (tmL L ss 0 tm0), mL L ss 0 m0⟩) rfl)) fun E' σ' a' h' hd' hK => ?_
      subst hK
      refine hn E' a' ?_ hd'
      rw [hsame heff]
      refine h'.same fun x => ?_
      rw [← htm x]
      unfold Step.next
      rw [hr]
    | false =>
      simp only [hq] at hstep
      obtain ⟨_, h2⟩ := hstep
      have h2 := h2.resolve_left (by omega)
      have heff : s.eff = true := by rw [h8]; simp [hq, hr]
      have hkl : k < ss.length := (List.getElem?_eq_some_iff.1 hk).1
      have hl := (trace_len tr).1
      have lo : ∀ (i : Nat) (t : Step), i < k → ss[i]? = some t → t.eff = true → L i = true := fun i t hi ht he => hpre i (two i k t s hi ht hk he heff)
      have hi : ∀ (i : Nat) (t : Step), k < i → ss[i]? = some t → t.eff = true → L i = false := by
        intro i t hki ht he
        cases hL : L i with
        | false => rfl
        | true =>
          have hil := (List.getElem?_eq_some_iff.1 ht).1
          have : ops.toList.length = ops.size := by simp
          rw [hcl i (by omega) k (two k i s t hki hk ht heff he) hL] at hLk
          simp at hLk
      have e1 : mL L ss 0 m0 = s.m := by
        rw [h6]
        refine mL_cut hc (by omega) lo fun i t hi2 ht he => ?_
        by_cases e : i = k
        · rw [e]; exact hLk
        · exact hi i t (by omega) ht he
      have e2 : mL L' ss 0 m0 = s.m1 := by
        have : mAt ss m0 (k + 1) = s.m1 := mAt_succ ss m0 k s hk
        rw [← this]
        refine mL_cut hc (by omega) (fun i t hi2 ht he => ?_) fun i t hi2 ht he => ?_
        · by_cases e : i = k
          · rw [e]; exact hL'
          · rw [hne i e]; exact lo i t (by omega) ht he
        · rw [hne i (by omega)]; exact hi i t (by omega) ht he
      rw [e1] at h
      have hfin : ∀ K' : AS → Prop, K' ⟨nt, putl s.o.dst s.v (tmL L ss 0 tm0), s.m1⟩ → wOpD D (FnOK P D) s.o ⟨nt, tmL L ss 0 tm0, s.m⟩ K' := fun K' hK => h2 _ hagO K' hK
      refine wOp_ok hT h (wOpD_wOp (hfin (fun σ => σ = ⟨nt, putl s.o.dst s.v (tmL L ss 0 tm0), s.m1⟩) rfl)) fun E' σ' a' h' hd' hK => ?_
      subst hK
      refine hn E' a' ?_ hd'
      rw [e2]
      refine h'.same fun x => ?_
      rw [← htm x]
      unfold Step.next
      rw [hr]
end
end Go.WL
namespace Go.WL
section
variable {P : Program} {D : Tabs} {B : Base}
theorem tmL_all {L : Nat → Bool} {ss : List Step} {tm : List (Nat × AV)} (ha : Apart ss) (h : ∀ i, i < ss.length → L i = true) (x : Nat) : lookV (tmL L ss 0 tm) x = lookV (tmAt ss tm ss.length) x := by
  rw [lookV_tmL, lookV_tmAt ss 0 tm ss.length x ha (Nat.le_refl _)]
  refine lkS_congr (L := L) ss 0 tm fun i t ht _ => ?_
  have hi := (List.getElem?_eq_some_iff.1 ht).1
  rw [Nat.zero_add, h i hi]
  simp [hi]
theorem mL_all {L : Nat → Bool} {ss : List Step} {m : Mem} (hc : Chain ss m) (h : ∀ i, i < ss.length → L i = true) : mL L ss 0 m = mAt ss m ss.length :=
  mL_cut hc (Nat.le_refl _) (fun i _ hi _ _ => h i hi) (fun i s hi hs _ => by have := (List.getElem?_eq_some_iff.1 hs).1; omega)
theorem binds_eq (e : Edge) : Region.binds .any e = bindsB e := by
  obtain ⟨on, g⟩ := e
  cases g <;> rfl
/-- While something is not done, something is ready. -/
theorem ready_some {ops : Array Oper} {listed : Array Bool} (hsz : listed.size = ops.size) (hb : backAll ops.toList 0 = true) (h : ∃ i, i < ops.size ∧ listed.getD i false = false) : Region.ready .any ops listed ≠ [] := by
  have least : ∀ n, (∃ i, i < ops.size ∧ i < n ∧ listed.getD i false = false) → ∃ i, i < ops.size ∧ listed.getD i false = false ∧ ∀ k, k < i → listed.getD k false = true := by
    intro n
    induction n with
    | zero => rintro ⟨i, _, h, _⟩; omega
    | succ n ih =>
      rintro ⟨i, h1, h2, h3⟩
      by_cases c : ∃ i, i < ops.size ∧ i < n ∧ listed.getD i false = false
      · exact ih c
      · refine ⟨i, h1, h3, fun k hk => ?_⟩
        cases hL : listed.getD k false with
        | true => rfl
        | false => exact absurd ⟨k, by omega, by omega, hL⟩ c
  obtain ⟨i0, g1, g2⟩ := h
  obtain ⟨i, h1, h2, h3⟩ := least (i0 + 1) ⟨i0, g1, by omega, g2⟩
  have bk : ∀ (l : List Oper) (j k : Nat) (o : Oper), backAll l j = true → l[k]? = some o → backB1 (j + k) o.after.toList = true := by
    intro l
    induction l with
    | nil => intro j k o _ h; simp at h
    | cons x l ih =>
      intro j k o h hk
      simp only [backAll, Bool.and_eq_true] at h
      cases k with
      | zero => simp at hk; subst hk; exact h.1
      | succ k => have := ih (j + 1) k o h.2 (by simpa using hk); rwa [show j + 1 + k = j + (k + 1) by omega] at this
  intro he
  have hm : i ∈ Region.ready .any ops listed := by
    have ho : ops[i]? = some ops[i] := Array.getElem?_eq_getElem h1
    have hbk := bk ops.toList 0 i ops[i] hb (by rw [Array.getElem?_toList]; exact ho)
    rw [Nat.zero_add] at hbk
    unfold Region.ready
    refine List.mem_filter.2 ⟨List.mem_range.2 h1, ?_⟩
    have hd : listed.getD i true = false := by
      rw [Array.getD_eq_getD_getElem?, Array.getElem?_eq_getElem (by omega)] at h2 ⊢
      exact h2
    rw [hd, ho]
    simp only [Bool.not_false, Option.map_some, Option.getD_some, Bool.true_and]
    rw [Array.all_eq_true_iff_forall_mem]
    intro e he
    rw [binds_eq]
    cases hbe : bindsB e with
    | false => rfl
    | true => rw [h3 e.on (backB1_of hbk e (by simpa using he) hbe)]; rfl
  rw [he] at hm
  simp at hm
/-- How many are not done. -/
def undone (listed : Array Bool) : Nat := listed.toList.countP (fun b => !b)
theorem undone_zero {listed : Array Bool} (h : undone listed = 0) (i : Nat) (hi : i < listed.size) : listed.getD i false = true := by
  have := List.countP_eq_zero.1 h listed[i] (by simp)
  rw [Array.getD_eq_getD_getElem?, Array.getElem?_eq_getElem hi]
  simpa using this
end
end Go.WL
namespace Go.WL
section
variable {P : Program} {D : Tabs} {B : Base}
theorem undone_set {listed : Array Bool} {i : Nat} (hi : i < listed.size) (h : listed.getD i false = false) : undone (listed.setIfInBounds i true) + 1 = undone listed := by
  unfold undone
  rw [Array.toList_setIfInBounds]
  rw [Array.getD_eq_getD_getElem?, Array.getElem?_eq_getElem hi] at h
  simp only [Option.getD_some] at h
  have key : ∀ (l : List Bool) (i : Nat), l[i]? = some false → (l.set i true).countP (fun b => !b) + 1 = l.countP (fun b => !b) := by
    intro l
    induction l with
    | nil => intro i h; simp at h
    | cons b l ih =>
      intro i h
      cases i with
      | zero => simp at h; subst h; simp
      | succ i =>
        have := ih i (by simpa using h)
        simp only [List.set_cons_succ, List.countP_cons]
        omega
  exact key listed.toList i (by rw [Array.getElem?_toList, Array.getElem?_eq_getElem hi, h])
theorem Reg.any {nt : Nat} {ops : Array Oper} {tm0 : List (Nat × AV)} {m0 : Mem} {ss : List Step} {xq : Nat} (R : Reg P D nt ops tm0 m0 ss xq) (hT : TabOK P D) {Q : Exit → Act → World → Prop} {ds : List Deferred}
    (hQ : ∀ E' a', Sim D B E' ⟨nt, tmAt ss tm0 ss.length, mAt ss m0 ss.length⟩ a'.tmps → a'.defers = ds → Q .normal a' E'.w) :
    ∀ (n : Nat) (listed : Array Bool) (E : Env) (a : Act), listed.size = ops.size → (xq < ops.size → listed.getD xq false = true) → undone listed = n → (∀ (i : Nat) (o : Oper), ops[i]? = some o → listed.getD i false = true → ∀ e ∈ o.after.toList, bindsB e = true → listed.getD e.on false = true) →
      Sim D B E ⟨nt, tmL (fun i => listed.getD i false) ss 0 tm0, mL (fun i => listed.getD i false) ss 0 m0⟩ a.tmps → a.defers = ds → wpAny P .any ops Q n listed a E.w := by
  have hlen : ss.length = ops.size := by
    have := congrArg List.length R.ops_eq
    simpa using this
  obtain ⟨tm', m', tr⟩ := R.tr
  have hap := apart_of _ ss R.ops_eq R.nodup
  have hc := chain_of tr
  have done : ∀ (listed : Array Bool) (E : Env) (a : Act), listed.size = ops.size → (∀ i, i < ops.size → listed.getD i false = true) →
      Sim D B E ⟨nt, tmL (fun i => listed.getD i false) ss 0 tm0, mL (fun i => listed.getD i false) ss 0 m0⟩ a.tmps → a.defers = ds → Q .normal a E.w := by
    intro listed E a hs hall h hd
    rw [mL_all hc (fun i hi => hall i (by omega))] at h
    exact hQ E a (h.same fun x => (tmL_all hap (fun i hi => hall i (by omega)) x).symm) hd
  have allOf : ∀ (listed : Array Bool), listed.size = ops.size → Region.ready .any ops listed = [] → ∀ i, i < ops.size → listed.getD i false = true := by
    intro listed hs hr i hi
    cases hL : listed.getD i false with
    | true => rfl
    | false => exact absurd hr (ready_some hs R.back ⟨i, hi, hL⟩)
  intro n
  induction n with
  | zero =>
    intro listed E a hs hxl hu hcl h hd
    have hall : ∀ i, i < ops.size → listed.getD i false = true := fun i hi => undone_zero hu i (by omega)
    refine ⟨?_, done listed E a hs hall h hd⟩
    unfold Region.ready
    rw [List.filter_eq_nil_iff]
    intro i hi
    have hi := List.mem_range.1 hi
    have := hall i hi
    rw [Array.getD_eq_getD_getElem?, Array.getElem?_eq_getElem (by omega)] at this
    have e : listed.getD i true = true := by
      rw [Array.getD_eq_getD_getElem?, Array.getElem?_eq_getElem (by omega)]
      exact this
    rw [e]
    simp
  | succ n ih =>
    intro listed E a hs hxl hu hcl h hd
    refine ⟨fun hr => done listed E a hs (allOf listed hs hr) h hd, fun i hi => ?_⟩
    unfold Region.ready at hi
    obtain ⟨hi1, hi2⟩ := List.mem_filter.1 hi
    have hi1 := List.mem_range.1 hi1
    simp only [Bool.and_eq_true, Bool.not_eq_true'] at hi2
    obtain ⟨hi2, hi3⟩ := hi2
    have hLi : listed.getD i false = false := by
      rw [Array.getD_eq_getD_getElem?, Array.getElem?_eq_getElem (by omega)] at hi2 ⊢
      exact hi2
    have ho : ops[i]? = some ops[i] := Array.getElem?_eq_getElem hi1
    rw [ho] at hi3
    simp only [Option.map_some, Option.getD_some] at hi3
    rw [Array.all_eq_true_iff_forall_mem] at hi3
    have hedge : ∀ e ∈ ops[i].after.toList, bindsB e = true → listed.getD e.on false = true := by
      intro e he hb
      have := hi3 e (by simpa using he)
      rw [binds_eq, hb] at this
      simpa using this
    have hss : i < ss.length := by omega
    have hk : ss[i]? = some ss[i] := List.getElem?_eq_getElem hss
    have hso : ss[i].o = ops[i] := by
      have := (trace_at tr i ss[i] hk).1
      rw [Array.getElem?_toList, ho] at this
      exact (Option.some.inj this).symm
    have hset : ∀ k, k ≠ i → (listed.setIfInBounds i true).getD k false = listed.getD k false := by
      intro k hk
      rw [Array.getD_eq_getD_getElem?, Array.getD_eq_getD_getElem?, Array.getElem?_setIfInBounds_ne (Ne.symm hk)]
    have hseti : (listed.setIfInBounds i true).getD i false = true := by
      rw [Array.getD_eq_getD_getElem?, Array.getElem?_setIfInBounds_self_of_lt (by omega)]
      rfl
    have hclA : ∀ (L : Nat → Bool), (∀ (k : Nat) (o : Oper), ops[k]? = some o → L k = true → ∀ e ∈ o.after.toList, bindsB e = true → L e.on = true) → ∀ k, k < ops.size → ∀ y ∈ nthL (ancs ops.toList []) k, L k = true → L y = true := by
      intro L hL k hk y hy hLk
      refine ancs_closed (L := L) ops.toList [] R.back (fun i hi => by simp at hi) (fun k o ho hLk => ?_) k (by simpa using hk) y hy hLk
      simp only [List.length_nil, Nat.zero_add] at hLk
      exact hL k o (by simpa using ho) hLk
    have hcl' : ∀ (k : Nat) (o : Oper), ops[k]? = some o → (listed.setIfInBounds i true).getD k false = true → ∀ e ∈ o.after.toList, bindsB e = true → (listed.setIfInBounds i true).getD e.on false = true := by
      intro k o hko hL e he hb
      by_cases c : e.on = i
      · rw [c]; exact hseti
      · rw [hset _ c]
        by_cases c2 : k = i
        · subst c2
          rw [ho] at hko
          exact hedge e (Option.some.inj hko ▸ he) hb
        · rw [hset _ c2] at hL
          exact hcl k o hko hL e he hb
    have hpre : ∀ y ∈ nthL (ancs ops.toList []) i, listed.getD y false = true := by
      intro y hy
      have lt := ancs_lt ops.toList [] R.back (fun i hi => by simp at hi) i (by simpa using hi1) y hy
      have := hclA (fun k => (listed.setIfInBounds i true).getD k false) hcl' i hi1 y hy hseti
      rwa [hset y (by omega)] at this
    have hix : i ≠ xq := fun e => by rw [e] at hLi hi1; rw [hxl hi1] at hLi; simp at hLi
    have := R.step hT hix (L := fun k => listed.getD k false) (L' := fun k => (listed.setIfInBounds i true).getD k false) (Q := Q) (next := wpAny P .any ops Q n (listed.setIfInBounds i true)) hk hLi hseti hset (hclA _ hcl) hpre h fun E' a' h' hd' =>
      ih _ E' a' (by simpa using hs) (fun hq => by rw [hset xq (Ne.symm hix)]; exact hxl hq) (by have := undone_set (by omega : i < listed.size) hLi; omega) hcl' h' (hd'.trans hd)
    unfold wpOp
    rw [ho]
    rw [hso] at this
    simp only
    split at this
    · rename_i hw; rw [if_pos hw]; exact .inl this
    · rename_i hw; rw [if_neg hw]; exact this
end
end Go.WL
namespace Go.WL
/-- Outcomes of which each may come; told alike whatever the other slots say. -/
def NdP (Φ : Mem → Prop) (nt : Nat) (d : Option Nat) (f : List (Nat × AV) → (AS → Prop) → Prop) : Prop :=
  ∀ tm K, f tm K → (∃ v m1, Φ m1 ∧ AS.put ⟨nt, tm, m1⟩ d v K) ∧ ∀ tm', f tm' fun σ' => ∃ v m1, Φ m1 ∧ AS.put ⟨nt, tm, m1⟩ d v K ∧ σ' = ⟨nt, putl d v tm', m1⟩
section
variable {Φ : Mem → Prop} {nt : Nat} {d : Option Nat}
theorem NdP.no : NdP Φ nt d fun _ _ => False := fun _ _ h => h.elim
theorem NdP.of {f : List (Nat × AV) → (AS → Prop) → Prop} (h : DetP Φ nt d f) : NdP Φ nt d f := by
  intro tm K hf
  obtain ⟨v, m1, hm, h3, h4⟩ := h tm K hf
  exact ⟨⟨v, m1, hm, h3⟩, fun tm' => h4 tm' _ (put_iff.2 ⟨(put_iff.1 h3).1, v, m1, hm, h3, rfl⟩)⟩
theorem NdP.bind {α : Type} {g : (α → Prop) → Prop} {f : α → List (Nat × AV) → (AS → Prop) → Prop} (hg : Det g) (hf : ∀ x, NdP Φ nt d (f x)) : NdP Φ nt d fun tm K => g fun x => f x tm K := by
  intro tm K h
  obtain ⟨x, h1, h2⟩ := hg _ h
  obtain ⟨k1, k2⟩ := hf x tm K h1
  exact ⟨k1, fun tm' => h2 _ (k2 tm')⟩
theorem NdP.and {p : Prop} {f : List (Nat × AV) → (AS → Prop) → Prop} (hf : NdP Φ nt d f) : NdP Φ nt d fun tm K => p ∧ f tm K := by
  intro tm K h
  obtain ⟨k1, k2⟩ := hf tm K h.2
  exact ⟨k1, fun tm' => ⟨h.1, k2 tm'⟩⟩
theorem NdP.branch {b : Bool} {f g : List (Nat × AV) → (AS → Prop) → Prop} (hf : NdP Φ nt d f) (hg : NdP Φ nt d g) : NdP Φ nt d fun tm K => Branch b (f tm K) (g tm K) := by
  cases b
  · exact hg
  · exact hf
theorem NdP.ifT {b : Bool} {f : List (Nat × AV) → (AS → Prop) → Prop} (h : NdP Φ nt d f) : NdP Φ nt d fun tm K => match (generalizing := false) b with | true => f tm K | false => False := by
  cases b
  · exact NdP.no
  · exact h
theorem NdP.ifF {b : Bool} {f : List (Nat × AV) → (AS → Prop) → Prop} (h : NdP Φ nt d f) : NdP Φ nt d fun tm K => match (generalizing := false) b with | false => False | true => f tm K := by
  cases b
  · exact NdP.no
  · exact h
theorem NdP.elem {D : Tabs} {t : Nat} {f : Nat → Shape → Nat → List (Nat × AV) → (AS → Prop) → Prop} (h : ∀ e s b, NdP Φ nt d (f e s b)) : NdP Φ nt d fun tm K => elemSh D t fun e s b => f e s b tm K := by
  unfold elemSh
  cases lookT D.ty t with
  | none => exact NdP.no
  | some i =>
    obtain ⟨k, sh, b, z⟩ := i
    cases k with
    | slice e =>
      cases h2 : lookT D.ty e with
      | none => simpa only [h2] using NdP.no
      | some j => obtain ⟨k2, sh2, b2, z2⟩ := j; simpa only [h2] using h e sh2 b2
    | _ => exact NdP.no
theorem NdP.read {bx : List (AV × Bool)} {v : AV} {f : Shape → List AV → List (Nat × AV) → (AS → Prop) → Prop} (h : ∀ s xs, NdP Φ nt d (f s xs)) : NdP Φ nt d fun tm K => readS bx v fun s xs => f s xs tm K := by
  have := det_readS (bx := bx) (v := v) (g := fun s xs (K : Shape × List AV → Prop) => K (s, xs)) fun s xs => Det.pure (s, xs)
  exact NdP.bind (f := fun p => f p.1 p.2) this fun p => h p.1 p.2
theorem NdP.src {D : Tabs} {bx : List (AV × Bool)} {t2 e : Nat} {sh : Shape} {x : AV} {f : List AV → List (Nat × AV) → (AS → Prop) → Prop} (h : ∀ ys, NdP Φ nt d (f ys)) : NdP Φ nt d fun tm K => srcK D bx t2 e sh x fun ys => f ys tm K := by
  unfold srcK
  cases lookT D.ty t2 with
  | none => exact NdP.no
  | some i =>
    obtain ⟨k, s2, b2, z⟩ := i
    cases k with
    | str =>
      cases x with
      | sc c =>
        cases c with
        | string b => exact NdP.ifT (h _)
        | _ => exact NdP.no
      | _ => exact NdP.no
    | slice e2 => exact NdP.read fun s3 ys => NdP.ifT (h _)
    | int k =>
      cases x with
      | sc c =>
        cases c with
        | int k2 n =>
          cases h' : lookT D.ty e with
          | none => exact NdP.no
          | some j => obtain ⟨k3, s3, b3, z3⟩ := j; exact NdP.and (NdP.and (h _))
        | _ => exact NdP.no
      | _ => exact NdP.no
    | _ => exact NdP.no
theorem ndP_appNew (bx : List (AV × Bool)) (lv : List Nat) (nx : Nat) (sh : Shape) (n : Nat) (xs ys : List AV) (z : AV) (hΦ : ∀ c, Φ ⟨bx ++ [c], lv, nx⟩) : NdP Φ nt d fun tm K => appNew nt tm bx lv nx d sh n xs ys z K := by
  intro tm K h
  have one : ∀ cap : Nat, NdP Φ nt d fun tm K => litK bx.length fun id => forceB (bx ++ [(.ar cap sh (xs ++ ys ++ List.replicate (cap - (n + ys.length)) z), false)]) fun bx' => AS.put ⟨nt, tm, ⟨bx', lv, nx⟩⟩ d (.bs id [] sh 0 (n + ys.length) cap) K :=
    fun cap => NdP.of (DetP.bind (det_litK _) fun id => DetP.at (at_forceB _) (DetP.put _ _ (hΦ _)))
  refine ⟨(one _ tm K (h.2 (n + ys.length) (Nat.le_refl _))).1, fun tm' => ⟨h.1, fun cap hc => (one cap tm K (h.2 cap hc)).2 tm'⟩⟩
theorem ndP_wAppB (D : Tabs) (bx : List (AV × Bool)) (lv : List Nat) (nx t t2 : Nat) (s x : AV) (hΦ0 : Φ ⟨bx, lv, nx⟩) (hΦ : ∀ c, Φ ⟨bx ++ [c], lv, nx⟩) (hΦ2 : ∀ id ∈ s.ids, ∀ c, Φ ⟨bx.set id (c, false), lv, nx⟩) : NdP Φ nt d fun tm K => wAppB D ⟨nt, tm, ⟨bx, lv, nx⟩⟩ d t t2 s x K := by
  refine NdP.elem fun e sh by_ => NdP.ifF ?_
  cases lookT D.ty e with
  | none => exact NdP.no
  | some i =>
    obtain ⟨k, sh2, b2, z⟩ := i
    cases s with
    | sl sh' xs m =>
      cases m with
      | ex => exact NdP.ifF (NdP.src fun ys => NdP.branch (ndP_appNew _ _ _ _ _ _ _ _ hΦ) (NdP.of (DetP.put _ _ hΦ0)))
      | _ => exact NdP.no
    | bs id p sh' off len cap =>
      exact NdP.ifF (NdP.src fun ys => NdP.branch (NdP.of (detP_lay _ _ _ _ _ _ _ _ (hΦ2 id (by simp [AV.ids])))) (NdP.read fun s2 xs => NdP.ifT (ndP_appNew _ _ _ _ _ _ _ _ hΦ)))
    | _ => exact NdP.no
end
section
variable {nt : Nat} {d : Option Nat} {F : CallT}
theorem NdP.at {Φ : Mem → Prop} {α : Type} {g : (α → Prop) → Prop} {x : α} {f : α → List (Nat × AV) → (AS → Prop) → Prop} (hg : DetAt x g) (hf : NdP Φ nt d (f x)) : NdP Φ nt d fun tm K => g fun x => f x tm K := by
  intro tm K h
  obtain ⟨h1, h2⟩ := hg _ h
  obtain ⟨k1, k2⟩ := hf tm K h1
  exact ⟨k1, fun tm' => h2 _ (k2 tm')⟩
theorem NdP.outs {Φ : Mem → Prop} {f : Nat} {as cs : List AV} {g : AV → List AV → List (Nat × AV) → (AS → Prop) → Prop} (h : ∀ r st, NdP Φ nt d (g r st)) : NdP Φ nt d fun tm K => ∃ Q : AV → List AV → Prop, F f as cs Q ∧ (∃ r st, Q r st) ∧ ∀ r st, Q r st → g r st tm K := by
  rintro tm K ⟨Q, hF, ⟨r0, st0, h0⟩, hall⟩
  exact ⟨(h r0 st0 tm K (hall r0 st0 h0)).1, fun tm' => ⟨Q, hF, ⟨r0, st0, h0⟩, fun r st hq => (h r st tm K (hall r st hq)).2 tm'⟩⟩
theorem ndP_callX (bx : List (AV × Bool)) (lv : List Nat) (nx f : Nat) (as args : List AV) (hi : ∀ i ∈ AV.idss as, i ∈ AV.idss args) : NdP (Keeps bx (reach bx (AV.idss args))) nt d fun tm K => callRestX F nt tm bx lv nx d f as K := by
  unfold callRestX
  cases AV.pures as with
  | true =>
    refine NdP.outs fun r0 st0 => NdP.of (detP_back0 _ _ _ _ _ fun ys lv nx => ⟨by simp, fun id hid _ => ?_⟩)
    simp only [Same, List.getElem?_append_left (show id < bx.length from hid)]
  | false =>
    dsimp only
    cases hc0 : contents bx (dedup [] (AV.idss as)) with
    | none => exact NdP.no
    | some c0 =>
      dsimp only
      refine NdP.at (at_litsK _) ?_
      cases contents bx (more bx (dedup [] (dedup [] (AV.idss as) ++ AV.idss c0))) with
      | none => exact NdP.no
      | some cs =>
        dsimp only
        refine NdP.bind (det_litsK _) fun rows => NdP.ifF (NdP.bind (det_rensK _ _ _) fun as' => NdP.bind (det_rensK _ _ _) fun cs' => NdP.outs fun r0 st0 => NdP.of (detP_back1 _ _ _ _ _ _ _ fun cs2 ys lv nx => ⟨by simp [setAll_len], fun id hid hni => ?_⟩))
        have hn : id ∉ more bx (dedup [] (dedup [] (AV.idss as) ++ AV.idss c0)) := by
          have r1 : ∀ id, id ∈ dedup [] (dedup [] (AV.idss as) ++ AV.idss c0) → id ∈ reach1 bx (AV.idss args) := by
            intro id hm
            obtain ⟨_, d2⟩ := dedup_spec (dedup [] (AV.idss as) ++ AV.idss c0) [] (by simp)
            obtain ⟨_, d3⟩ := dedup_spec (AV.idss as) [] (by simp)
            unfold reach1
            rcases (d2 id).1 hm with hm | hm
            · simp at hm
            · rcases List.mem_append.1 hm with hm | hm
              · rcases (d3 id).1 hm with hm | hm
                · simp at hm
                · exact List.mem_append_left _ (hi id hm)
              · refine List.mem_append_right _ (List.mem_flatMap.2 ?_)
                obtain ⟨hl0, hat⟩ := contents_at bx _ c0 hc0
                obtain ⟨c, hc, hic⟩ := mem_idss hm
                obtain ⟨j, hj, he⟩ := List.getElem_of_mem hc
                have hj2 : j < (dedup [] (AV.idss as)).length := by omega
                obtain ⟨c2, k1, k2⟩ := hat j _ (List.getElem?_eq_getElem hj2)
                rw [List.getElem?_eq_getElem hj, he, Option.some.injEq] at k1
                subst k1
                refine ⟨_, hi _ (((d3 _).1 (List.getElem_mem hj2)).resolve_left (by simp)), ?_⟩
                cases hb : bx[(dedup [] (AV.idss as))[j]]? with
                | none => rw [hb] at k2; simp at k2
                | some x =>
                  rw [hb] at k2
                  obtain ⟨x1, x2⟩ := x
                  simp only [Option.some.injEq, Prod.mk.injEq] at k2 ⊢
                  first | (rw [k2.1]; exact hic) | (rw [← k2.1]; exact hic) | (rw [k2]; exact hic) | (rw [← k2]; exact hic)
          intro hm
          refine hni ?_
          obtain ⟨dd, _⟩ := dedup_spec (dedup [] (AV.idss as) ++ AV.idss c0) [] (by simp)
          rcases (more_spec bx _ dd).2.2 id hm with k | ⟨cs2, hcs2, hx⟩
          · exact List.mem_append_left _ (r1 id k)
          · refine List.mem_append_right _ (List.mem_flatMap.2 ?_)
            obtain ⟨hl0, hat⟩ := contents_at bx _ cs2 hcs2
            obtain ⟨c, hc, hic⟩ := mem_idss hx
            obtain ⟨j, hj, he⟩ := List.getElem_of_mem hc
            have hj2 : j < (dedup [] (dedup [] (AV.idss as) ++ AV.idss c0)).length := by omega
            obtain ⟨c2, k1, k2⟩ := hat j _ (List.getElem?_eq_getElem hj2)
            rw [List.getElem?_eq_getElem hj, he, Option.some.injEq] at k1
            subst k1
            refine ⟨_, r1 _ (List.getElem_mem hj2), ?_⟩
            rw [k2]
            exact hic
        simp only [Same]
        rw [List.getElem?_append_left (by rw [setAll_len]; exact hid), setAll_out _ _ _ _ hn]
end
section
variable {D : Tabs} {F : CallT} {nt : Nat} {all : List Oper} {tab : List (List Nat)}
theorem wSpA_loc {d : Option Nat} {op : Op} {tm : List (Nat × AV)} {m : Mem} {K : AS → Prop} (h : wSpA D F d op ⟨nt, tm, m⟩ K) :
    (∃ v m1, Keeps m.bx (touch D tm m.bx op) m1 ∧ AS.put ⟨nt, tm, m1⟩ d v K) ∧ ∀ tm', Agree tm tm' (opnds op) → wSpA D F d op ⟨nt, tm', m⟩ fun σ' => ∃ v m1, Keeps m.bx (touch D tm m.bx op) m1 ∧ AS.put ⟨nt, tm, m1⟩ d v K ∧ σ' = ⟨nt, putl d v tm', m1⟩ := by
  obtain ⟨bx, lv, nx⟩ := m
  unfold wSpA at h
  simp only at h
  split at h
  · rename_i cal args ats
    split at h
    · rename_i f
      split at h
      · rename_i k caps hf
        split at h
        · rename_i as has
          split at h
          · rename_i hl
            have e : touch D tm bx (.call ⟨.value f, args, ats⟩) = reach bx (AV.idss (as ++ caps)) := by simp only [touch, hf, has]
            have h := (dmsK_iff _ _).1 h
            obtain ⟨k1, k2⟩ := ndP_callX (F := F) (nt := nt) (d := d) bx lv nx k (AV.dms (as ++ caps)) (as ++ caps) (fun i hi => idss_dms _ i hi) tm K h
            refine ⟨by rw [e]; exact k1, fun tm' ha => ?_⟩
            unfold wSpA
            simp only [evalO_ag (Agree.head ha), hf, evalA_ag _ _ (Agree.tail ha), has, hl]
            rw [e]
            exact (dmsK_iff _ _).2 (k2 tm')
          · exact h.elim
        · exact h.elim
      · exact h.elim
    · split at h
      · rename_i as has
        split at h
        · rename_i s x t t2 hts
          have e : touch D tm bx (.call ⟨.builtin .append, args, ats⟩) = AV.idss [s, x] := by simp only [touch, has]
          obtain ⟨k1, k2⟩ := ndP_wAppB (Φ := Keeps bx (AV.idss [s, x])) (nt := nt) (d := d) D bx lv nx t t2 s x (keeps_refl _ _ _ _) (fun c => keeps_app _ _ _ _ _) (fun id hid c => keeps_set (by simp only [AV.idss, List.mem_append]; exact .inl hid) _ _ _) tm K h
          refine ⟨by rw [e]; exact k1, fun tm' ha => ?_⟩
          unfold wSpA
          have has2 := has
          rw [hts] at has2
          simp only [evalA_ag _ _ (show Agree tm tm' args.toList from ha), has2, hts]
          rw [e]
          exact k2 tm'
        · exact h.elim
      · exact h.elim
    · exact h.elim
  · exact h.elim
theorem callRestX_rest {P : Program} {D' : Tabs} {tm : List (Nat × AV)} {bx : List (AV × Bool)} {lv : List Nat} {nx : Nat} {d : Option Nat} {f : Nat} {as : List AV} {K : AS → Prop} (h : callRestX (FnOK P D') nt tm bx lv nx d f as K) : callRest (FnOK P D') nt tm bx lv nx d f as K := by
  unfold callRestX at h
  unfold callRest
  split at h
  · rename_i hp
    rw [hp]
    obtain ⟨Q, hF, _, hall⟩ := h
    exact hF.mono hall
  · rename_i hp
    rw [hp]
    simp only
    split at h
    · exact h.elim
    · rename_i c0 hc0
      rw [hc0]
      obtain ⟨h, back⟩ := at_litsK _ _ h
      refine back _ ?_
      split at h
      · exact h.elim
      · rename_i cs hcs
        rw [hcs]
        obtain ⟨h, back⟩ := at_litsK _ _ h
        refine back _ ?_
        split at h
        · exact h.elim
        · rename_i hb
          rw [hb]
          obtain ⟨h, back⟩ := at_rensK _ _ _ _ h
          refine back _ ?_
          obtain ⟨h, back⟩ := at_rensK _ _ _ _ h
          refine back _ ?_
          obtain ⟨Q, hF, _, hall⟩ := h
          exact hF.mono hall
theorem wSpA_wSp {P : Program} {D' : Tabs} {d : Option Nat} {op : Op} {σ : AS} {K : AS → Prop} (h : wSpA D (FnOK P D') d op σ K) : wSp D (FnOK P D') d op σ K := by
  obtain ⟨nt, tm, m⟩ := σ
  unfold wSpA at h
  simp only at h
  split at h
  · split at h
    · split at h
      · rename_i k caps hf
        split at h
        · rename_i as has
          split at h
          · rename_i hl
            obtain ⟨bx, lv, nx⟩ := m
            unfold wSp
            simp only [hf, has, hl]
            have h := (dmsK_iff _ _).1 h
            exact (dmsK_iff _ _).2 (callRestX_rest h)
          · exact h.elim
        · exact h.elim
      · exact h.elim
    · split at h
      · rename_i as has
        split at h
        · rename_i hts
          unfold wSp
          have has2 := has
          rw [hts] at has2
          simp only [has2, hts]
          exact h
        · exact h.elim
      · exact h.elim
    · exact h.elim
  · exact h.elim
theorem wOpsX_cons (D : Tabs) (F : CallT) (all : List Oper) (tab : List (List Nat)) (kx : Nat) (o : Oper) (l : List Oper) (j : Nat) (log : List Ent) (σ : AS) (K : AS → Prop) : wOpsX D F all tab kx (o :: l) j log σ K = (match Nat.beq j kx with
      | true => match o with
        | ⟨d, op, ty, po, af, g⟩ => match g with
          | some _ => False
          | none => match quiet D.q op with
            | true => False
            | false => match okLog (nthL tab j) (entOf D σ j op) log with
              | true => wSpA D F d op σ fun σ' => wOpsD D F all tab l (j + 1) (entOf D σ j op :: log) σ' K
              | false => False
      | false => match o with
      | ⟨d, op, ty, po, af, g⟩ => match g with
        | none => match okLog (nthL tab j) (entOf D σ j op) log with
          | true => wOpD D F ⟨d, op, ty, po, af, g⟩ σ fun σ' => wOpsX D F all tab kx l (j + 1) (entOf D σ j op :: log) σ' K
          | false => False
        | some (i, want) => match dstOf all i with
          | none => False
          | some t => match lookV σ.tm t with
            | some (.sc (.bool b)) => match want with
              | true => Branch b (match okLog (nthL tab j) (entOf D σ j op) log with
                  | true => wOpD D F ⟨d, op, ty, po, af, g⟩ σ fun σ' => wOpsX D F all tab kx l (j + 1) (entOf D σ j op :: log) σ' K
                  | false => False) (wOpsX D F all tab kx l (j + 1) log (σ.drop d) K)
              | false => Branch b (wOpsX D F all tab kx l (j + 1) log (σ.drop d) K) (match okLog (nthL tab j) (entOf D σ j op) log with
                  | true => wOpD D F ⟨d, op, ty, po, af, g⟩ σ fun σ' => wOpsX D F all tab kx l (j + 1) (entOf D σ j op :: log) σ' K
                  | false => False)
            | some (.tup []) => wOpsX D F all tab kx l (j + 1) log (σ.drop d) K
            | _ => False) := rfl
theorem traceX_of {kx : Nat} : ∀ (l : List Oper) (j : Nat) (log : List Ent) (tm : List (Nat × AV)) (m : Mem) (K : AS → Prop), wOpsX D F all tab kx l j log ⟨nt, tm, m⟩ K → j ≤ kx →
    ∃ (o : Oper) (pre : List Step) (tmk : List (Nat × AV)) (mk : Mem) (K1 : AS → Prop), l[kx - j]? = some o ∧ o.guard = none ∧ quiet D.q o.op = false ∧ pre.length = kx - j ∧ wSpA D F o.dst o.op ⟨nt, tmk, mk⟩ K1 ∧
      ∀ v m1, (∀ d, o.dst = some d → Nat.blt d nt = true) → Keeps mk.bx (touch D tmk mk.bx o.op) m1 → K1 ⟨nt, putl o.dst v tmk, m1⟩ → ∃ post tm' m', Trace D F nt all tab kx l j log tm m (pre ++ ⟨o, tmk, mk, true, v, m1, true⟩ :: post) tm' m' ∧ K ⟨nt, tm', m'⟩
  | [], j, log, tm, m, K, h, _ => h.elim
  | ⟨d, op, ty, po, af, g⟩ :: l, j, log, tm, m, K, h, hj => by
    rw [wOpsX_cons] at h
    simp only at h
    cases hb : Nat.beq j kx with
    | true =>
      rw [hb] at h
      have hjk := Nat.eq_of_beq_eq_true hb
      subst hjk
      cases g with
      | some x => exact h.elim
      | none =>
        cases hq : quiet D.q op with
        | true => simp only [hq] at h
        | false =>
          simp only [hq] at h
          split at h
          · rename_i hok
            refine ⟨⟨d, op, ty, po, af, none⟩, [], tm, m, _, by simp, rfl, hq, by simp, h, fun v m1 hd hkp hK => ?_⟩
            obtain ⟨ss, tm', m', h3, h4⟩ := trace_of (x := j) l _ _ _ _ K hK
            refine ⟨ss, tm', m', ?_, h4⟩
            have := Trace.run (o := ⟨d, op, ty, po, af, none⟩) (j := j) (x := j) rfl hok (show StepOK D F nt (j = j) ⟨d, op, ty, po, af, none⟩ tm m v m1 from ⟨hd, by simp only [hq]; exact ⟨hkp, .inl trivial⟩⟩) h3
            simp only [hq, Bool.not_false] at this
            exact this
          · exact h.elim
    | false =>
      rw [hb] at h
      simp only at h
      have hjk : j ≠ kx := fun e => by subst e; simp at hb
      have ix : ∀ o, (o :: l)[kx - j]? = l[kx - (j + 1)]? := fun o => by
        rw [show kx - j = (kx - (j + 1)) + 1 by omega, List.getElem?_cons_succ]
      have run : GuardOK all tm ⟨d, op, ty, po, af, g⟩ true → (match okLog (nthL tab j) (entOf D ⟨nt, tm, m⟩ j op) log with
              | true => wOpD D F ⟨d, op, ty, po, af, g⟩ ⟨nt, tm, m⟩ fun σ' => wOpsX D F all tab kx l (j + 1) (entOf D ⟨nt, tm, m⟩ j op :: log) σ' K
              | false => False) → ∃ (o : Oper) (pre : List Step) (tmk : List (Nat × AV)) (mk : Mem) (K1 : AS → Prop), (⟨d, op, ty, po, af, g⟩ :: l)[kx - j]? = some o ∧ o.guard = none ∧ quiet D.q o.op = false ∧ pre.length = kx - j ∧ wSpA D F o.dst o.op ⟨nt, tmk, mk⟩ K1 ∧
      ∀ v m1, (∀ d, o.dst = some d → Nat.blt d nt = true) → Keeps mk.bx (touch D tmk mk.bx o.op) m1 → K1 ⟨nt, putl o.dst v tmk, m1⟩ → ∃ post tm' m', Trace D F nt all tab kx (⟨d, op, ty, po, af, g⟩ :: l) j log tm m (pre ++ ⟨o, tmk, mk, true, v, m1, true⟩ :: post) tm' m' ∧ K ⟨nt, tm', m'⟩ := by
        intro hg h
        split at h
        · rename_i hok
          obtain ⟨v, m1, h1, h2⟩ := step_of h
          obtain ⟨o, pre, tmk, mk, K1, g1, g2, g3, g4, g5, g6⟩ := traceX_of l _ _ _ _ K h2 (by omega)
          refine ⟨o, (⟨⟨d, op, ty, po, af, g⟩, tm, m, true, v, m1, !quiet D.q op⟩ : Step) :: pre, tmk, mk, K1, (ix _).trans g1, g2, g3, by simp; omega, g5, fun v2 m2 hd hkp hK => ?_⟩
          obtain ⟨post, tm', m', h3, h4⟩ := g6 v2 m2 hd hkp hK
          exact ⟨post, tm', m', .run hg hok (h1 _) h3, h4⟩
        · exact h.elim
      have skip : GuardOK all tm ⟨d, op, ty, po, af, g⟩ false → wOpsX D F all tab kx l (j + 1) log (AS.drop ⟨nt, tm, m⟩ d) K → ∃ (o : Oper) (pre : List Step) (tmk : List (Nat × AV)) (mk : Mem) (K1 : AS → Prop), (⟨d, op, ty, po, af, g⟩ :: l)[kx - j]? = some o ∧ o.guard = none ∧ quiet D.q o.op = false ∧ pre.length = kx - j ∧ wSpA D F o.dst o.op ⟨nt, tmk, mk⟩ K1 ∧
      ∀ v m1, (∀ d, o.dst = some d → Nat.blt d nt = true) → Keeps mk.bx (touch D tmk mk.bx o.op) m1 → K1 ⟨nt, putl o.dst v tmk, m1⟩ → ∃ post tm' m', Trace D F nt all tab kx (⟨d, op, ty, po, af, g⟩ :: l) j log tm m (pre ++ ⟨o, tmk, mk, true, v, m1, true⟩ :: post) tm' m' ∧ K ⟨nt, tm', m'⟩ := by
        intro hg h
        have e : AS.drop ⟨nt, tm, m⟩ d = ⟨nt, dropl d tm, m⟩ := by cases d <;> rfl
        rw [e] at h
        obtain ⟨o, pre, tmk, mk, K1, g1, g2, g3, g4, g5, g6⟩ := traceX_of l _ _ _ _ K h (by omega)
        refine ⟨o, (⟨⟨d, op, ty, po, af, g⟩, tm, m, false, default, m, false⟩ : Step) :: pre, tmk, mk, K1, (ix _).trans g1, g2, g3, by simp; omega, g5, fun v m1 hd hkp hK => ?_⟩
        obtain ⟨post, tm', m', h3, h4⟩ := g6 v m1 hd hkp hK
        exact ⟨post, tm', m', .skip hg h3, h4⟩
      cases g with
      | none => exact run rfl h
      | some iw =>
        obtain ⟨i, want⟩ := iw
        simp only at h
        cases hd : dstOf all i with
        | none => simp [hd] at h
        | some t =>
          simp only [hd] at h
          split at h
          · rename_i b hv
            cases want with
            | true =>
              cases b with
              | true => exact run ⟨t, hd, .inl ⟨true, hv, rfl⟩⟩ h
              | false => exact skip ⟨t, hd, .inl ⟨false, hv, rfl⟩⟩ h
            | false =>
              cases b with
              | true => exact skip ⟨t, hd, .inl ⟨true, hv, rfl⟩⟩ h
              | false => exact run ⟨t, hd, .inl ⟨false, hv, rfl⟩⟩ h
          · rename_i hv
            exact skip ⟨t, hd, .inr ⟨hv, rfl⟩⟩ h
          · exact h.elim
end
theorem tmL_app {L : Nat → Bool} : ∀ (pre rest : List Step) (j : Nat) (tm : List (Nat × AV)), (∀ i, j + pre.length ≤ i → L i = false) → tmL L (pre ++ rest) j tm = tmL L pre j tm
  | [], rest, j, tm, h => by
    have : ∀ (rest : List Step) (j' : Nat), j ≤ j' → tmL L rest j' tm = tm := by
      intro rest
      induction rest with
      | nil => intro j' _; rfl
      | cons s rest ih =>
        intro j' hj
        simp only [tmL]
        rw [h j' (by simpa using hj)]
        exact ih (j' + 1) (by omega)
    exact this rest j (Nat.le_refl _)
  | s :: pre, rest, j, tm, h => by
    simp only [List.cons_append, tmL]
    rw [tmL_app pre rest (j + 1) tm fun i hi => h i (by simp only [List.length_cons]; omega)]
theorem mL_app {L : Nat → Bool} : ∀ (pre rest : List Step) (j : Nat) (m : Mem), (∀ i, j + pre.length ≤ i → L i = false) → mL L (pre ++ rest) j m = mL L pre j m
  | [], rest, j, m, h => by
    refine mL_id rest j m fun k s _ _ => h _ (by simp)
  | s :: pre, rest, j, m, h => by
    simp only [List.cons_append, mL]
    exact mL_app pre rest (j + 1) _ fun i hi => h i (by simp only [List.length_cons]; omega)
theorem behX_of {kx : Nat} : ∀ (tab : List (List Nat)) (i : Nat), behX kx tab i = true → ∀ j, j < tab.length → kx < i + j → kx ∈ nthL tab j
  | [], i, _, j, hj, _ => by simp at hj
  | a :: l, i, h, j, hj, hk => by
    simp only [behX, Bool.and_eq_true, Bool.or_eq_true] at h
    cases j with
    | zero =>
      refine (h.1.resolve_left fun e => ?_) |> memb_of _ _
      have := Nat.le_of_ble_eq_true e
      omega
    | succ j => exact behX_of l (i + 1) h.2 j (by simpa using hj) (by omega)
theorem ancs_len : ∀ (l : List Oper) (tab : List (List Nat)), (ancs l tab).length = tab.length + l.length
  | [], tab => rfl
  | o :: l, tab => by
    simp only [ancs]
    rw [ancs_len l]
    simp; omega
section
variable {P : Program} {D : Tabs} {B : Base}
/-- At the append: the memory is the text's there. -/
theorem Reg.mem {nt : Nat} {ops : Array Oper} {tm0 : List (Nat × AV)} {m0 : Mem} {ss : List Step} {xq : Nat} (R : Reg P D nt ops tm0 m0 ss xq) {L L' : Nat → Bool} {k : Nat} {s : Step}
    (hk : ss[k]? = some s) (hLk : L k = false) (hL' : L' k = true) (hne : ∀ i, i ≠ k → L' i = L i) (heff : s.eff = true)
    (hcl : ∀ i, i < ops.size → ∀ y ∈ nthL (ancs ops.toList []) i, L i = true → L y = true) (hpre : ∀ y ∈ nthL (ancs ops.toList []) k, L y = true) : mL L ss 0 m0 = s.m ∧ mL L' ss 0 m0 = s.m1 := by
  obtain ⟨tm', m', tr⟩ := R.tr
  obtain ⟨_, _, _, _, _, h6, _, _⟩ := trace_at tr k s hk
  have hc := chain_of tr
  have hsz : ops.toList.length = ops.size := by simp
  have hl := (trace_len tr).1
  have hkl : k < ss.length := (List.getElem?_eq_some_iff.1 hk).1
  have two : ∀ (i i2 : Nat) (s1 s2 : Step), i < i2 → ss[i]? = some s1 → ss[i2]? = some s2 → s1.eff = true → s2.eff = true → i ∈ nthL (ancs ops.toList []) i2 := by
    intro i i2 s1 s2 hlt2 k1 k2 f1 f2
    rw [(trace_at tr i s1 k1).2.2.2.2.2.2.2] at f1
    rw [(trace_at tr i2 s2 k2).2.2.2.2.2.2.2] at f2
    simp only [Bool.and_eq_true, Bool.not_eq_true'] at f1 f2
    have := trace_two tr i i2 s1 s2 hlt2 k1 k2 f1.1 f2.1
    simp only [Nat.zero_add] at this
    refine this.resolve_right fun hf => ?_
    unfold entS entOf at hf
    rw [f1.2, f2.2] at hf
    simp [freeE] at hf
  have lo : ∀ (i : Nat) (t : Step), i < k → ss[i]? = some t → t.eff = true → L i = true := fun i t hi ht he => hpre i (two i k t s hi ht hk he heff)
  have hi : ∀ (i : Nat) (t : Step), k < i → ss[i]? = some t → t.eff = true → L i = false := by
    intro i t hki ht he
    cases hL : L i with
    | false => rfl
    | true =>
      have hil := (List.getElem?_eq_some_iff.1 ht).1
      rw [hcl i (by omega) k (two k i s t hki hk ht heff he) hL] at hLk
      simp at hLk
  refine ⟨?_, ?_⟩
  · rw [h6]
    refine mL_cut hc (by omega) lo fun i t hi2 ht he => ?_
    by_cases e : i = k
    · rw [e]; exact hLk
    · exact hi i t (by omega) ht he
  · have : mAt ss m0 (k + 1) = s.m1 := mAt_succ ss m0 k s hk
    rw [← this]
    refine mL_cut hc (by omega) (fun i t hi2 ht he => ?_) fun i t hi2 ht he => ?_
    · by_cases e : i = k
      · rw [e]; exact hL'
      · rw [hne i e]; exact lo i t (by omega) ht he
    · rw [hne i (by omega)]; exact hi i t (by omega) ht he
theorem Reg.anyX {nt : Nat} {ops : Array Oper} {tm0 : List (Nat × AV)} {m0 : Mem} {kx : Nat} (hT : TabOK P D) {Q : Exit → Act → World → Prop} {ds : List Deferred} {KF : AS → Prop} {o : Oper} {pre : List Step} {tmk : List (Nat × AV)} {mk : Mem} {K1 : AS → Prop}
    (back : backAll ops.toList 0 = true) (nodup : (dsts ops.toList).Nodup) (look : lookAll ops.toList (ancs ops.toList []) ops.toList 0 = true) (hbeh : ∀ j, j < ops.size → kx < j → kx ∈ nthL (ancs ops.toList []) j)
    (ho : ops[kx]? = some o) (hg : o.guard = none) (hq : quiet D.q o.op = false) (hlen : pre.length = kx) (hsp : wSpA D (FnOK P D) o.dst o.op ⟨nt, tmk, mk⟩ K1)
    (hpost : ∀ v m1, (∀ d, o.dst = some d → Nat.blt d nt = true) → Keeps mk.bx (touch D tmk mk.bx o.op) m1 → K1 ⟨nt, putl o.dst v tmk, m1⟩ →
      ∃ post tm' m', Trace D (FnOK P D) nt ops.toList (ancs ops.toList []) kx ops.toList 0 [] tm0 m0 (pre ++ ⟨o, tmk, mk, true, v, m1, true⟩ :: post) tm' m' ∧ KF ⟨nt, tm', m'⟩)
    (hQ : ∀ E' σ' a', Sim D B E' σ' a'.tmps → a'.defers = ds → KF σ' → Q .normal a' E'.w) :
    ∀ (n : Nat) (listed : Array Bool) (E : Env) (a : Act), listed.size = ops.size → listed.getD kx false = false → undone listed = n → (∀ (i : Nat) (o : Oper), ops[i]? = some o → listed.getD i false = true → ∀ e ∈ o.after.toList, bindsB e = true → listed.getD e.on false = true) →
      Sim D B E ⟨nt, tmL (fun i => listed.getD i false) pre 0 tm0, mL (fun i => listed.getD i false) pre 0 m0⟩ a.tmps → a.defers = ds → wpAny P .any ops Q n listed a E.w := by
  have hkx : kx < ops.size := (Array.getElem?_eq_some_iff.1 ho).1
  obtain ⟨⟨v0, m10, q1, q2⟩, _⟩ := wSpA_loc hsp
  obtain ⟨q3, q4⟩ := put_iff.1 q2
  obtain ⟨post0, tm0', m0', tr0, _⟩ := hpost v0 m10 q3 q1 q4
  have R0 : Reg P D nt ops tm0 m0 _ kx := ⟨⟨_, _, tr0⟩, back, nodup, look⟩
  have hclA : ∀ (L : Nat → Bool), (∀ (k : Nat) (o : Oper), ops[k]? = some o → L k = true → ∀ e ∈ o.after.toList, bindsB e = true → L e.on = true) → ∀ k, k < ops.size → ∀ y ∈ nthL (ancs ops.toList []) k, L k = true → L y = true := by
    intro L hL k hk y hy hLk
    refine ancs_closed (L := L) ops.toList [] back (fun i hi => by simp at hi) (fun k o ho hLk => ?_) k (by simpa using hk) y hy hLk
    simp only [List.length_nil, Nat.zero_add] at hLk
    exact hL k o (by simpa using ho) hLk
  intro n
  induction n with
  | zero =>
    intro listed E a hs hkl hu hcl h hd
    have := undone_zero hu kx (by omega)
    rw [this] at hkl
    simp at hkl
  | succ n ih =>
    intro listed E a hs hkl hu hcl h hd
    refine ⟨fun hr => absurd hr (ready_some hs back ⟨kx, hkx, hkl⟩), fun i hi => ?_⟩
    unfold Region.ready at hi
    obtain ⟨hi1, hi2⟩ := List.mem_filter.1 hi
    have hi1 := List.mem_range.1 hi1
    simp only [Bool.and_eq_true, Bool.not_eq_true'] at hi2
    obtain ⟨hi2, hi3⟩ := hi2
    have hLi : listed.getD i false = false := by
      rw [Array.getD_eq_getD_getElem?, Array.getElem?_eq_getElem (by omega)] at hi2 ⊢
      exact hi2
    have hoi : ops[i]? = some ops[i] := Array.getElem?_eq_getElem hi1
    rw [hoi] at hi3
    simp only [Option.map_some, Option.getD_some] at hi3
    rw [Array.all_eq_true_iff_forall_mem] at hi3
    have hedge : ∀ e ∈ ops[i].after.toList, bindsB e = true → listed.getD e.on false = true := by
      intro e he hb
      have := hi3 e (by simpa using he)
      rw [binds_eq, hb] at this
      simpa using this
    have hset : ∀ k, k ≠ i → (listed.setIfInBounds i true).getD k false = listed.getD k false := by
      intro k hk
      rw [Array.getD_eq_getD_getElem?, Array.getD_eq_getD_getElem?, Array.getElem?_setIfInBounds_ne (Ne.symm hk)]
    have hseti : (listed.setIfInBounds i true).getD i false = true := by
      rw [Array.getD_eq_getD_getElem?, Array.getElem?_setIfInBounds_self_of_lt (by omega)]
      rfl
    have hcl' : ∀ (k : Nat) (o : Oper), ops[k]? = some o → (listed.setIfInBounds i true).getD k false = true → ∀ e ∈ o.after.toList, bindsB e = true → (listed.setIfInBounds i true).getD e.on false = true := by
      intro k o hko hL e he hb
      by_cases c : e.on = i
      · rw [c]; exact hseti
      · rw [hset _ c]
        by_cases c2 : k = i
        · subst c2
          rw [hoi] at hko
          exact hedge e (Option.some.inj hko ▸ he) hb
        · rw [hset _ c2] at hL
          exact hcl k o hko hL e he hb
    have hpre : ∀ y ∈ nthL (ancs ops.toList []) i, listed.getD y false = true := by
      intro y hy
      have lt := ancs_lt ops.toList [] back (fun i hi => by simp at hi) i (by simpa using hi1) y hy
      have := hclA (fun k => (listed.setIfInBounds i true).getD k false) hcl' i hi1 y hy hseti
      rwa [hset y (by omega)] at this
    have hhi : ∀ j, kx ≤ j → listed.getD j false = false := by
      intro j hj
      by_cases e : j = kx
      · rw [e]; exact hkl
      · cases hL : listed.getD j false with
        | false => rfl
        | true =>
          have hjs : j < ops.size := by
            rw [Array.getD_eq_getD_getElem?] at hL
            cases hx : listed[j]? with
            | none => rw [hx] at hL; simp at hL
            | some b => have := (Array.getElem?_eq_some_iff.1 hx).1; omega
          rw [hclA _ hcl j hjs kx (hbeh j hjs (by omega)) hL] at hkl
          simp at hkl
    by_cases hik : i = kx
    · subst hik
      have hk0 : (pre ++ (⟨o, tmk, mk, true, v0, m10, true⟩ : Step) :: post0)[i]? = some ⟨o, tmk, mk, true, v0, m10, true⟩ := by
        rw [List.getElem?_append_right (by omega), hlen, Nat.sub_self]; rfl
      have hag := R0.agree hk0 hLi (hclA _ hcl) hpre
      rw [tmL_app _ _ _ _ (fun j hj => hhi j (by omega))] at hag
      have hmem := (R0.mem (L := fun k => listed.getD k false) (L' := fun k => (listed.setIfInBounds i true).getD k false) hk0 hLi hseti hset rfl (hclA _ hcl) hpre).1
      rw [mL_app _ _ _ _ (fun j hj => hhi j (by omega))] at hmem
      simp only at hmem
      rw [hmem] at h
      have hagO : Agree tmk (tmL (fun k => listed.getD k false) pre 0 tm0) (opnds o.op) := fun x hx => hag x (by
        unfold looks
        simp only [hg]
        exact hx)
      have hs1 := (wSpA_loc hsp).2 _ hagO
      unfold wpOp
      rw [ho]
      simp only
      have hw : Region.wanted o (yielded ops a.tmps) = true := by
        unfold Region.wanted
        rw [hg]
      rw [if_pos hw]
      refine .inl ?_
      obtain ⟨od, oop, oty, opo, oaf, og⟩ := o
      refine wSp_ok hT h (wSpA_wSp hs1) fun E' σ' a' h' hd' hK => ?_
      obtain ⟨v, m1, g1, g2, rfl⟩ := hK
      obtain ⟨g3, g4⟩ := put_iff.1 g2
      obtain ⟨post, tm', m', tr, hKF⟩ := hpost v m1 g3 g1 g4
      have R1 : Reg P D nt ops tm0 m0 _ i := ⟨⟨_, _, tr⟩, back, nodup, look⟩
      obtain ⟨tl1, tl2, tl3⟩ := trace_len tr
      subst tl2 tl3
      refine R1.any hT (fun E2 a2 h2 hd2 => hQ E2 _ a2 h2 hd2 hKF) n (listed.setIfInBounds i true) E' a' (by simpa using hs) (fun _ => hseti) (by have := undone_set (by omega : i < listed.size) hLi; omega) hcl' ?_ (hd'.trans hd)
      have hk1 : (pre ++ (⟨⟨od, oop, oty, opo, oaf, og⟩, tmk, mk, true, v, m1, true⟩ : Step) :: post)[i]? = some ⟨⟨od, oop, oty, opo, oaf, og⟩, tmk, mk, true, v, m1, true⟩ := by
        rw [List.getElem?_append_right (by omega), hlen, Nat.sub_self]; rfl
      have hap := apart_of _ _ R1.ops_eq R1.nodup
      have htm := tmL_step (tm := tm0) (L := fun k => listed.getD k false) (L' := fun k => (listed.setIfInBounds i true).getD k false) hap hk1 hseti hset
      have hm2 := (R1.mem (L := fun k => listed.getD k false) (L' := fun k => (listed.setIfInBounds i true).getD k false) hk1 hLi hseti hset rfl (hclA _ hcl) hpre).2
      rw [hm2]
      refine h'.same fun x => ?_
      rw [← htm x, tmL_app _ _ _ _ (fun j hj => hhi j (by omega))]
      rfl
    · have hlt : i < kx := by
        rcases Nat.lt_trichotomy i kx with c | c | c
        · exact c
        · exact absurd c hik
        · rw [hpre kx (hbeh i hi1 c)] at hkl
          simp at hkl
      have hss : i < (pre ++ (⟨o, tmk, mk, true, v0, m10, true⟩ : Step) :: post0).length := by simp; omega
      have hk : (pre ++ (⟨o, tmk, mk, true, v0, m10, true⟩ : Step) :: post0)[i]? = some (pre ++ (⟨o, tmk, mk, true, v0, m10, true⟩ : Step) :: post0)[i] := List.getElem?_eq_getElem hss
      generalize (pre ++ (⟨o, tmk, mk, true, v0, m10, true⟩ : Step) :: post0)[i] = si at hk
      have hso : si.o = ops[i] := by
        have := (trace_at tr0 i si hk).1
        rw [Array.getElem?_toList, hoi] at this
        exact (Option.some.inj this).symm
      have h0 := h
      rw [← tmL_app pre ((⟨o, tmk, mk, true, v0, m10, true⟩ : Step) :: post0) 0 tm0 (fun j hj => hhi j (by omega)), ← mL_app pre ((⟨o, tmk, mk, true, v0, m10, true⟩ : Step) :: post0) 0 m0 (fun j hj => hhi j (by omega))] at h0
      have hhi' : ∀ j, 0 + pre.length ≤ j → (listed.setIfInBounds i true).getD j false = false := fun j hj => by
        rw [hset j (by omega)]; exact hhi j (by omega)
      have := R0.step hT hik (L := fun k => listed.getD k false) (L' := fun k => (listed.setIfInBounds i true).getD k false) (Q := Q) (next := wpAny P .any ops Q n (listed.setIfInBounds i true)) hk hLi hseti hset (hclA _ hcl) hpre h0 fun E' a' h' hd' =>
        ih _ E' a' (by simpa using hs) (by rw [hset kx (Ne.symm hik)]; exact hkl) (by have := undone_set (by omega : i < listed.size) hLi; omega) hcl' (by
          rw [tmL_app _ _ _ _ hhi', mL_app _ _ _ _ hhi'] at h'
          exact h') (hd'.trans hd)
      unfold wpOp
      rw [hoi]
      rw [hso] at this
      simp only
      split at this
      · rename_i hw; rw [if_pos hw]; exact .inl this
      · rename_i hw; rw [if_neg hw]; exact this
end
end Go.WL
namespace Go.WL
/-- A list that is an order of what is not yet done. -/
def OrdL (ops : Array Oper) : List Nat → Array Bool → Prop
  | [], listed => Region.ready .any ops listed = []
  | i :: l, listed => i ∈ Region.ready .any ops listed ∧ OrdL ops l (listed.setIfInBounds i true)
theorem any_list {P : Program} {ops : Array Oper} {Q : Exit → Act → World → Prop} : ∀ (l : List Nat) (n : Nat) (listed : Array Bool) (a : Act) (w : World), l.length ≤ n → wpAny P .any ops Q n listed a w → OrdL ops l listed → wpOps P ops Q l a w
  | [], 0, listed, a, w, _, h, _ => by simpa [wpOps] using h.2
  | [], n + 1, listed, a, w, _, h, ho => by simpa [wpOps] using h.1 ho
  | i :: l, 0, listed, a, w, hl, _, _ => by simp at hl
  | i :: l, n + 1, listed, a, w, hl, h, ho => by
    rw [wpOps_cons]
    exact wpOp_mono (fun a w h' => any_list l n _ a w (by simpa using hl) h' ho.2) (h.2 i ho.1)
theorem ready_mem {ops : Array Oper} {listed : Array Bool} {i : Nat} (hs : listed.size = ops.size) : i ∈ Region.ready .any ops listed ↔ ∃ h : i < ops.size, listed.getD i false = false ∧ ∀ e ∈ ops[i].after.toList, bindsB e = true → listed.getD e.on false = true := by
  unfold Region.ready
  rw [List.mem_filter, List.mem_range]
  constructor
  · rintro ⟨h1, h2⟩
    simp only [Bool.and_eq_true, Bool.not_eq_true'] at h2
    obtain ⟨h2, h3⟩ := h2
    refine ⟨h1, ?_, ?_⟩
    · rw [Array.getD_eq_getD_getElem?, Array.getElem?_eq_getElem (by omega)] at h2 ⊢
      exact h2
    · rw [Array.getElem?_eq_getElem h1] at h3
      simp only [Option.map_some, Option.getD_some] at h3
      rw [Array.all_eq_true_iff_forall_mem] at h3
      intro e he hb
      have := h3 e (by simpa using he)
      rw [binds_eq, hb] at this
      simpa using this
  · rintro ⟨h1, h2, h3⟩
    refine ⟨h1, ?_⟩
    have hd : listed.getD i true = false := by
      rw [Array.getD_eq_getD_getElem?, Array.getElem?_eq_getElem (by omega)] at h2 ⊢
      exact h2
    rw [hd, Array.getElem?_eq_getElem h1]
    simp only [Bool.not_false, Option.map_some, Option.getD_some, Bool.true_and]
    rw [Array.all_eq_true_iff_forall_mem]
    intro e he
    rw [binds_eq]
    cases hb : bindsB e with
    | false => rfl
    | true => rw [h3 e (by simpa using he) hb]; rfl
theorem ready_nil {ops : Array Oper} {listed : Array Bool} (hs : listed.size = ops.size) (h : ∀ i, i < ops.size → listed.getD i false = true) : Region.ready .any ops listed = [] := by
  rw [List.eq_nil_iff_forall_not_mem]
  intro i hi
  obtain ⟨h1, h2, _⟩ := (ready_mem hs).1 hi
  rw [h i h1] at h2
  simp at h2
theorem ready_nil_iff {ops : Array Oper} {listed : Array Bool} (hb : backAll ops.toList 0 = true) (hs : listed.size = ops.size) : Region.ready .any ops listed = [] ↔ ∀ i, i < ops.size → listed.getD i false = true := by
  refine ⟨fun h i hi => ?_, ready_nil hs⟩
  cases hL : listed.getD i false with
  | true => rfl
  | false => exact absurd h (ready_some hs hb ⟨i, hi, hL⟩)
theorem ord_len {ops : Array Oper} : ∀ (l : List Nat) (listed : Array Bool), listed.size = ops.size → OrdL ops l listed → l.length ≤ undone listed
  | [], _, _, _ => Nat.zero_le _
  | i :: l, listed, hs, h => by
    obtain ⟨h1, h2, _⟩ := (ready_mem hs).1 h.1
    have := ord_len l _ (by simpa using hs) h.2
    have e := undone_set (by omega : i < listed.size) h2
    simp only [List.length_cons]
    omega
theorem ord_lin {ops : Array Oper} (hb : backAll ops.toList 0 = true) : ∀ (fuel t : Nat) (listed : Array Bool), listed.size = ops.size → undone listed ≤ fuel → OrdL ops (Region.linearise.go .any ops fuel t listed []) listed
  | 0, t, listed, hs, hu => by
    simp only [Region.linearise.go, List.reverse_nil, OrdL]
    exact ready_nil hs fun i hi => undone_zero (by omega) i (by omega)
  | fuel + 1, t, listed, hs, hu => by
    simp only [Region.linearise.go]
    change OrdL ops (match (Region.ready .any ops listed)[t % (Region.ready .any ops listed).length]? with
      | some i => Region.linearise.go .any ops fuel (t / (Region.ready .any ops listed).length) (listed.setIfInBounds i true) [i]
      | none => [].reverse) listed
    cases hi : (Region.ready .any ops listed)[t % (Region.ready .any ops listed).length]? with
    | none =>
      cases hr : Region.ready .any ops listed with
      | nil => exact hr
      | cons x xs =>
        rw [hr] at hi
        have hlt : t % (x :: xs).length < (x :: xs).length := Nat.mod_lt _ (by simp)
        simp at hi
        simp at hlt
        omega
    | some i =>
      simp only []
      rw [linearise_go_acc, List.reverse_singleton, List.singleton_append]
      have hm := List.mem_of_getElem? hi
      obtain ⟨h1, h2, _⟩ := (ready_mem hs).1 hm
      have e := undone_set (by omega : i < listed.size) h2
      exact ⟨hm, ord_lin hb fuel _ _ (by simpa using hs) (by omega)⟩
/-- The same operations, named anew by π, with one edge more: X is behind Y. -/
structure ExtO (ops o2 : Array Oper) (π : Nat → Nat) (X Y : Nat) : Prop where
  size : o2.size = ops.size
  lt : ∀ i, i < ops.size ↔ π i < ops.size
  inv : ∀ i, π (π i) = i
  op : ∀ (i : Nat) (h : i < ops.size) (h2 : π i < o2.size), o2[π i] = ⟨ops[i].dst, ops[i].op, ops[i].type, ops[i].pos, o2[π i].after, ops[i].guard.map fun g => (π g.1, g.2)⟩ ∧
    ∀ e ∈ o2[π i].after.toList, bindsB e = true → (∃ e0 ∈ ops[i].after.toList, bindsB e0 = true ∧ e.on = π e0.on) ∨ (i = X ∧ e.on = π Y)
def Rel (π : Nat → Nat) (l1 l2 : Array Bool) : Prop := l2.size = l1.size ∧ ∀ i, l2.getD (π i) false = l1.getD i false
theorem getD_set (l : Array Bool) (i j : Nat) : (l.setIfInBounds i true).getD j false = if j = i ∧ i < l.size then true else l.getD j false := by
  rw [Array.getD_eq_getD_getElem?, Array.getD_eq_getD_getElem?]
  by_cases e : j = i
  · subst e
    by_cases h : j < l.size
    · rw [if_pos ⟨rfl, h⟩, Array.getElem?_setIfInBounds_self_of_lt h]; rfl
    · rw [if_neg (fun k => h k.2), Array.getElem?_eq_none (by simpa using h), Array.getElem?_eq_none (by omega)]
  · rw [if_neg (fun k => e k.1), Array.getElem?_setIfInBounds_ne (Ne.symm e)]
section
variable {ops o2 : Array Oper} {π : Nat → Nat} {X Y : Nat}
theorem ExtO.inj (h : ExtO ops o2 π X Y) {i j : Nat} (e : π i = π j) : i = j := by rw [← h.inv i, e, h.inv]
theorem Rel.set (h : ExtO ops o2 π X Y) {l1 l2 : Array Bool} (hs : l1.size = ops.size) (hr : Rel π l1 l2) (i : Nat) : Rel π (l1.setIfInBounds i true) (l2.setIfInBounds (π i) true) := by
  refine ⟨by simpa using hr.1, fun j => ?_⟩
  rw [getD_set, getD_set, hr.2 j, hr.1, hs]
  by_cases e : j = i
  · subst e
    by_cases c : j < ops.size
    · rw [if_pos ⟨rfl, (h.lt j).1 c⟩, if_pos ⟨rfl, c⟩]
    · rw [if_neg fun k => c ((h.lt j).2 k.2), if_neg fun k => c k.2]
  · rw [if_neg fun k => e (h.inj k.1), if_neg fun k => e k.1]
theorem ExtO.ready (h : ExtO ops o2 π X Y) {l1 l2 : Array Bool} (hs : l1.size = ops.size) (hr : Rel π l1 l2) {i : Nat} (hi : i ∈ Region.ready .any ops l1) (hx : i = X → l1.getD Y false = true) : π i ∈ Region.ready .any o2 l2 := by
  obtain ⟨h1, h2, h3⟩ := (ready_mem hs).1 hi
  have hp : π i < o2.size := by rw [h.size]; exact (h.lt i).1 h1
  refine (ready_mem (by rw [hr.1, hs, h.size])).2 ⟨hp, by rw [hr.2]; exact h2, fun e he hb => ?_⟩
  rcases (h.op i h1 hp).2 e he hb with ⟨e0, g1, g2, g3⟩ | ⟨g1, g2⟩
  · rw [g3, hr.2]; exact h3 e0 g1 g2
  · rw [g2, hr.2]; exact hx g1
theorem ExtO.nil (h : ExtO ops o2 π X Y) (hb : backAll ops.toList 0 = true) {l1 l2 : Array Bool} (hs : l1.size = ops.size) (hr : Rel π l1 l2) (hn : Region.ready .any ops l1 = []) : Region.ready .any o2 l2 = [] := by
  have hall := (ready_nil_iff hb hs).1 hn
  refine ready_nil (by rw [hr.1, hs, h.size]) fun i hi => ?_
  rw [h.size] at hi
  have := hr.2 (π i)
  rw [h.inv] at this
  rw [this]
  exact hall _ ((h.lt i).1 hi)
theorem ExtO.ord (h : ExtO ops o2 π X Y) (hb : backAll ops.toList 0 = true) : ∀ (l : List Nat) (l1 l2 : Array Bool), l1.size = ops.size → Rel π l1 l2 → l1.getD Y false = true → OrdL ops l l1 → OrdL o2 (l.map π) l2
  | [], l1, l2, hs, hr, _, ho => h.nil hb hs hr ho
  | i :: l, l1, l2, hs, hr, hy, ho => by
    refine ⟨h.ready hs hr ho.1 fun _ => hy, h.ord hb l _ _ (by simpa using hs) (hr.set h hs i) ?_ ho.2⟩
    rw [getD_set]
    split
    · rfl
    · exact hy
end
/-- One way or the other. -/
theorem ord_or {ops oa ob : Array Oper} {π : Nat → Nat} {A B : Nat} (ha : ExtO ops oa id B A) (hb : ExtO ops ob π A B) (hk : backAll ops.toList 0 = true) (hA : A < ops.size) (hB : B < ops.size) (hne : A ≠ B) : ∀ (l : List Nat) (l1 l2 l3 : Array Bool), l1.size = ops.size → Rel id l1 l2 → Rel π l1 l3 → l1.getD A false = false → l1.getD B false = false → OrdL ops l l1 → OrdL oa l l2 ∨ OrdL ob (l.map π) l3
  | [], l1, l2, l3, hs, _, _, hA0, _, ho => by
    have := (ready_nil_iff hk hs).1 ho A hA
    rw [hA0] at this
    simp at this
  | i :: l, l1, l2, l3, hs, r2, r3, hA0, hB0, ho => by
    by_cases eA : i = A
    · subst eA
      refine .inl ⟨ha.ready hs r2 ho.1 fun e => absurd e hne, ?_⟩
      have := ha.ord hk l _ (l2.setIfInBounds i true) (by simpa using hs) (r2.set ha hs i) (by rw [getD_set, if_pos ⟨rfl, by omega⟩]) ho.2
      simpa using this
    by_cases eB : i = B
    · subst eB
      refine .inr ⟨hb.ready hs r3 ho.1 fun e => absurd e.symm hne, ?_⟩
      exact hb.ord hk l _ _ (by simpa using hs) (r3.set hb hs i) (by rw [getD_set, if_pos ⟨rfl, by omega⟩]) ho.2
    · have g1 : (l1.setIfInBounds i true).getD A false = false := by rw [getD_set, if_neg fun k => eA k.1.symm]; exact hA0
      have g2 : (l1.setIfInBounds i true).getD B false = false := by rw [getD_set, if_neg fun k => eB k.1.symm]; exact hB0
      rcases ord_or ha hb hk hA hB hne l _ (l2.setIfInBounds i true) (l3.setIfInBounds (π i) true) (by simpa using hs) (r2.set ha hs i) (r3.set hb hs i) g1 g2 ho.2 with h | h
      · exact .inl ⟨ha.ready hs r2 ho.1 fun e => absurd e eB, h⟩
      · exact .inr ⟨hb.ready hs r3 ho.1 fun e => absurd e eA, h⟩
section
variable {P : Program} {ops o2 : Array Oper} {π : Nat → Nat} {X Y : Nat} {Q : Exit → Act → World → Prop}
theorem ExtO.get (h : ExtO ops o2 π X Y) (i : Nat) : (o2[π i]?).bind (·.dst) = (ops[i]?).bind (·.dst) := by
  by_cases c : i < ops.size
  · have c2 : π i < o2.size := by rw [h.size]; exact (h.lt i).1 c
    rw [Array.getElem?_eq_getElem c, Array.getElem?_eq_getElem c2, (h.op i c c2).1]
    rfl
  · have e1 : ops[i]? = none := Array.getElem?_eq_none (by omega)
    have e2 : o2[π i]? = none := Array.getElem?_eq_none (by rw [h.size]; have k0 : ¬ π i < ops.size := fun k => c ((h.lt i).2 k); omega)
    rw [e1, e2]
theorem ExtO.run (h : ExtO ops o2 π X Y) : ∀ (l : List Nat) (a : Act) (w : World), wpOps P o2 Q (l.map π) a w → wpOps P ops Q l a w
  | [], a, w, hk => by simpa [wpOps] using hk
  | i :: l, a, w, hk => by
    rw [List.map_cons, wpOps_cons] at hk
    rw [wpOps_cons]
    have hk := wpOp_mono (fun a w h' => h.run l a w h') hk
    unfold wpOp at hk ⊢
    by_cases c : i < ops.size
    · have c2 : π i < o2.size := by rw [h.size]; exact (h.lt i).1 c
      rw [Array.getElem?_eq_getElem c2, (h.op i c c2).1] at hk
      rw [Array.getElem?_eq_getElem c]
      have hy : ∀ j, yielded o2 a.tmps (π j) = yielded ops a.tmps j := fun j => by unfold yielded; rw [h.get j]
      have hw : Region.wanted ⟨ops[i].dst, ops[i].op, ops[i].type, ops[i].pos, o2[π i].after, ops[i].guard.map fun g => (π g.1, g.2)⟩ (yielded o2 a.tmps) = Region.wanted ops[i] (yielded ops a.tmps) := by
        unfold Region.wanted
        cases hg : ops[i].guard with
        | none => simp [hg]
        | some g => simp [hg, hy]
      simp only [hw] at hk
      exact hk
    · have e1 : ops[i]? = none := Array.getElem?_eq_none (by omega)
      have e2 : o2[π i]? = none := Array.getElem?_eq_none (by rw [h.size]; have k0 : ¬ π i < ops.size := fun k => c ((h.lt i).2 k); omega)
      rw [e2] at hk
      rw [e1]
      exact hk
end
end Go.WL
namespace Go.WL
noncomputable def editL (f : Nat → Oper → Oper) (l : List Oper) : Nat → List Oper :=
  List.rec (motive := fun _ => Nat → List Oper) (fun _ => []) (fun o _ ih j => f j o :: ih (j + 1)) l
theorem editL_len (f : Nat → Oper → Oper) : ∀ (l : List Oper) (j : Nat), (editL f l j).length = l.length
  | [], _ => rfl
  | o :: l, j => by show (f j o :: editL f l (j + 1)).length = _; rw [List.length_cons, editL_len f l, List.length_cons]
theorem editL_get (f : Nat → Oper → Oper) : ∀ (l : List Oper) (j i : Nat), (editL f l j)[i]? = l[i]?.map (f (j + i))
  | [], _, i => by show ([] : List Oper)[i]? = _; simp
  | o :: l, j, 0 => by show (f j o :: editL f l (j + 1))[0]? = _; simp
  | o :: l, j, i + 1 => by
    show (f j o :: editL f l (j + 1))[i + 1]? = _
    rw [List.getElem?_cons_succ, editL_get f l, List.getElem?_cons_succ, show j + 1 + i = j + (i + 1) by omega]
def behind (Y : Nat) (o : Oper) : Oper := match o with
  | ⟨d, op, ty, po, af, g⟩ => ⟨d, op, ty, po, af.push ⟨Y, .data⟩, g⟩
def swp (A B i : Nat) : Nat := match Nat.beq i A with
  | true => B
  | false => match Nat.beq i B with
    | true => A
    | false => i
def renG (A B : Nat) (g : Option (Nat × Bool)) : Option (Nat × Bool) := match g with
  | none => none
  | some (i, w) => some (swp A B i, w)
def renO (A B : Nat) (o : Oper) : Oper := match o with
  | ⟨d, op, ty, po, af, g⟩ => ⟨d, op, ty, po, af.map fun e => ⟨swp A B e.on, e.ground⟩, renG A B g⟩
noncomputable def exA (A B : Nat) (l : List Oper) : List Oper := editL (fun j o => match Nat.beq j B with | true => behind A o | false => o) l 0
noncomputable def exB (A B : Nat) (l : List Oper) : List Oper := editL (fun j o => match Nat.beq j B with | true => behind A (renO A B o) | false => renO A B o) ((l.set A (l.getD B default)).set B (l.getD A default)) 0
theorem beqF {a b : Nat} (h : a ≠ b) : Nat.beq a b = false := by
  cases e : Nat.beq a b with
  | false => rfl
  | true => exact absurd (Nat.eq_of_beq_eq_true e) h
theorem swp_eq (A B i : Nat) : swp A B i = if i = A then B else if i = B then A else i := by
  unfold swp
  by_cases h : i = A
  · subst h; rw [Nat.beq_refl, if_pos rfl]
  · rw [beqF h, if_neg h]
    by_cases h2 : i = B
    · subst h2; rw [Nat.beq_refl, if_pos rfl]
    · rw [beqF h2, if_neg h2]
theorem extA {ops : Array Oper} {A B : Nat} : ExtO ops (exA A B ops.toList).toArray id B A where
  size := by simp [exA, editL_len]
  lt := fun i => Iff.rfl
  inv := fun i => rfl
  op := by
    intro i h h2
    have e : (exA A B ops.toList).toArray[id i] = (match Nat.beq i B with | true => behind A ops[i] | false => ops[i]) := by
      have := editL_get (fun j o => match Nat.beq j B with | true => behind A o | false => o) ops.toList 0 i
      rw [Nat.zero_add, show ops.toList[i]? = some ops[i] by rw [Array.getElem?_toList]; exact Array.getElem?_eq_getElem h, Option.map_some] at this
      obtain ⟨h3, h4⟩ := List.getElem?_eq_some_iff.1 this
      simpa [exA] using h4
    have eg : ops[i].guard.map (fun g => (id g.1, g.2)) = ops[i].guard := by cases ops[i].guard <;> rfl
    rw [e, eg]
    cases hb : Nat.beq i B with
    | true =>
      have : i = B := Nat.eq_of_beq_eq_true hb
      refine ⟨by simp only [behind], fun e he hb => ?_⟩
      simp only [behind, Array.toList_push, List.mem_append, List.mem_singleton] at he
      rcases he with he | rfl
      · exact .inl ⟨e, he, hb, rfl⟩
      · exact .inr ⟨this, rfl⟩
    | false => exact ⟨rfl, fun e he hb => .inl ⟨e, he, hb, rfl⟩⟩
theorem extB {ops : Array Oper} {A B : Nat} (hA : A < ops.size) (hB : B < ops.size) (hne : A ≠ B) : ExtO ops (exB A B ops.toList).toArray (swp A B) A B where
  size := by simp [exB, editL_len]
  lt := fun i => by
    rw [swp_eq]
    split
    · omega
    · split <;> omega
  inv := fun i => by
    rw [swp_eq, swp_eq]
    by_cases h1 : i = A
    · subst h1; rw [if_pos rfl, if_neg (Ne.symm hne), if_pos rfl]
    · rw [if_neg h1]
      by_cases h2 : i = B
      · subst h2; rw [if_pos rfl, if_pos rfl]
      · rw [if_neg h2, if_neg h1, if_neg h2]
  op := by
    intro i h h2
    have hs : ((ops.toList.set A (ops.toList.getD B default)).set B (ops.toList.getD A default))[swp A B i]? = some ops[i] := by
      have gA : ops.toList.getD A default = ops[A] := by rw [List.getD_eq_getElem?_getD, Array.getElem?_toList, Array.getElem?_eq_getElem hA]; rfl
      have gB : ops.toList.getD B default = ops[B] := by rw [List.getD_eq_getElem?_getD, Array.getElem?_toList, Array.getElem?_eq_getElem hB]; rfl
      rw [gA, gB, swp_eq]
      by_cases h1 : i = A
      · subst h1
        rw [if_pos rfl, List.getElem?_set, if_pos rfl, if_pos (by simpa using hB)]
      · rw [if_neg h1]
        by_cases h3 : i = B
        · subst h3
          rw [if_pos rfl, List.getElem?_set, if_neg (Ne.symm hne), List.getElem?_set, if_pos rfl, if_pos (by simpa using hA)]
        · rw [if_neg h3, List.getElem?_set, if_neg (Ne.symm h3), List.getElem?_set, if_neg (Ne.symm h1), Array.getElem?_toList, Array.getElem?_eq_getElem h]
    have e : (exB A B ops.toList).toArray[swp A B i] = (match Nat.beq (swp A B i) B with | true => behind A (renO A B ops[i]) | false => renO A B ops[i]) := by
      have := editL_get (fun j o => match Nat.beq j B with | true => behind A (renO A B o) | false => renO A B o) ((ops.toList.set A (ops.toList.getD B default)).set B (ops.toList.getD A default)) 0 (swp A B i)
      rw [Nat.zero_add, hs, Option.map_some] at this
      obtain ⟨h3, h4⟩ := List.getElem?_eq_some_iff.1 this
      simpa [exB] using h4
    have eg : renG A B ops[i].guard = ops[i].guard.map (fun g => (swp A B g.1, g.2)) := by
      unfold renG
      cases ops[i].guard <;> rfl
    have ha : ∀ e ∈ (renO A B ops[i]).after.toList, bindsB e = true → ∃ e0 ∈ ops[i].after.toList, bindsB e0 = true ∧ e.on = swp A B e0.on := by
      intro e he hb
      simp only [renO, Array.toList_map, List.mem_map] at he
      obtain ⟨e0, g1, rfl⟩ := he
      exact ⟨e0, g1, hb, rfl⟩
    rw [e, ← eg]
    cases hb : Nat.beq (swp A B i) B with
    | true =>
      have hi : i = A := by
        have := Nat.eq_of_beq_eq_true hb
        rw [swp_eq] at this
        by_cases h1 : i = A
        · exact h1
        · rw [if_neg h1] at this
          by_cases h3 : i = B
          · rw [if_pos h3] at this; exact absurd this hne
          · rw [if_neg h3] at this; exact absurd this h3
      refine ⟨by simp only [behind, renO], fun e he hb => ?_⟩
      simp only [behind, Array.toList_push, List.mem_append, List.mem_singleton] at he
      rcases he with he | rfl
      · exact .inl (ha e he hb)
      · refine .inr ⟨hi, ?_⟩
        rw [swp_eq, if_neg (Ne.symm hne), if_pos rfl]
    | false => exact ⟨by simp only [renO], fun e he hb => .inl (ha e he hb)⟩
/-- The pair, and what is asked of it. -/
def okPair (A B : Nat) (l : List Oper) : Bool := Nat.blt A B && Nat.blt B l.length && backAll l 0
end Go.WL
namespace Go.WL
/-- All below n are among these. -/
def allAnc (l : List Nat) : Nat → Bool
  | 0 => true
  | n + 1 => memb l n && allAnc l n
def guardLt (kx : Nat) : List Oper → Bool
  | [] => true
  | ⟨_, _, _, _, _, g⟩ :: l => (match g with | none => true | some (j, _) => Nat.blt j kx) && guardLt kx l
/-- From kx on each operation is behind all others ahead of it in the text. -/
def chainT (kx : Nat) : List (List Nat) → Nat → Bool
  | [], _ => true
  | a :: l, i => (Nat.blt i kx || allAnc a i) && chainT kx l (i + 1)
def okCut (kx : Nat) (ops : List Oper) : Bool := backAll ops 0 && Nat.ble kx ops.length && guardLt kx (ops.take kx) && chainT kx (ancs ops []) 0
theorem allAnc_of {l : List Nat} : ∀ {n : Nat}, allAnc l n = true → ∀ i, i < n → i ∈ l
  | 0, _, i, hi => by omega
  | n + 1, h, i, hi => by
    simp only [allAnc, Bool.and_eq_true] at h
    by_cases e : i = n
    · subst e; exact memb_of _ _ h.1
    · exact allAnc_of h.2 i (by omega)
theorem chainT_of {kx : Nat} : ∀ (tab : List (List Nat)) (i : Nat), chainT kx tab i = true → ∀ j, j < tab.length → kx ≤ i + j → ∀ y, y < i + j → y ∈ nthL tab j
  | [], i, _, j, hj, _ => by simp at hj
  | a :: l, i, h, j, hj, hk => by
    simp only [chainT, Bool.and_eq_true, Bool.or_eq_true] at h
    cases j with
    | zero =>
      intro y hy
      refine allAnc_of (h.1.resolve_left fun e => ?_) y (by omega)
      rw [Nat.blt_eq] at e
      omega
    | succ j =>
      intro y hy
      exact chainT_of l (i + 1) h.2 j (by simpa using hj) (by omega) y (by omega)
theorem backAll_at : ∀ (l : List Oper) (j : Nat), backAll l j = true → ∀ (i : Nat) (o : Oper), l[i]? = some o → ∀ e ∈ o.after.toList, bindsB e = true → e.on < j + i
  | [], _, _, i, o, hi => by simp at hi
  | x :: l, j, h, i, o, hi => by
    simp only [backAll, Bool.and_eq_true] at h
    cases i with
    | zero =>
      simp only [List.getElem?_cons_zero, Option.some.injEq] at hi
      subst hi
      intro e he hb
      have := backB1_of h.1 e he hb
      omega
    | succ i =>
      intro e he hb
      have := backAll_at l (j + 1) h.2 i o (by simpa using hi) e he hb
      omega
/-- What is listed holds all that it is behind. -/
def Clo (ops : Array Oper) (listed : Array Bool) : Prop := ∀ (i : Nat) (o : Oper), ops[i]? = some o → listed.getD i false = true → ∀ e ∈ o.after.toList, bindsB e = true → listed.getD e.on false = true
theorem Clo.set {ops : Array Oper} {listed : Array Bool} (h : Clo ops listed) (hs : listed.size = ops.size) {i : Nat} (hi : i ∈ Region.ready .any ops listed) : Clo ops (listed.setIfInBounds i true) := by
  obtain ⟨h1, h2, h3⟩ := (ready_mem hs).1 hi
  intro j o ho hj e he hb
  rw [getD_set] at hj ⊢
  split
  · rfl
  · split at hj
    · rename_i c
      obtain ⟨rfl, _⟩ := c
      rw [Array.getElem?_eq_getElem h1] at ho
      simp only [Option.some.injEq] at ho
      subst ho
      exact h3 e he hb
    · exact h j o ho hj e he hb
theorem Clo.anc {ops : Array Oper} {listed : Array Bool} (h : Clo ops listed) (hb : backAll ops.toList 0 = true) {i y : Nat} (hi : i < ops.size) (hy : y ∈ nthL (ancs ops.toList []) i) (hL : listed.getD i false = true) : listed.getD y false = true :=
  ancs_closed (L := fun i => listed.getD i false) ops.toList [] hb (fun i hi => by simp at hi) (fun k o ho hL e he hb => h k o (by simpa using ho) (by simpa using hL) e he hb) i (by simpa using hi) y hy hL
section
variable {ops : Array Oper} {kx : Nat}
theorem okCut_of (hk : okCut kx ops.toList = true) : backAll ops.toList 0 = true ∧ kx ≤ ops.size ∧ guardLt kx (ops.toList.take kx) = true ∧ ∀ j, j < ops.size → kx ≤ j → ∀ y, y < j → y ∈ nthL (ancs ops.toList []) j := by
  simp only [okCut, Bool.and_eq_true, Nat.ble_eq] at hk
  obtain ⟨⟨⟨k1, k2⟩, k3⟩, k4⟩ := hk
  exact ⟨k1, by simpa using k2, k3, fun j hj hkj y hy => chainT_of _ 0 k4 j (by rw [ancs_len]; simpa using hj) (by omega) y (by omega)⟩
/-- The tail is as the text has it. -/
theorem ord_tail (hk : okCut kx ops.toList = true) : ∀ (l : List Nat) (listed : Array Bool) (k : Nat), kx ≤ k → k ≤ ops.size → listed.size = ops.size → Clo ops listed → (∀ i, i < k → listed.getD i false = true) → (∀ i, k ≤ i → listed.getD i false = false) → OrdL ops l listed → l = List.range' k (ops.size - k) := by
  obtain ⟨k1, k2, k3, k4⟩ := okCut_of hk
  intro l
  induction l with
  | nil =>
    intro listed k h1 h2 hs hc h3 h4 ho
    have := (ready_nil_iff k1 hs).1 ho
    by_cases e : k = ops.size
    · rw [e, Nat.sub_self]; rfl
    · have := this k (by omega)
      rw [h4 k (Nat.le_refl _)] at this
      cases this
  | cons i l ih =>
    intro listed k h1 h2 hs hc h3 h4 ho
    obtain ⟨g1, g2, g3⟩ := (ready_mem hs).1 ho.1
    have hc' := hc.set hs ho.1
    have hLi : (listed.setIfInBounds i true).getD i false = true := by rw [getD_set, if_pos ⟨rfl, by omega⟩]
    have hik : k ≤ i := by
      apply Nat.le_of_not_lt
      intro h
      rw [h3 i h] at g2
      cases g2
    have e : i = k := by
      apply Classical.byContradiction
      intro hne
      have := hc'.anc k1 g1 (k4 i g1 (by omega) k (by omega)) hLi
      rw [getD_set, if_neg (fun q => hne q.1.symm), h4 k (Nat.le_refl _)] at this
      cases this
    subst e
    have := ih (listed.setIfInBounds i true) (i + 1) (by omega) (by omega) (by simpa using hs) hc' (fun j hj => by
      rw [getD_set]
      split
      · rfl
      · rename_i c
        exact h3 j (by
          apply Classical.byContradiction
          intro q
          exact c ⟨by omega, by omega⟩)) (fun j hj => by rw [getD_set, if_neg (fun q => by omega)]; exact h4 j (by omega)) ho.2
    rw [this, show ops.size - i = (ops.size - (i + 1)) + 1 by omega, List.range'_succ]
theorem ord_cut (hk : okCut kx ops.toList = true) : ∀ (l : List Nat) (listed lp : Array Bool), listed.size = ops.size → lp.size = kx → Clo ops listed → (∀ i, i < kx → lp.getD i false = listed.getD i false) → (∀ i, kx ≤ i → listed.getD i false = false) → OrdL ops l listed →
    ∃ l1, l = l1 ++ List.range' kx (ops.size - kx) ∧ (∀ i ∈ l1, i < kx) ∧ OrdL (ops.toList.take kx).toArray l1 lp := by
  obtain ⟨k1, k2, k3, k4⟩ := okCut_of hk
  have hsz : (ops.toList.take kx).toArray.size = kx := by simp; omega
  have done : ∀ (l : List Nat) (listed lp : Array Bool), listed.size = ops.size → lp.size = kx → Clo ops listed → (∀ i, i < kx → lp.getD i false = listed.getD i false) → (∀ i, kx ≤ i → listed.getD i false = false) → (∀ i, i < kx → listed.getD i false = true) → OrdL ops l listed → ∃ l1, l = l1 ++ List.range' kx (ops.size - kx) ∧ (∀ i ∈ l1, i < kx) ∧ OrdL (ops.toList.take kx).toArray l1 lp := by
    intro l listed lp hs hp hc h1 h2 h3 ho
    refine ⟨[], ord_tail hk l listed kx (Nat.le_refl _) k2 hs hc h3 h2 ho, by simp, ready_nil (by rw [hsz, hp]) fun j hj => ?_⟩
    rw [hsz] at hj
    rw [h1 j hj]
    exact h3 j hj
  intro l
  induction l with
  | nil =>
    intro listed lp hs hp hc h1 h2 ho
    exact done [] listed lp hs hp hc h1 h2 (fun i hi => (ready_nil_iff k1 hs).1 ho i (by omega)) ho
  | cons i l ih =>
    intro listed lp hs hp hc h1 h2 ho
    have hi := ho.1
    obtain ⟨g1, g2, g3⟩ := (ready_mem hs).1 hi
    have hc' := hc.set hs hi
    have hs' : (listed.setIfInBounds i true).size = ops.size := by simpa using hs
    have hLi : (listed.setIfInBounds i true).getD i false = true := by rw [getD_set, if_pos ⟨rfl, by omega⟩]
    rcases Nat.lt_or_ge i kx with h | h
    · obtain ⟨l1, e1, e3, e2⟩ := ih (listed.setIfInBounds i true) (lp.setIfInBounds i true) hs' (by simpa using hp) hc' (fun j hj => by
        rw [getD_set, getD_set, h1 j hj]
        by_cases c : j = i
        · rw [if_pos ⟨c, by omega⟩, if_pos ⟨c, by omega⟩]
        · rw [if_neg (fun k => c k.1), if_neg (fun k => c k.1)]) (fun j hj => by rw [getD_set, if_neg (fun k => by omega)]; exact h2 j hj) ho.2
      refine ⟨i :: l1, by rw [e1]; rfl, fun j hj => ?_, ?_, e2⟩
      · rcases List.mem_cons.1 hj with rfl | hj
        · exact h
        · exact e3 j hj
      · refine (ready_mem (by rw [hsz, hp])).2 ⟨by rw [hsz]; exact h, by rw [h1 i h]; exact g2, fun e he hb => ?_⟩
        have he' : e ∈ ops[i].after.toList := by simpa using he
        have hlt := backAll_at ops.toList 0 k1 i ops[i] (by rw [Array.getElem?_toList]; exact Array.getElem?_eq_getElem g1) e he' hb
        rw [h1 _ (by omega)]
        exact g3 e he' hb
    · refine done (i :: l) listed lp hs hp hc h1 h2 (fun j hj => ?_) ho
      have := hc'.anc k1 g1 (k4 i g1 h j (by omega)) hLi
      rw [getD_set, if_neg (fun k => by omega)] at this
      exact this
end
section
variable {P : Program} {ops : Array Oper} {Q : Exit → Act → World → Prop}
/-- What comes behind is taken for the end. -/
def thenQ (R : Act → World → Prop) (Q : Exit → Act → World → Prop) : Exit → Act → World → Prop
  | .normal, a, w => R a w
  | e, a, w => Q e a w
theorem wp_thenQ {o : Oper} {a : Act} {w : World} {K : Act → World → Prop} {R : Act → World → Prop} (h : o.wp P a w K (thenQ R Q)) : o.wp P a w K Q := by
  unfold Oper.wp at *
  generalize (execOp a.eval o).run P w = r at *
  cases r with
  | ok n w' =>
    cases n <;> simp only [Oper.upon] at h ⊢ <;> first | exact h | exact Calls.mono h (fun e w'' he => by cases e <;> exact he)
  | halt x w' => cases x <;> simp only [Oper.upon] at h ⊢ <;> exact h
theorem lets_thenQ {R : Act → World → Prop} (h : LetsOut (thenQ R Q)) : LetsOut Q := h
theorem guardLt_of {kx : Nat} : ∀ (l : List Oper), guardLt kx l = true → ∀ o ∈ l, ∀ j w, o.guard = some (j, w) → j < kx
  | [], _, o, ho => by simp at ho
  | ⟨d, op, ty, po, af, g⟩ :: l, h, o, ho => by
    simp only [guardLt, Bool.and_eq_true] at h
    rcases List.mem_cons.1 ho with rfl | ho
    · intro j w hg
      dsimp only at hg
      subst hg
      simpa [Nat.blt_eq] using h.1
    · exact guardLt_of l h.2 o ho
theorem wanted_of {ops o2 : Array Oper} {o : Oper} {tmps : Array Value} (h : ∀ j w, o.guard = some (j, w) → (o2[j]?).bind (·.dst) = (ops[j]?).bind (·.dst)) : Region.wanted o (yielded o2 tmps) = Region.wanted o (yielded ops tmps) := by
  unfold Region.wanted
  cases hg : o.guard with
  | none => rfl
  | some g =>
    obtain ⟨j, w⟩ := g
    have := h j w hg
    have e : yielded o2 tmps j = yielded ops tmps j := by unfold yielded; rw [this]
    simp only [e]
theorem run_pre {kx : Nat} (hg : guardLt kx (ops.toList.take kx) = true) : ∀ (l : List Nat) (rest : List Nat) (a : Act) (w : World), (∀ i ∈ l, i < kx) → wpOps P (ops.toList.take kx).toArray (thenQ (wpOps P ops Q rest) Q) l a w → wpOps P ops Q (l ++ rest) a w
  | [], rest, a, w, _, h => h
  | i :: l, rest, a, w, hl, h => by
    rw [wpOps_cons] at h
    rw [List.cons_append, wpOps_cons]
    have h := wpOp_mono (fun a w h' => run_pre hg l rest a w (fun j hj => hl j (List.mem_cons_of_mem _ hj)) h') h
    have hi := hl i (by simp)
    have eg : ∀ j, j < kx → (ops.toList.take kx).toArray[j]? = ops[j]? := fun j hj => by simp [List.getElem?_take, hj]
    unfold wpOp at h ⊢
    rw [eg i hi] at h
    cases ho : ops[i]? with
    | none => simpa only [ho] using h
    | some o =>
      simp only [ho] at h
      have hm : o ∈ ops.toList.take kx := by
        refine List.mem_of_getElem? (i := i) ?_
        have := eg i hi
        rw [ho] at this
        simpa using this
      rw [wanted_of (ops := ops) (o2 := (ops.toList.take kx).toArray) (o := o) fun j w hj => by rw [eg j (guardLt_of _ hg o hm j w hj)]] at h
      dsimp only
      split
      · rename_i hw
        rw [if_pos hw] at h
        exact h.imp wp_thenQ fun k => ⟨k.1, lets_thenQ k.2⟩
      · rename_i hw
        rw [if_neg hw] at h
        exact h
end
/-- A region that is cut: 'sp' tells it as 6000000 + 1000 * region + the operation from which on the order is forced. -/
def flagC (id : Nat) : List Nat → Option Nat
  | [] => none
  | x :: l => match Nat.beq (x / 1000) (id + 6000) with
    | true => some (x % 1000)
    | false => flagC id l
end Go.WL
namespace Go.WL
/-- Operations A and B in each other's place. -/
noncomputable def exS (A B : Nat) (l : List Oper) : List Oper := editL (fun _ o => renO A B o) ((l.set A (l.getD B default)).set B (l.getD A default)) 0
theorem extS {ops : Array Oper} {A B : Nat} (hA : A < ops.size) (hB : B < ops.size) (hne : A ≠ B) : ExtO ops (exS A B ops.toList).toArray (swp A B) ops.size ops.size where
  size := by simp [exS, editL_len]
  lt := fun i => by
    rw [swp_eq]
    split
    · omega
    · split <;> omega
  inv := fun i => by
    rw [swp_eq, swp_eq]
    by_cases h1 : i = A
    · subst h1; rw [if_pos rfl, if_neg (Ne.symm hne), if_pos rfl]
    · rw [if_neg h1]
      by_cases h2 : i = B
      · subst h2; rw [if_pos rfl, if_pos rfl]
      · rw [if_neg h2, if_neg h1, if_neg h2]
  op := by
    intro i h h2
    have hs : ((ops.toList.set A (ops.toList.getD B default)).set B (ops.toList.getD A default))[swp A B i]? = some ops[i] := by
      have gA : ops.toList.getD A default = ops[A] := by rw [List.getD_eq_getElem?_getD, Array.getElem?_toList, Array.getElem?_eq_getElem hA]; rfl
      have gB : ops.toList.getD B default = ops[B] := by rw [List.getD_eq_getElem?_getD, Array.getElem?_toList, Array.getElem?_eq_getElem hB]; rfl
      rw [gA, gB, swp_eq]
      by_cases h1 : i = A
      · subst h1
        rw [if_pos rfl, List.getElem?_set, if_pos rfl, if_pos (by simpa using hB)]
      · rw [if_neg h1]
        by_cases h3 : i = B
        · subst h3
          rw [if_pos rfl, List.getElem?_set, if_neg (Ne.symm hne), List.getElem?_set, if_pos rfl, if_pos (by simpa using hA)]
        · rw [if_neg h3, List.getElem?_set, if_neg (Ne.symm h3), List.getElem?_set, if_neg (Ne.symm h1), Array.getElem?_toList, Array.getElem?_eq_getElem h]
    have e : (exS A B ops.toList).toArray[swp A B i] = renO A B ops[i] := by
      have := editL_get (fun _ o => renO A B o) ((ops.toList.set A (ops.toList.getD B default)).set B (ops.toList.getD A default)) 0 (swp A B i)
      rw [hs, Option.map_some] at this
      obtain ⟨h3, h4⟩ := List.getElem?_eq_some_iff.1 this
      simpa [exS] using h4
    have eg : renG A B ops[i].guard = ops[i].guard.map (fun g => (swp A B g.1, g.2)) := by
      unfold renG
      cases ops[i].guard <;> rfl
    rw [e, ← eg]
    refine ⟨by simp only [renO], fun e he hb => .inl ?_⟩
    simp only [renO, Array.toList_map, List.mem_map] at he
    obtain ⟨e0, g1, rfl⟩ := he
    exact ⟨e0, g1, hb, rfl⟩
theorem ExtO.ordS {ops o2 : Array Oper} {π : Nat → Nat} {Y : Nat} (h : ExtO ops o2 π ops.size Y) (hb : backAll ops.toList 0 = true) : ∀ (l : List Nat) (l1 l2 : Array Bool), l1.size = ops.size → Rel π l1 l2 → OrdL ops l l1 → OrdL o2 (l.map π) l2
  | [], l1, l2, hs, hr, ho => h.nil hb hs hr ho
  | i :: l, l1, l2, hs, hr, ho => by
    obtain ⟨hi, _, _⟩ := (ready_mem hs).1 ho.1
    exact ⟨h.ready hs hr ho.1 fun e => absurd e (Nat.ne_of_lt hi), h.ordS hb l _ _ (by simpa using hs) (hr.set h hs i) ho.2⟩
/-- Pairs that change places, one behind the other: 'sp' tells them as 2000000 + 10000 * region + 100 * the one + the other. -/
def swaps (id : Nat) : List Nat → List Nat
  | [] => []
  | x :: l => match Nat.beq (x / 10000) (id + 200) with
    | true => (x % 10000) :: swaps id l
    | false => swaps id l
noncomputable def exSs : List Nat → List Oper → List Oper
  | [], l => l
  | x :: xs, l => exSs xs (exS (x / 100) (x % 100) l)
noncomputable def okSws : List Nat → List Oper → Bool
  | [], _ => true
  | x :: xs, l => backAll l 0 && Nat.blt (x / 100) l.length && Nat.blt (x % 100) l.length && !(Nat.beq (x / 100) (x % 100)) && okSws xs (exS (x / 100) (x % 100) l)
theorem rep_rel {n : Nat} {π : Nat → Nat} : Rel π (Array.replicate n false) (Array.replicate n false) := by
  have none : ∀ i, (Array.replicate n false).getD i false = false := by
    intro i
    rw [Array.getD_eq_getD_getElem?, Array.getElem?_replicate]
    split <;> rfl
  exact ⟨rfl, fun i => by rw [none, none]⟩
/-- What holds in each order of the operations in their new places, holds in each order of them in the old ones. -/
theorem swaps_ord {P : Program} {Q : Exit → Act → World → Prop} {a : Act} {w : World} : ∀ (sw : List Nat) (ops : Array Oper), okSws sw ops.toList = true → (∀ l, OrdL (exSs sw ops.toList).toArray l (Array.replicate ops.size false) → wpOps P (exSs sw ops.toList).toArray Q l a w) → ∀ l, OrdL ops l (Array.replicate ops.size false) → wpOps P ops Q l a w
  | [], ops, _, h, l, ho => by simpa [exSs] using h l (by simpa [exSs] using ho)
  | x :: xs, ops, hc, h, l, ho => by
    simp only [okSws, Bool.and_eq_true, Bool.not_eq_true', Nat.blt_eq] at hc
    obtain ⟨⟨⟨⟨c0, c1⟩, c2⟩, c3⟩, c4⟩ := hc
    have e := extS (ops := ops) (A := x / 100) (B := x % 100) (by simpa using c1) (by simpa using c2) (fun e => by rw [e, Nat.beq_refl] at c3; cases c3)
    have hsz : (exS (x / 100) (x % 100) ops.toList).toArray.size = ops.size := by simp [exS, editL_len]
    refine e.run _ _ _ ?_
    refine swaps_ord xs (exS (x / 100) (x % 100) ops.toList).toArray (by simpa using c4) (fun l' ho' => ?_) _ ?_
    · rw [hsz] at ho'
      exact h l' ho'
    · rw [hsz]
      exact e.ordS c0 _ _ _ (by simp) rep_rel ho
end Go.WL
