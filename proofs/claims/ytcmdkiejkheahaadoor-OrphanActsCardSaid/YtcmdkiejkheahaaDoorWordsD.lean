/- A logic of values over the model: what each operation, call and loop makes of the state, shown right against the model. No condition beyond those that each theorem names. -/
import Derived.Test.YtcmdkiejkheahaaDoorWordsC
import Derived.OpenShut
import Derived.WalkKit
import Derived.ProofKit
import Derived.ShutString
import Derived.ChangeOld
import Derived.Carry
import Derived.LaidMore
import Derived.LaidLaws
import Derived.MakeChecks
import Derived.Handed
import Derived.Stop.Joined
import Derived.Below
import Derived.Laws.Externs
set_option linter.unusedVariables false
set_option linter.unusedSimpArgs false
namespace Go.WL
/-- A variable that is written no more is closed: what it is stands for it from here on. -/
def frz1 (t : Nat) (σ : AS) (K : AS → Prop) : Prop :=
  match σ with
  | ⟨nt, tm, ⟨bx, lv, nx⟩⟩ => match lookV tm t with
    | some (.pt id []) => boxK bx id fun c _ => match c.pure with
      | true => forceB (bx.set id (c, true)) fun bx' => K ⟨nt, (t, .rp c) :: tm, ⟨bx', lv, nx⟩⟩
      | false => False
    | some (.bs id p s off len _) => boxK bx id fun c _ => match c.pure with
      | true => rdK c p fun a => match a with
        | .ar _ _ xs => forceB (bx.set id (c, true)) fun bx' => K ⟨nt, (t, .sl s ((xs.drop off).take len) .ro) :: tm, ⟨bx', lv, nx⟩⟩
        | _ => False
      | false => False
    | some (.sl s xs _) => K ⟨nt, (t, .sl s xs .ro) :: tm, ⟨bx, lv, nx⟩⟩
    | _ => False
/-- A slice without room may be lengthened by whoever has it: it gets a row of its own. -/
def own1 (t : Nat) (σ : AS) (K : AS → Prop) : Prop :=
  match σ with
  | ⟨nt, tm, ⟨bx, lv, nx⟩⟩ => match lookV tm t with
    | some (.sl s xs .ex) => litK (nx + 1) fun n => K ⟨nt, (t, .sl s xs (.own nx)) :: tm, ⟨bx, nx :: lv, n⟩⟩
    | some (.sl s xs (.own r)) => K ⟨nt, (t, .sl s xs (.own r)) :: tm, ⟨bx, lv, nx⟩⟩
    | _ => False
-- slots and boxes named anew: boxes by f
def rentF (f : Nat → Nat) : List (Nat × AV) → (List (Nat × AV) → Prop) → Prop
  | [], K => K []
  | (t, v) :: l, K => renK f (fun r => r) v fun u => rentF f l fun l' => K ((t, u) :: l')
def renbF (f : Nat → Nat) : List (AV × Bool) → (List (AV × Bool) → Prop) → Prop
  | [], K => K []
  | (v, b) :: l, K => renK f (fun r => r) v fun u => renbF f l fun l' => K ((u, b) :: l')
def pickB (bx : List (AV × Bool)) : List Nat → List (AV × Bool)
  | [] => []
  | i :: l => match bx[i]? with
    | some x => x :: pickB bx l
    | none => []
def upR : Nat → Nat → List Nat → Bool
  | _, 0, _ => true
  | i, n + 1, x :: l => Nat.beq x i && upR (i + 1) n l
  | _, _ + 1, [] => false
/-- The boxes in another order: 'ids' names them, the first n0 as they are. -/
def permK (n0 : Option Nat) (ids : List Nat) (σ : AS) (K : AS → Prop) : Prop := match n0 with
  | none => False
  | some n0 => match σ with
    | ⟨nt, tm, ⟨bx, lv, nx⟩⟩ => match noDup ids && allLt bx.length ids && allMemb ids (List.range bx.length) && upR 0 n0 ids with
      | false => False
      | true => rentF (fun i => posOf ids i 0) tm fun tm' => renbF (fun i => posOf ids i 0) (pickB bx ids) fun bx' => K ⟨nt, tm', ⟨bx', lv, nx⟩⟩
/-- The slice at p in box j is written no more, nor is its row: it is closed where it lies. -/
def frzP (j : Nat) (p : List Nat) (σ : AS) (K : AS → Prop) : Prop := match σ with
  | ⟨nt, tm, ⟨bx, lv, nx⟩⟩ => boxK bx j fun c f => match f with
    | true => False
    | false => rdK c p fun v => match v with
      | .bs id q s off len _ => boxK bx id fun c2 _ => match c2.pure with
        | true => rdK c2 q fun a => match a with
          | .ar _ _ xs => forceB (bx.set id (c2, true)) fun bx' => boxK bx' j fun c0 f0 => match f0 with
            | true => False
            | false => wrK c0 p (.sl s ((xs.drop off).take len) .ro) fun c' => forceB (bx'.set j (c', false)) fun bx'' => K ⟨nt, tm, ⟨bx'', lv, nx⟩⟩
          | _ => False
        | false => False
      | _ => False
def frzPs : List (Nat × List Nat) → AS → (AS → Prop) → Prop
  | [], σ, K => K σ
  | (j, p) :: l, σ, K => frzP j p σ fun σ' => frzPs l σ' K
/-- How many boxes are given: 'sp' tells it as 8000000 + 1000 * that number. -/
def swapN : List Nat → Option Nat
  | [] => none
  | x :: l => match Nat.blt 7999999 x with
    | true => some ((x - 8000000) / 1000)
    | false => swapN l
/-- Ahead of region 'id': the slots that are closed: 'sp' names them as 1000000 + 1000 * id + slot; 7000000 + id: the boxes may be put in another order; 7500000 + id: slices that lie in boxes may be closed there. -/
def ghostK (n0 : Option Nat) (id : Nat) : List Nat → AS → (AS → Prop) → Prop
  | [], σ, K => K σ
  | x :: l, σ, K => match Nat.beq (x / 1000) (id + 1000) with
    | true => frz1 (x % 1000) σ fun σ' => ghostK n0 id l σ' K
    | false => match Nat.beq x (id + 7000000) with
      | true => ∃ ids, permK n0 ids σ fun σ' => ghostK n0 id l σ' K
      | false => match Nat.beq x (id + 7500000) with
        | true => ∃ ps, frzPs ps σ fun σ' => ghostK n0 id l σ' K
        | false => match Nat.beq (x / 1000) (id + 1700) with
          | true => own1 (x % 1000) σ fun σ' => ghostK n0 id l σ' K
          | false => ghostK n0 id l σ K
/-- A region in which two operations have no order: 'sp' tells them as 5000000 + 10000 * region + 100 * the one + the other. -/
def flag2 (id : Nat) : List Nat → Option Nat
  | [] => none
  | x :: l => match Nat.beq (x / 10000) (id + 500) with
    | true => some (x % 10000)
    | false => flag2 id l
noncomputable def wPair (D : Tabs) (F : CallT) (sp : List Nat) (A B : Nat) (ops : List Oper) (σ : AS) (K : AS → Prop) : Prop :=
  okPair A B ops = true ∧ wDrawn D F sp (exA A B ops) σ K ∧ wDrawn D F sp (exB A B ops) σ K
/-- Such a pair, of which the first one is a call with more than one outcome, or an append into a box. -/
noncomputable def wPairX (D : Tabs) (F : CallT) (sp : List Nat) (A B : Nat) (ops : List Oper) (σ : AS) (K : AS → Prop) : Prop :=
  okPair A B ops = true ∧ wDrawnX D F sp A (exA A B ops) σ K ∧ wDrawnX D F sp B (exB A B ops) σ K
noncomputable def wPairS (D : Tabs) (F : CallT) (sp : List Nat) (id A B : Nat) (ops : List Oper) (σ : AS) (K : AS → Prop) : Prop := match swaps id sp with
  | [] => match flagX id sp with
    | none => wPair D F sp A B ops σ K
    | some _ => wPairX D F sp A B ops σ K
  | sw => okSws sw ops = true ∧ match flagX id sp with
    | none => wPair D F sp A B (exSs sw ops) σ K
    | some _ => wPairX D F sp A B (exSs sw ops) σ K
/-- A drawn region with a forced tail; ahead of the tail slots may be closed: 'sp' names them as 1500000 + 1000 * region + slot. -/
noncomputable def wCut (D : Tabs) (F : CallT) (sp : List Nat) (id kx : Nat) (ops : List Oper) (σ : AS) (K : AS → Prop) : Prop :=
  okCut kx ops = true ∧ wDrawn D F sp (ops.take kx) σ fun σ1 => ghostK none (id + 500) sp σ1 fun σ2 => wOps D F sp ops (ops.drop kx) none σ2 K
/-- Such a region, behind changes of places. -/
noncomputable def wCutS (D : Tabs) (F : CallT) (sp : List Nat) (id kx : Nat) (ops : List Oper) (σ : AS) (K : AS → Prop) : Prop := match swaps id sp with
  | [] => wCut D F sp id kx ops σ K
  | sw => okSws sw ops = true ∧ wCut D F sp id kx (exSs sw ops) σ K
/-- How a region of drawn order is looked at: as it stands; with a forced tail; with one operation of more than one outcome; by a pair's both orders; with two operations in each other's place. -/
inductive RStep where
  | done
  | cut (kx : Nat)
  | x (kx : Nat)
  | pair (A B : Nat)
  | swap (X Y : Nat)
noncomputable def wStep (D : Tabs) (F : CallT) (sp : List Nat) (id : Nat) (ih : List Oper → AS → (AS → Prop) → Prop) (s : RStep) (ops : List Oper) (σ : AS) (K : AS → Prop) : Prop := match s with
  | .done => wDrawn D F sp ops σ K
  | .cut kx => wCut D F sp id kx ops σ K
  | .x kx => wDrawnX D F sp kx ops σ K
  | .pair A B => okPair A B ops = true ∧ ih (exA A B ops) σ K ∧ ih (exB A B ops) σ K
  | .swap X Y => okSws [100 * X + Y] ops = true ∧ ih (exSs [100 * X + Y] ops) σ K
noncomputable def wTree (D : Tabs) (F : CallT) (sp : List Nat) (id : Nat) (n : Nat) : List Oper → AS → (AS → Prop) → Prop :=
  Nat.rec (motive := fun _ => List Oper → AS → (AS → Prop) → Prop) (fun _ _ _ => False) (fun _ ih ops σ K => ∃ s : RStep, wStep D F sp id ih s ops σ K) n
/-- 'sp' names such a region as 7900000 + region. -/
def flagT (id : Nat) : List Nat → Bool
  | [] => false
  | x :: l => match Nat.beq x (id + 7900000) with
    | true => true
    | false => flagT id l
/-- The region that a code begins with. -/
noncomputable def firstR (c : Code) : Option Nat := Code.rec (motive := fun _ => Option Nat) none (fun id _ _ => some id) (fun _ _ a _ => a) (fun _ _ _ _ _ => none) (fun _ _ a => a) (fun _ a => a) (fun _ _ _ _ _ _ => none) (fun _ => none) (fun _ _ => none) (fun _ => none) (fun _ => none) none (fun _ => none) c
/-- Ahead of a region all ways to it may meet: 'sp' names it as 7800000 + region. -/
def flagJ (o : Option Nat) : List Nat → Bool
  | [] => false
  | x :: l => match o with
    | some r => match Nat.beq x (r + 7800000) with
      | true => true
      | false => flagJ o l
    | none => false
/-- One way to a meeting: the boxes put in order, those that nobody needs left out. -/
def meetK (n0 : Option Nat) (keep : List Nat) (σ : AS) (J : AS → Prop) : Prop := ∃ (can : Bool) (ids : List Nat) (k : Nat), permK n0 ids σ fun σ' => normC can keep (n0.getD 0 + k) σ' J
noncomputable def W (D : Tabs) (F : CallT) (sp : List Nat) (c : Code) : AS → (Ex → AS → Prop) → Prop :=
  Code.rec (motive := fun _ => AS → (Ex → AS → Prop) → Prop)
    (skip := fun σ Q => Q .normal σ)
    (region := fun id ops dr σ Q => ghostK (swapN sp) id sp σ fun σ => match dr with
      | true => match flagT id sp with
        | true => wTree D F sp id 20 ops.toList σ (Q .normal)
        | false => match flagC id sp with
          | some kx => wCutS D F sp id kx ops.toList σ (Q .normal)
          | none => match flag2 id sp with
            | some ab => wPairS D F sp id (ab / 100) (ab % 100) ops.toList σ (Q .normal)
            | none => match flagX id sp with
              | none => wDrawn D F sp ops.toList σ (Q .normal)
              | some kx => wDrawnX D F sp kx ops.toList σ (Q .normal)
      | false => wOps D F sp ops.toList ops.toList none σ (Q .normal))
    (seq := fun _ b wa wb σ Q => match flagJ (firstR b) sp with
      | false => wa σ fun e σ' => match e with
        | .normal => wb σ' Q
        | .exit id => Q (.exit id) σ'
        | .ret => Q .ret σ'
      | true => ∃ (keep : List Nat) (J : AS → Prop), (∀ τ, J τ → wb τ Q) ∧ wa σ fun e σ' => match e with
        | .normal => meetK (swapN sp) keep σ' J
        | .exit id => Q (.exit id) σ'
        | .ret => Q .ret σ')
    (cond := fun c _ _ wa wb σ Q => match evalO D σ.tm 0 c with
      | some (.sc (.bool t)) => Branch t (wa σ Q) (wb σ Q)
      | _ => False)
    (block := fun id _ w σ Q => w σ fun e σ' => match e with
      | .normal => Q .normal σ'
      | .exit id' => match Nat.beq id' id with
        | true => Q .normal σ'
        | false => Q (.exit id') σ'
      | .ret => Q .ret σ')
    (loop := fun _ w σ Q => ∃ (can : Bool) (keep : List Nat) (I : AS → Prop) (μ : AS → Nat), normX can keep σ.m.bx.length σ I ∧
      ∀ τ, I τ → w τ fun e τ' => match e with
        | .normal => normX can keep σ.m.bx.length τ' fun τ'' => I τ'' ∧ μ τ'' < μ τ
        | .exit id => Q (.exit id) τ'
        | .ret => Q .ret τ')
    (rangeFunc := fun _ _ _ _ _ _ _ _ => False)
    (exit := fun id σ Q => Q (.exit id) σ)
    (scope := fun _ _ _ _ => False)
    (label := fun _ _ _ => False)
    (goto := fun _ _ _ => False)
    (ret := fun σ Q => Q .ret σ)
    (refuse := fun _ _ _ => False) c

section
variable {P : Program} {D : Tabs} {B : Base}
theorem MSim.q {E : Env} {bx : List (AV × Bool)} {lv q : List Nat} : MSim ⟨D.ty, D.gl, q⟩ E bx lv ↔ MSim D E bx lv :=
  ⟨fun h => ⟨h.bxl, h.box, h.row, h.nodup, h.lim, h.glob⟩, fun h => ⟨h.bxl, h.box, h.row, h.nodup, h.lim, h.glob⟩⟩
theorem FnOK.q {f : Nat} {args st : List AV} {Q : AV → List AV → Prop} {q : List Nat} (h : FnOK P D f args st Q) : FnOK P ⟨D.ty, D.gl, q⟩ f args st Q :=
  ⟨fun E us h1 h2 h3 => (h.run E us (MSim.q.1 h1) h2 h3).mono fun v w' ⟨E', r, st', k1, k2, k3, k4, k5, k6⟩ => ⟨E', r, st', k1, MSim.q.2 k2, k3, k4, k5, k6⟩⟩
theorem FnOK.unq {f : Nat} {args st : List AV} {Q : AV → List AV → Prop} {q : List Nat} (h : FnOK P ⟨D.ty, D.gl, q⟩ f args st Q) : FnOK P D f args st Q :=
  ⟨fun E us h1 h2 h3 => (h.run E us (MSim.q.2 h1) h2 h3).mono fun v w' ⟨E', r, st', k1, k2, k3, k4, k5, k6⟩ => ⟨E', r, st', k1, MSim.q.1 k2, k3, k4, k5, k6⟩⟩
theorem FnOK.qEq (q : List Nat) : FnOK P ⟨D.ty, D.gl, q⟩ = FnOK P D := by
  funext f args st Q
  exact propext ⟨FnOK.unq, FnOK.q⟩
theorem Sim.q {E : Env} {σ : AS} {tmps : Array Value} {q : List Nat} : Sim ⟨D.ty, D.gl, q⟩ B E σ tmps ↔ Sim D B E σ tmps :=
  ⟨fun h => ⟨h.sz, h.nx, MSim.q.1 h.m, h.fb, h.tm, h.shp⟩, fun h => ⟨h.sz, h.nx, MSim.q.2 h.m, h.fb, h.tm, h.shp⟩⟩
theorem KindOK.q {q : List Nat} {k : TK} {sh : Shape} {d : TypeDesc} (h : KindOK D k sh d) : KindOK ⟨D.ty, D.gl, q⟩ k sh d := by
  cases k <;> exact h
theorem TabOK.q {q : List Nat} (h : TabOK P D) : TabOK P ⟨D.ty, D.gl, q⟩ := fun t ti ht => by
  have k := h t ti ht
  obtain ⟨d, i, z, h1, h2, h3, h4, h5, h6⟩ := k.fact
  exact ⟨⟨d, i, z, h1, h2, h3, h4, h5.q, h6⟩, k.dep, k.guard, k.stood⟩
theorem drawn_ok (hm : P.follows .mixedOrders = true) (hT : TabOK P D) {sp : List Nat} {id : Nat} {ops : Array Oper} {E : Env} {σ : AS} {a : Act} {K : AS → Prop} {Q : Exit → Act → World → Prop} (h : Sim D B E σ a.tmps) (hk : wDrawn D (FnOK P D) sp ops.toList σ K)
    (hQ : ∀ E' σ' a', Sim D B E' σ' a'.tmps → a'.defers = a.defers → K σ' → Q .normal a' E'.w) : (Code.region id ops true).wp P Q a E.w := by
  obtain ⟨nt, tm0, m0⟩ := σ
  obtain ⟨tab, hc, hk⟩ := hk
  · simp only [tabOf, Bool.and_eq_true] at hc
    obtain ⟨⟨⟨c0, c1⟩, c2⟩, c3⟩ := hc
    have c0 := eqLL_of c0
    subst c0
    rw [← FnOK.qEq (P := P) (D := D) sp] at hk
    obtain ⟨ss, tm', m', tr, hK⟩ := trace_of _ _ _ _ _ _ hk
    obtain ⟨hl, rfl, rfl⟩ := trace_len tr
    have R : Reg P ⟨D.ty, D.gl, sp⟩ nt ops tm0 m0 ss ops.size := ⟨⟨_, _, tr⟩, c1, noDup_of _ c2, c3⟩
    have none : ∀ i, (Array.replicate ops.size false).getD i false = false := by
      intro i
      rw [Array.getD_eq_getD_getElem?, Array.getElem?_replicate]
      split <;> rfl
    refine wp_region_any hm ?_
    have h0 := (Sim.q (q := sp)).2 h.drew
    refine R.any (B := B) hT.q (ds := a.defers) (fun E' a' h' hd => hQ E' _ a' (Sim.q.1 h') hd hK) ops.size (Array.replicate ops.size false) E.drew a (by simp) (fun hq => absurd hq (Nat.lt_irrefl _)) ?_ (fun i o _ hL => by rw [none] at hL; simp at hL) ?_ rfl
    · unfold undone
      rw [Array.toList_replicate, List.countP_replicate]
      simp
    · have e1 : (fun i => (Array.replicate ops.size false).getD i false) = fun _ => false := funext none
      rw [e1, mL_id ss 0 m0 fun _ _ _ _ => rfl]
      refine h0.same fun x => ?_
      rw [lookV_tmL]
      have : ∀ (ss : List Step) (j : Nat), lkS (fun _ => false) ss j tm0 x = lookV tm0 x := by
        intro ss
        induction ss with
        | nil => intro j; rfl
        | cons t ss ih => intro j; simp only [lkS]; rw [if_neg (fun e => by simp at e), ih]
      exact this ss 0
theorem drawn_any (hT : TabOK P D) {sp : List Nat} {ops : Array Oper} {E : Env} {σ : AS} {a : Act} {K : AS → Prop} {Q : Exit → Act → World → Prop} (h : Sim D B E σ a.tmps) (hk : wDrawn D (FnOK P D) sp ops.toList σ K)
    (hQ : ∀ E' σ' a', Sim D B E' σ' a'.tmps → a'.defers = a.defers → K σ' → Q .normal a' E'.w) : wpAny P .any ops Q ops.size (Array.replicate ops.size false) a E.drew.w := by
  obtain ⟨nt, tm0, m0⟩ := σ
  obtain ⟨tab, hc, hk⟩ := hk
  · simp only [tabOf, Bool.and_eq_true] at hc
    obtain ⟨⟨⟨c0, c1⟩, c2⟩, c3⟩ := hc
    have c0 := eqLL_of c0
    subst c0
    rw [← FnOK.qEq (P := P) (D := D) sp] at hk
    obtain ⟨ss, tm', m', tr, hK⟩ := trace_of _ _ _ _ _ _ hk
    obtain ⟨hl, rfl, rfl⟩ := trace_len tr
    have R : Reg P ⟨D.ty, D.gl, sp⟩ nt ops tm0 m0 ss ops.size := ⟨⟨_, _, tr⟩, c1, noDup_of _ c2, c3⟩
    have none : ∀ i, (Array.replicate ops.size false).getD i false = false := by
      intro i
      rw [Array.getD_eq_getD_getElem?, Array.getElem?_replicate]
      split <;> rfl
    have h0 := (Sim.q (q := sp)).2 h.drew
    refine R.any (B := B) hT.q (ds := a.defers) (fun E' a' h' hd => hQ E' _ a' (Sim.q.1 h') hd hK) ops.size (Array.replicate ops.size false) E.drew a (by simp) (fun hq => absurd hq (Nat.lt_irrefl _)) ?_ (fun i o _ hL => by rw [none] at hL; simp at hL) ?_ rfl
    · unfold undone
      rw [Array.toList_replicate, List.countP_replicate]
      simp
    · have e1 : (fun i => (Array.replicate ops.size false).getD i false) = fun _ => false := funext none
      rw [e1, mL_id ss 0 m0 fun _ _ _ _ => rfl]
      refine h0.same fun x => ?_
      rw [lookV_tmL]
      have : ∀ (ss : List Step) (j : Nat), lkS (fun _ => false) ss j tm0 x = lookV tm0 x := by
        intro ss
        induction ss with
        | nil => intro j; rfl
        | cons t ss ih => intro j; simp only [lkS]; rw [if_neg (fun e => by simp at e), ih]
      exact this ss 0
theorem drawnX_any (hT : TabOK P D) {sp : List Nat} {kx : Nat} {ops : Array Oper} {E : Env} {σ : AS} {a : Act} {K : AS → Prop} {Q : Exit → Act → World → Prop} (h : Sim D B E σ a.tmps) (hk : wDrawnX D (FnOK P D) sp kx ops.toList σ K)
    (hQ : ∀ E' σ' a', Sim D B E' σ' a'.tmps → a'.defers = a.defers → K σ' → Q .normal a' E'.w) : wpAny P .any ops Q ops.size (Array.replicate ops.size false) a E.drew.w := by
  obtain ⟨nt, tm0, m0⟩ := σ
  obtain ⟨tab, hc, hk⟩ := hk
  simp only [tabOf, Bool.and_eq_true] at hc
  obtain ⟨⟨⟨⟨c0, c1⟩, c2⟩, c3⟩, c4⟩ := hc
  have c0 := eqLL_of c0
  subst c0
  rw [← FnOK.qEq (P := P) (D := D) sp] at hk
  obtain ⟨o, pre, tmk, mk, K1, g1, g2, g3, g4, g5, g6⟩ := traceX_of _ _ _ _ _ _ hk (Nat.zero_le _)
  have none : ∀ i, (Array.replicate ops.size false).getD i false = false := by
    intro i
    rw [Array.getD_eq_getD_getElem?, Array.getElem?_replicate]
    split <;> rfl
  have h0 := (Sim.q (q := sp)).2 h.drew
  have hbeh : ∀ j, j < ops.size → kx < j → kx ∈ nthL (ancs ops.toList []) j := fun j hj hk => behX_of _ 0 c4 j (by rw [ancs_len]; simpa using hj) (by omega)
  refine Reg.anyX (B := B) hT.q (ds := a.defers) (KF := K) c1 (noDup_of _ c2) c3 hbeh (by simpa using g1) g2 g3 (by simpa using g4) g5 g6 (fun E' σ' a' h' hd hK => hQ E' σ' a' (Sim.q.1 h') hd hK) ops.size (Array.replicate ops.size false) E.drew a (by simp) (none _) ?_ (fun i o _ hL => by rw [none] at hL; simp at hL) ?_ rfl
  · unfold undone
    rw [Array.toList_replicate, List.countP_replicate]
    simp
  · have e1 : (fun i => (Array.replicate ops.size false).getD i false) = fun _ => false := funext none
    rw [e1, mL_id pre 0 m0 fun _ _ _ _ => rfl]
    refine h0.same fun x => ?_
    rw [lookV_tmL]
    have : ∀ (ss : List Step) (j : Nat), lkS (fun _ => false) ss j tm0 x = lookV tm0 x := by
      intro ss
      induction ss with
      | nil => intro j; rfl
      | cons t ss ih => intro j; simp only [lkS]; rw [if_neg (fun e => by simp at e), ih]
    exact this pre 0
theorem drawnX_ok (hm : P.follows .mixedOrders = true) (hT : TabOK P D) {sp : List Nat} {kx id : Nat} {ops : Array Oper} {E : Env} {σ : AS} {a : Act} {K : AS → Prop} {Q : Exit → Act → World → Prop} (h : Sim D B E σ a.tmps) (hk : wDrawnX D (FnOK P D) sp kx ops.toList σ K)
    (hQ : ∀ E' σ' a', Sim D B E' σ' a'.tmps → a'.defers = a.defers → K σ' → Q .normal a' E'.w) : (Code.region id ops true).wp P Q a E.w := wp_region_any hm (drawnX_any hT h hk hQ)
theorem rep_none (n i : Nat) : (Array.replicate n false).getD i false = false := by
  rw [Array.getD_eq_getD_getElem?, Array.getElem?_replicate]
  split <;> rfl
theorem rep_undone (n : Nat) : undone (Array.replicate n false) = n := by
  unfold undone
  rw [Array.toList_replicate, List.countP_replicate]
  simp
theorem pair_ord {ops : Array Oper} {A B' : Nat} {a : Act} {w : World} {Q : Exit → Act → World → Prop} (hc : okPair A B' ops.toList = true) (a1 : wpAny P .any (exA A B' ops.toList).toArray Q (exA A B' ops.toList).toArray.size (Array.replicate (exA A B' ops.toList).toArray.size false) a w)
    (a2 : wpAny P .any (exB A B' ops.toList).toArray Q (exB A B' ops.toList).toArray.size (Array.replicate (exB A B' ops.toList).toArray.size false) a w) : ∀ l, OrdL ops l (Array.replicate ops.size false) → wpOps P ops Q l a w := by
  intro l ho
  simp only [okPair, Bool.and_eq_true, Nat.blt_eq] at hc
  obtain ⟨⟨c1, c2⟩, c3⟩ := hc
  have hB : B' < ops.size := by simpa using c2
  have hA : A < ops.size := by omega
  have eA := extA (ops := ops) (A := A) (B := B')
  have eB := extB (ops := ops) hA hB (by omega)
  rw [eA.size] at a1
  rw [eB.size] at a2
  have hl := ord_len _ _ (by simp) ho
  rw [rep_undone] at hl
  rcases ord_or eA eB c3 hA hB (by omega) _ _ (Array.replicate ops.size false) (Array.replicate ops.size false) (by simp) ⟨rfl, fun i => rfl⟩ ⟨rfl, fun i => by rw [rep_none, rep_none]⟩ (rep_none _ A) (rep_none _ B') ho with g | g
  · refine eA.run _ _ _ ?_
    rw [List.map_id]
    exact any_list _ _ _ _ _ hl a1 g
  · exact eB.run _ _ _ (any_list _ _ _ _ _ (by simpa using hl) a2 g)
theorem pair_good (hT : TabOK P D) {sp : List Nat} {A B' : Nat} {ops : Array Oper} {E : Env} {σ : AS} {a : Act} {K : AS → Prop} {Q : Exit → Act → World → Prop} {o : Option Nat} (h : Sim D B E σ a.tmps) (hk : match o with
      | none => wPair D (FnOK P D) sp A B' ops.toList σ K
      | some _ => wPairX D (FnOK P D) sp A B' ops.toList σ K)
    (hQ : ∀ E' σ' a', Sim D B E' σ' a'.tmps → a'.defers = a.defers → K σ' → Q .normal a' E'.w) : ∀ l, OrdL ops l (Array.replicate ops.size false) → wpOps P ops Q l a E.drew.w := by
  cases o with
  | none =>
    obtain ⟨hc, h1, h2⟩ := hk
    exact pair_ord hc (drawn_any (B := B) hT (ops := (exA A B' ops.toList).toArray) h (by simpa using h1) hQ) (drawn_any (B := B) hT (ops := (exB A B' ops.toList).toArray) h (by simpa using h2) hQ)
  | some _ =>
    obtain ⟨hc, h1, h2⟩ := hk
    exact pair_ord hc (drawnX_any (B := B) hT (ops := (exA A B' ops.toList).toArray) h (by simpa using h1) hQ) (drawnX_any (B := B) hT (ops := (exB A B' ops.toList).toArray) h (by simpa using h2) hQ)
theorem okPair_back {A B' : Nat} {l : List Oper} {o : Option Nat} {D : Tabs} {F : CallT} {sp : List Nat} {σ : AS} {K : AS → Prop} (hk : match o with
      | none => wPair D F sp A B' l σ K
      | some _ => wPairX D F sp A B' l σ K) : backAll l 0 = true := by
  cases o <;>
  · obtain ⟨hc, _⟩ := hk
    simp only [okPair, Bool.and_eq_true] at hc
    exact hc.2
theorem pairS_ok (hm : P.follows .mixedOrders = true) (hT : TabOK P D) {sp : List Nat} {id A B' : Nat} {ops : Array Oper} {E : Env} {σ : AS} {a : Act} {K : AS → Prop} {Q : Exit → Act → World → Prop} (h : Sim D B E σ a.tmps) (hk : wPairS D (FnOK P D) sp id A B' ops.toList σ K)
    (hQ : ∀ E' σ' a', Sim D B E' σ' a'.tmps → a'.defers = a.defers → K σ' → Q .normal a' E'.w) : (Code.region id ops true).wp P Q a E.w := by
  unfold wPairS at hk
  have fin : backAll ops.toList 0 = true → (∀ l, OrdL ops l (Array.replicate ops.size false) → wpOps P ops Q l a E.drew.w) → (Code.region id ops true).wp P Q a E.w := by
    intro hb hall
    refine wp_region_draw fun t => ?_
    simp only [Region.schedule, hm, Bool.true_or, if_true]
    unfold Region.linearise
    exact hall _ (ord_lin hb ops.size t (Array.replicate ops.size false) (by simp) (by rw [rep_undone]; exact Nat.le_refl _))
  split at hk
  · exact fin (okPair_back hk) (pair_good hT h hk hQ)
  · rename_i sw hsw
    obtain ⟨hc, hk⟩ := hk
    have hb : backAll ops.toList 0 = true := by
      cases hq : swaps id sp with
      | nil => exact absurd hq hsw
      | cons x xs =>
        rw [hq] at hc
        simp only [okSws, Bool.and_eq_true] at hc
        exact hc.1.1.1.1
    have hsz : ∀ (sw : List Nat) (l : List Oper), (exSs sw l).length = l.length := by
      intro sw
      induction sw with
      | nil => intro l; rfl
      | cons x xs ih => intro l; rw [exSs, ih]; simp [exS, editL_len]
    refine fin hb (swaps_ord _ ops hc fun l ho => ?_)
    have g := pair_good (B := B) hT (ops := (exSs (swaps id sp) ops.toList).toArray) (Q := Q) h (by simpa using hk) hQ l
    rw [show (exSs (swaps id sp) ops.toList).toArray.size = ops.size by simp [hsz]] at g
    exact g ho
theorem Sim.also {E : Env} {nt : Nat} {tm : List (Nat × AV)} {m : Mem} {tmps : Array Value} (h : Sim D B E ⟨nt, tm, m⟩ tmps) {t : Nat} {v : AV} (hv : Rep E (shsOf m.bx) v (tmps.getD t undef)) : Sim D B E ⟨nt, (t, v) :: tm, m⟩ tmps := by
  refine ⟨h.sz, h.nx, h.m, h.fb, fun x w hw => ?_, h.shp⟩
  simp only [lookV] at hw
  split at hw
  · rename_i e
    simp only [Option.some.injEq] at hw
    subst hw
    rw [← Nat.eq_of_beq_eq_true e]
    exact hv
  · exact h.tm x w hw
theorem rentF_of {f : Nat → Nat} : ∀ (l : List (Nat × AV)) (K : List (Nat × AV) → Prop), rentF f l K → K (l.map fun x => (x.1, x.2.ren f (fun r => r)))
  | [], _, h => h
  | (t, v) :: l, K, h => rentF_of l (fun l' => K ((t, v.ren f (fun r => r)) :: l')) (renK_of v _ h)
theorem renbF_of {f : Nat → Nat} : ∀ (l : List (AV × Bool)) (K : List (AV × Bool) → Prop), renbF f l K → K (l.map fun x => (x.1.ren f (fun r => r), x.2))
  | [], _, h => h
  | (v, b) :: l, K, h => renbF_of l (fun l' => K ((v.ren f (fun r => r), b) :: l')) (renK_of v _ h)
theorem pickB_at (bx : List (AV × Bool)) : ∀ (ids : List Nat), (∀ i ∈ ids, i < bx.length) → (pickB bx ids).length = ids.length ∧ ∀ (j i : Nat), ids[j]? = some i → (pickB bx ids)[j]? = bx[i]?
  | [], _ => ⟨rfl, fun j i h => by simp at h⟩
  | k :: l, h => by
    have hk := h k (by simp)
    obtain ⟨h1, h2⟩ := pickB_at bx l fun i hi => h i (List.mem_cons_of_mem _ hi)
    have e : pickB bx (k :: l) = bx[k] :: pickB bx l := by
      simp only [pickB, List.getElem?_eq_getElem hk]
    rw [e]
    refine ⟨by simp [h1], fun j i hj => ?_⟩
    cases j with
    | zero =>
      simp only [List.getElem?_cons_zero, Option.some.injEq] at hj
      subst hj
      rw [List.getElem?_cons_zero, List.getElem?_eq_getElem hk]
    | succ j => simpa using h2 j i (by simpa using hj)
theorem upR_of : ∀ (n i : Nat) (l : List Nat), upR i n l = true → n ≤ l.length ∧ ∀ j, j < n → l[j]? = some (i + j)
  | 0, i, l, _ => ⟨Nat.zero_le _, fun j hj => by omega⟩
  | n + 1, i, [], h => by simp [upR] at h
  | n + 1, i, x :: l, h => by
    simp only [upR, Bool.and_eq_true] at h
    obtain ⟨h1, h2⟩ := upR_of n (i + 1) l h.2
    refine ⟨by simp; omega, fun j hj => ?_⟩
    cases j with
    | zero => simp [Nat.eq_of_beq_eq_true h.1]
    | succ j => rw [List.getElem?_cons_succ, h2 j (by omega)]; congr 1; omega
theorem pre_of {α : Type} {l m : List α} (hl : l.length ≤ m.length) (h : ∀ i, i < l.length → m[i]? = l[i]?) : l <+: m := by
  refine ⟨m.drop l.length, List.ext_getElem? fun i => ?_⟩
  by_cases hi : i < l.length
  · rw [List.getElem?_append_left hi, h i hi]
  · rw [List.getElem?_append_right (by omega), List.getElem?_drop]
    congr 1
    omega
theorem nodup_map_inj {f : Nat → Nat} : ∀ l : List Nat, l.Nodup → (∀ i ∈ l, ∀ j ∈ l, f i = f j → i = j) → (l.map f).Nodup
  | [], _, _ => by simp
  | x :: l, h, hf => by
    obtain ⟨h1, h2⟩ := List.nodup_cons.1 h
    rw [List.map_cons, List.nodup_cons]
    refine ⟨fun hm => ?_, nodup_map_inj l h2 fun i hi j hj => hf i (List.mem_cons_of_mem _ hi) j (List.mem_cons_of_mem _ hj)⟩
    obtain ⟨y, hy, e⟩ := List.mem_map.1 hm
    have := hf y (List.mem_cons_of_mem _ hy) x (by simp) e
    subst this
    exact h1 hy
theorem perm_ok {n0 : Option Nat} {ids : List Nat} {E : Env} {σ : AS} {tmps : Array Value} {K : AS → Prop} (h : Sim D B E σ tmps) (hn : ∀ n, n0 = some n → B.bx.length ≤ n ∧ B.shs.length ≤ n) (hk : permK n0 ids σ K) : ∃ E' σ', E'.w = E.w ∧ Sim D B E' σ' tmps ∧ K σ' := by
  cases n0 with
  | none => exact hk.elim
  | some n0 =>
    obtain ⟨hb1, hb2⟩ := hn n0 rfl
    obtain ⟨nt, tm, ⟨bx, lv, nx⟩⟩ := σ
    simp only [permK] at hk
    split at hk
    · exact hk.elim
    · rename_i hc
      simp only [Bool.and_eq_true] at hc
      obtain ⟨⟨⟨c1, c2⟩, c3⟩, c4⟩ := hc
      have c1 := noDup_of _ c1
      have c2 := allLt_of _ _ c2
      have c3 : ∀ i, i < bx.length → i ∈ ids := fun i hi => allMemb_of _ _ c3 i (List.mem_range.2 hi)
      obtain ⟨c4, c5⟩ := upR_of _ _ _ c4
      have hk := rentF_of _ _ hk
      have hk := renbF_of _ _ hk
      have hm := h.m
      simp only at hm
      have hbl : E.bx.length = bx.length := hm.bxl
      obtain ⟨pl, pa⟩ := pickB_at bx ids c2
      have hshl : (shsOf bx).length = bx.length := by simp [shsOf]
      have hbx : ∀ (j i : Nat), ids[j]? = some i → (ids.map fun i => nthD E.bx i)[j]? = E.bx[i]? := by
        intro j i hj
        rw [List.getElem?_map, hj]
        exact (nthD_at (by have := c2 i (List.mem_of_getElem? hj); omega)).symm
      have hsh : shsOf ((pickB bx ids).map fun x => (x.1.ren (fun i => posOf ids i 0) (fun r => r), x.2)) = shsOf (pickB bx ids) := by
        simp only [shsOf, List.map_map]
        exact List.map_congr_left fun x _ => shape_ren _ _ x.1
      have hshat : ∀ (j i : Nat), ids[j]? = some i → (shsOf (pickB bx ids))[j]? = (shsOf bx)[i]? := by
        intro j i hj
        simp only [shsOf, List.getElem?_map, pa j i hj]
      have t : ∀ is rs, Tr E { E with bx := ids.map fun i => nthD E.bx i } (shsOf bx) (shsOf (pickB bx ids)) (fun i => posOf ids i 0) (fun r => r) is rs := by
        intro is rs
        refine ⟨Ext.refl _ _, fun i _ => ⟨fun b hb => ?_, fun s hs => ?_⟩, fun r _ hr => ⟨hr, .inr ⟨rfl, fun b hb cs ty fz hc => ⟨rfl, cs, ty, fz, hc, Nat.le_refl _⟩⟩⟩⟩
        · have hi : i < bx.length := by have := (List.getElem?_eq_some_iff.1 hb).1; omega
          exact (hbx _ i (posOf_at (c3 i hi)).1).trans hb
        · have hi : i < bx.length := by have := (List.getElem?_eq_some_iff.1 hs).1; omega
          exact (hshat _ i (posOf_at (c3 i hi)).1).trans hs
      have hcl : claims { E with bx := ids.map fun i => nthD E.bx i } lv = (ids.map fun i => nthD E.bx i) ++ lv.filterMap (rowBlk E) := rfl
      have hmemE : ∀ b ∈ (ids.map fun i => nthD E.bx i), b ∈ E.bx := by
        intro b hb
        obtain ⟨i, hi, rfl⟩ := List.mem_map.1 hb
        exact List.mem_of_getElem? (nthD_at (by have := c2 i hi; omega))
      have hsub : ∀ b ∈ claims { E with bx := ids.map fun i => nthD E.bx i } lv, b ∈ claims E lv := by
        intro b hb
        rw [hcl] at hb
        rcases List.mem_append.1 hb with hb | hb
        · exact List.mem_append_left _ (hmemE b hb)
        · exact List.mem_append_right _ hb
      obtain ⟨k1, k2, k3⟩ := List.nodup_append.1 hm.nodup
      refine ⟨{ E with bx := ids.map fun i => nthD E.bx i }, _, rfl, ?_, hk⟩
      refine ⟨h.sz, h.nx, ⟨by simp [pl], fun id c f b h1 h2 => ?_, hm.row, ?_, hm.lim, hm.glob⟩, ?_, fun t' v hv => ?_, ?_⟩
      · simp only at h1
        rw [hsh]
        have hid : id < ids.length := by
          have := (List.getElem?_eq_some_iff.1 h1).1
          simp [pl] at this
          exact this
        have hj : ids[id]? = some ids[id] := List.getElem?_eq_getElem hid
        rw [List.getElem?_map, pa id _ hj] at h1
        simp only at h2
        rw [hbx id _ hj] at h2
        cases hi : bx[ids[id]]? with
        | none => simp [hi] at h1
        | some x =>
          obtain ⟨c0, f0⟩ := x
          simp only [hi, Option.map_some, Option.some.injEq, Prod.mk.injEq] at h1
          obtain ⟨rfl, rfl⟩ := h1
          obtain ⟨cs, ty, fz, g1, g2, g3, g4, g5⟩ := hm.box _ c0 f0 b hi h2
          refine ⟨cs, ty, fz, g1, g2, IR_tr c0 _ (t _ _) g3, fun e => ⟨?_, (g4 e).2⟩, g5⟩
          have hp := (g4 e).1
          obtain ⟨p1, p2⟩ := pure_none c0 hp
          rw [ren_none _ _ c0 p1 p2]
          exact hp
      · rw [hcl]
        refine List.nodup_append.2 ⟨?_, k2, fun x hx y hy => k3 x (hmemE x hx) y hy⟩
        refine nodup_map_inj ids c1 ?_
        intro i hi j hj e
        have a1 := nthD_at (l := E.bx) (i := i) (by have := c2 i hi; omega)
        have a2 := nthD_at (l := E.bx) (i := j) (by have := c2 j hj; omega)
        rw [show nthD E.bx i = nthD E.bx j from e, ← a2] at a1
        exact (List.getElem?_inj (by have := c2 i hi; omega) k1).1 a1
      · have hfb := h.fb
        refine ⟨hfb.os, hfb.tape, hfb.output, hfb.size, hfb.ext, hfb.same, fun b hb => hfb.cl b (hsub b hb), ?_⟩
        refine pre_of (by simp; omega) fun i hi => ?_
        show (ids.map fun i => nthD E.bx i)[i]? = _
        rw [hbx i i (by rw [c5 i (by omega)]; congr 1; omega)]
        obtain ⟨r, hr⟩ := hfb.pre
        rw [← hr, List.getElem?_append_left hi]
      · obtain ⟨u, hu, rfl⟩ := lookV_map (g := fun v => v.ren (fun i => posOf ids i 0) (fun r => r)) _ _ _ hv
        simp only
        rw [hsh]
        exact Rep_tr (t _ _) (h.tm t' u hu)
      · show B.shs <+: shsOf _
        rw [hsh]
        refine pre_of (by simp [shsOf, pl]; omega) fun i hi => ?_
        rw [hshat i i (by rw [c5 i (by omega)]; congr 1; omega)]
        obtain ⟨r, hr⟩ := h.shp
        simp only at hr
        rw [← hr, List.getElem?_append_left hi]
theorem own1_ok {E : Env} {σ : AS} {tmps : Array Value} {t : Nat} {K : AS → Prop} (h : Sim D B E σ tmps) (hk : own1 t σ K) : ∃ E' σ', E'.w = E.w ∧ Sim D B E' σ' tmps ∧ K σ' := by
  obtain ⟨nt, tm, ⟨bx, lv, nx⟩⟩ := σ
  unfold own1 at hk
  simp only at hk
  split at hk
  · rename_i s xs hv
    have hr := h.tm t _ hv
    have hc := h.claim .exact (by simp) (fun b e => by cases e)
    have hnx : E.nx = nx := h.nx
    refine ⟨E.claim .exact, _, rfl, Sim.also (v := .sl s xs (.own nx)) hc ?_, litK_of hk⟩
    obtain ⟨⟨a, c, h1, h2, h3, h4, h5, h6⟩, _⟩ := (show IR E (shsOf bx) (.sl s xs .ex) [tmps.getD t undef] from hr)
    show IR (E.claim .exact) (shsOf bx) (.sl s xs (.own nx)) [tmps.getD t undef]
    refine ⟨⟨a, c, h1, h2, by simp, h4, h5, h6⟩, fun r e => ?_⟩
    simp only [Mark.own.injEq] at e
    subst e
    refine ⟨by simp only [Env.claim]; omega, fun a' n' c' e => ?_⟩
    rw [h1] at e
    simp only [List.cons.injEq, Value.slice.injEq, and_true] at e
    obtain ⟨_, rfl, rfl⟩ := e
    rw [show (E.claim .exact).row nx = .exact by simp [Env.claim, ← hnx, upd_at]]
    exact h3 rfl
  · rename_i s xs r hv
    exact ⟨E, _, rfl, Sim.also (v := .sl s xs (.own r)) h (h.tm t _ hv), hk⟩
  · exact hk.elim
theorem frz1_ok {E : Env} {σ : AS} {tmps : Array Value} {t : Nat} {K : AS → Prop} (h : Sim D B E σ tmps) (hk : frz1 t σ K) : ∃ E' σ', E'.w = E.w ∧ Sim D B E' σ' tmps ∧ K σ' := by
  obtain ⟨nt, tm, ⟨bx, lv, nx⟩⟩ := σ
  unfold frz1 at hk
  simp only at hk
  split at hk
  · rename_i id hv
    have hr := h.tm t _ hv
    obtain ⟨b, t', o, h1, h2, h3, h4⟩ := rep_pt hr
    obtain ⟨c, f, cs, ty, fz, g1, g2, g3, g4, g5, g6, g7, g8⟩ := box_at h h1 h2 hk
    cases hcp : c.pure with
    | false => simp [hcp] at g2
    | true =>
      simp only [hcp] at g2
      have g2 := forceB_of _ _ g2
      have ho : o = 0 := by cases t' <;> simp [offS] at h3 <;> exact h3.symm
      subst ho
      have hle : E.lim b ≤ cs.size := by
        cases f with
        | true => exact Nat.le_of_eq (g7 rfl).2
        | false => rw [g8 rfl]; exact Nat.zero_le _
      have hb0 := h.tidy
      have hdead := fun r => Sim.box_dead (σ := ⟨nt, tm, ⟨bx, lv, nx⟩⟩) hb0 (id := id) (b := b) h1 r
      have t0 : TrA E (E.bury lv) (shsOf bx) (shsOf bx) := tra_bury lv
      have t1 : TrA (E.bury lv) ((E.bury lv).setBlk b cs ty fz cs.size) (shsOf bx) (shsOf bx) := tra_setBlk g4 hle (fun _ _ => rfl) rfl fun r hr => absurd hr (hdead r)
      have hs := Sim.boxset hb0 (c' := c) (f' := true) (cs' := cs) (l := cs.size) g1 h1 g4 rfl (fun _ _ => rfl) hle rfl hdead (t1.ir (t0.ir g6)) (fun _ => ⟨hcp, rfl⟩) (fun e => by simp at e)
      have hw : ((E.bury lv).setBlk b cs ty fz cs.size).w = E.w := setBlk_self g4
      refine ⟨_, _, hw, Sim.also hs ?_, g2⟩
      rw [h4]
      refine ⟨_, cs.toList, rfl, hcp, (IR_pure c _ hcp).1 (t1.ir (t0.ir g6)), rfl, fun i u hu => ?_, fun hne => ?_⟩
      · rw [hw, cell_of g4, ← Array.getElem?_toList, Nat.zero_add]
        exact hu
      · simp only [Env.setBlk, upd_at, Nat.zero_add, Array.length_toList]
        exact Nat.le_refl _
  · rename_i id p s off len cap hv
    have hr := h.tm t _ hv
    obtain ⟨E1, xs, bx1, e1, h1, _, hr1, hk1⟩ := freeze1 (K := fun xs bx' => forceB bx' fun bx' => K ⟨nt, (t, .sl s ((xs.drop off).take len) .ro) :: tm, ⟨bx', lv, nx⟩⟩) h (rep0_of hr (.inr fun xs => by simp)) hk
    exact ⟨E1, _, e1, Sim.also h1 (rep_of0 hr1), forceB_of _ _ hk1⟩
  · rename_i s xs m hv
    have hr := h.tm t _ hv
    exact ⟨E, _, rfl, Sim.also (v := .sl s xs .ro) h (show Rep E (shsOf bx) (.sl s xs .ro) (tmps.getD t undef) from IR_ro (shs := shsOf bx) (.sl s xs m) [tmps.getD t undef] hr), hk⟩
  · exact hk.elim
theorem frzP_ok {E : Env} {σ : AS} {tmps : Array Value} {j : Nat} {p : List Nat} {K : AS → Prop} (h : Sim D B E σ tmps) (hk : frzP j p σ K) : ∃ E' σ', E'.w = E.w ∧ Sim D B E' σ' tmps ∧ K σ' := by
  obtain ⟨nt, tm, ⟨bx, lv, nx⟩⟩ := σ
  simp only [frzP] at hk
  have hj : ∃ c f, bx[j]? = some (c, f) := by
    unfold boxK at hk
    cases hc : bx[j]? with
    | none => simp [hc] at hk
    | some x => exact ⟨x.1, x.2, rfl⟩
  obtain ⟨cj, fj, hj⟩ := hj
  have hm := h.m.bxl
  have hjl : j < E.bx.length := by rw [hm]; exact (List.getElem?_eq_some_iff.1 hj).1
  have hEj : E.bx[j]? = some E.bx[j] := List.getElem?_eq_getElem hjl
  have hSj : (shsOf bx)[j]? = some cj.shape := by simp [shsOf, hj]
  generalize E.bx[j] = b at hEj
  obtain ⟨c, f, cs, ty, fz, g1, g2, g3, g4, g5, g6, g7, g8⟩ := box_at h hEj hSj hk
  cases f with
  | true => exact g2.elim
  | false =>
    simp only at g2
    obtain ⟨v, o, k1, k2, k3, k4, kpu, k6⟩ := rd_ok E (shsOf bx) p c cs.toList _ g6 g2
    clear kpu
    split at k1
    · rename_i id q s off len cap
      have hv : ∃ u, (cs.toList.drop o).take 1 = [u] ∧ Rep0 E (shsOf bx) (.bs id q s off len cap) u := by
        have hl := IR_len _ _ k6
        simp only [AV.shape, Shape.size] at hl k6
        obtain ⟨u, hu⟩ := List.length_eq_one_iff.1 hl
        exact ⟨u, hu, by rw [hu] at k6; exact k6⟩
      obtain ⟨u, hu, hr⟩ := hv
      obtain ⟨E1, xs, bx1, e1, h1, t, hr1, hk1⟩ := freeze1 (K := fun xs bx' => forceB bx' fun bx' => boxK bx' j fun c0 f0 => match f0 with
            | true => False
            | false => wrK c0 p (.sl s ((xs.drop off).take len) .ro) fun c' => forceB (bx'.set j (c', false)) fun bx'' => K ⟨nt, tm, ⟨bx'', lv, nx⟩⟩) h hr k1
      have hk1 := forceB_of _ _ hk1
      have hE1 : E1.bx[j]? = some b := t.bx _ _ hEj
      have hS1 := t.sh _ _ hSj
      obtain ⟨c0, f0, cs0, ty0, fz0, m1, m2, m3, m4, m5, m6, m7, m8⟩ := box_at h1 hE1 hS1 hk1
      rw [e1, g4] at m4
      simp only [Option.some.injEq, Obj.cells.injEq] at m4
      obtain ⟨rfl, rfl, rfl⟩ := m4
      cases f0 with
      | true => exact m2.elim
      | false =>
        simp only at m2
        have hir1 : IR E1 (shsOf bx1) (.sl s ((xs.drop off).take len) .ro) [u] := hr1
        obtain ⟨c', o', n1, n2, n3, n4, _, n6⟩ := wr_ok E1 (shsOf bx1) p c0 _ cs.toList [u] _ m6 hir1 m2
        rw [m3, ← g3, k2] at n3
        simp only [Option.some.injEq] at n3
        subst n3
        have hcs : cs.toList.take o ++ [u] ++ cs.toList.drop (o + [u].length) = cs.toList := by
          rw [← hu, List.append_assoc]
          have hlen : (cs.toList.drop o).take 1 ++ cs.toList.drop (o + ((cs.toList.drop o).take 1).length) = cs.toList.drop o := by
            rw [hu, List.length_singleton, ← hu, ← List.drop_drop, List.take_append_drop]
          rw [hlen, List.take_append_drop]
        rw [hcs] at n6
        have n1 := forceB_of _ _ n1
        have hb0 := h1.tidy
        have hdead := fun r => Sim.box_dead (σ := ⟨nt, tm, ⟨bx1, lv, nx⟩⟩) hb0 (id := j) (b := b) hE1 r
        have hle : E1.lim b ≤ 0 := Nat.le_of_eq (m8 rfl)
        have h4' : E1.w.heap[b]? = some (.cells cs ty fz) := by rw [e1]; exact g4
        have t0 : TrA E1 (E1.bury lv) (shsOf bx1) (shsOf bx1) := tra_bury lv
        have t1 : TrA (E1.bury lv) ((E1.bury lv).setBlk b cs ty fz 0) (shsOf bx1) (shsOf bx1) := tra_setBlk h4' hle (fun _ _ => rfl) rfl fun r hr => absurd hr (hdead r)
        have hs := Sim.boxset hb0 (c' := c') (f' := false) (cs' := cs) (l := 0) m1 hE1 h4' rfl (fun _ _ => rfl) hle (n2) hdead (t1.ir (t0.ir n6)) (fun e => by simp at e) (fun _ => rfl)
        have hw : ((E1.bury lv).setBlk b cs ty fz 0).w = E1.w := setBlk_self h4'
        exact ⟨_, _, hw.trans e1, hs, n1⟩
    · exact k1.elim
theorem frzPs_ok {tmps : Array Value} {K : AS → Prop} : ∀ (ps : List (Nat × List Nat)) (E : Env) (σ : AS), Sim D B E σ tmps → frzPs ps σ K → ∃ E' σ', E'.w = E.w ∧ Sim D B E' σ' tmps ∧ K σ'
  | [], E, σ, h, hk => ⟨E, σ, rfl, h, hk⟩
  | (j, p) :: l, E, σ, h, hk => by
    obtain ⟨E1, σ1, e1, h1, hk1⟩ := frzP_ok h hk
    obtain ⟨E2, σ2, e2, h2, hk2⟩ := frzPs_ok l E1 σ1 h1 hk1
    exact ⟨E2, σ2, e2.trans e1, h2, hk2⟩
theorem ghost_ok {n0 : Option Nat} {id : Nat} {tmps : Array Value} {K : AS → Prop} (hn : ∀ n, n0 = some n → B.bx.length ≤ n ∧ B.shs.length ≤ n) : ∀ (l : List Nat) (E : Env) (σ : AS), Sim D B E σ tmps → ghostK n0 id l σ K → ∃ E' σ', E'.w = E.w ∧ Sim D B E' σ' tmps ∧ K σ'
  | [], E, σ, h, hk => ⟨E, σ, rfl, h, hk⟩
  | x :: l, E, σ, h, hk => by
    simp only [ghostK] at hk
    split at hk
    · obtain ⟨E1, σ1, e1, h1, hk1⟩ := frz1_ok h hk
      obtain ⟨E2, σ2, e2, h2, hk2⟩ := ghost_ok hn l E1 σ1 h1 hk1
      exact ⟨E2, σ2, e2.trans e1, h2, hk2⟩
    · split at hk
      · obtain ⟨ids, hk⟩ := hk
        obtain ⟨E1, σ1, e1, h1, hk1⟩ := perm_ok h hn hk
        obtain ⟨E2, σ2, e2, h2, hk2⟩ := ghost_ok hn l E1 σ1 h1 hk1
        exact ⟨E2, σ2, e2.trans e1, h2, hk2⟩
      · split at hk
        · obtain ⟨ps, hk⟩ := hk
          obtain ⟨E1, σ1, e1, h1, hk1⟩ := frzPs_ok ps E σ h hk
          obtain ⟨E2, σ2, e2, h2, hk2⟩ := ghost_ok hn l E1 σ1 h1 hk1
          exact ⟨E2, σ2, e2.trans e1, h2, hk2⟩
        · split at hk
          · obtain ⟨E1, σ1, e1, h1, hk1⟩ := own1_ok h hk
            obtain ⟨E2, σ2, e2, h2, hk2⟩ := ghost_ok hn l E1 σ1 h1 hk1
            exact ⟨E2, σ2, e2.trans e1, h2, hk2⟩
          · exact ghost_ok hn l E σ h hk
theorem cut_good (hT : TabOK P D) {sp : List Nat} {kx id : Nat} {ops : Array Oper} {E : Env} {σ : AS} {a : Act} {K : AS → Prop} {Q : Exit → Act → World → Prop} (h : Sim D B E σ a.tmps) (hk : wCut D (FnOK P D) sp id kx ops.toList σ K)
    (hQ : ∀ E' σ' a', Sim D B E' σ' a'.tmps → a'.defers = a.defers → K σ' → Q .normal a' E'.w) : backAll ops.toList 0 = true ∧ ∀ l, OrdL ops l (Array.replicate ops.size false) → wpOps P ops Q l a E.drew.w := by
  obtain ⟨hc, hk⟩ := hk
  obtain ⟨k1, k2, k3, _⟩ := okCut_of hc
  have hszp : (ops.toList.take kx).toArray.size = kx := by simp; omega
  have hrest : ∀ (E' : Env) (σ' : AS) (a' : Act), Sim D B E' σ' a'.tmps → a'.defers = a.defers → (ghostK none (id + 500) sp σ' fun σ2 => wOps D (FnOK P D) sp ops.toList (ops.toList.drop kx) none σ2 K) → wpOps P ops Q (List.range' kx (ops.size - kx)) a' E'.w := by
    intro E' σ' a' h' hd hk'
    obtain ⟨E', σ', e', h', hk'⟩ := ghost_ok (fun n hn => by cases hn) sp E' σ' h' hk'
    rw [← e']
    have e := wpOps_eq_wpList (P := P) (ops := ops) (Q := Q) (ops.toList.drop kx) kx (fun j => by rw [List.getElem?_drop, Array.getElem?_toList])
    rw [List.length_drop, Array.length_toList] at e
    rw [e]
    exact wOps_ok hT _ E' σ' a' K h' hk' fun E2 σ2 a2 h2 hd2 hk2 => hQ E2 σ2 a2 h2 (hd2.trans hd) hk2
  have a1 := drawn_any (B := B) hT (ops := (ops.toList.take kx).toArray) (Q := thenQ (wpOps P ops Q (List.range' kx (ops.size - kx))) Q) h hk (fun E' σ' a' h' hd hk' => hrest E' σ' a' h' hd hk')
  rw [hszp] at a1
  refine ⟨k1, fun l ho => ?_⟩
  have none : ∀ (n i : Nat), (Array.replicate n false).getD i false = false := by
    intro n i
    rw [Array.getD_eq_getD_getElem?, Array.getElem?_replicate]
    split <;> rfl
  have hu : ∀ n : Nat, undone (Array.replicate n false) = n := by
    intro n
    unfold undone
    rw [Array.toList_replicate, List.countP_replicate]
    simp
  obtain ⟨l1, e1, e2, e3⟩ := ord_cut hc _ (Array.replicate ops.size false) (Array.replicate kx false) (by simp) (by simp) (fun i o _ hL => by rw [none] at hL; cases hL) (fun i _ => by rw [none, none]) (fun i _ => none _ i) ho
  rw [e1]
  have hl := ord_len _ _ (by simp; omega) e3
  rw [hu] at hl
  exact run_pre k3 l1 _ _ _ e2 (any_list _ _ _ _ _ hl a1 e3)
theorem cut_ok (hm : P.follows .mixedOrders = true) (hT : TabOK P D) {sp : List Nat} {kx id : Nat} {ops : Array Oper} {E : Env} {σ : AS} {a : Act} {K : AS → Prop} {Q : Exit → Act → World → Prop} (h : Sim D B E σ a.tmps) (hk : wCutS D (FnOK P D) sp id kx ops.toList σ K)
    (hQ : ∀ E' σ' a', Sim D B E' σ' a'.tmps → a'.defers = a.defers → K σ' → Q .normal a' E'.w) : (Code.region id ops true).wp P Q a E.w := by
  unfold wCutS at hk
  have fin : backAll ops.toList 0 = true → (∀ l, OrdL ops l (Array.replicate ops.size false) → wpOps P ops Q l a E.drew.w) → (Code.region id ops true).wp P Q a E.w := by
    intro hb hall
    refine wp_region_draw fun t => ?_
    simp only [Region.schedule, hm, Bool.true_or, if_true]
    unfold Region.linearise
    exact hall _ (ord_lin hb ops.size t (Array.replicate ops.size false) (by simp) (by rw [rep_undone]; exact Nat.le_refl _))
  split at hk
  · obtain ⟨hb, hall⟩ := cut_good hT h hk hQ
    exact fin hb hall
  · rename_i sw hsw
    obtain ⟨hc, hk⟩ := hk
    have hb : backAll ops.toList 0 = true := by
      cases hq : swaps id sp with
      | nil => exact absurd hq hsw
      | cons x xs =>
        rw [hq] at hc
        simp only [okSws, Bool.and_eq_true] at hc
        exact hc.1.1.1.1
    have hsz : ∀ (sw : List Nat) (l : List Oper), (exSs sw l).length = l.length := by
      intro sw
      induction sw with
      | nil => intro l; rfl
      | cons x xs ih => intro l; rw [exSs, ih]; simp [exS, editL_len]
    refine fin hb (swaps_ord _ ops hc fun l ho => ?_)
    obtain ⟨_, g⟩ := cut_good (B := B) hT (ops := (exSs (swaps id sp) ops.toList).toArray) (Q := Q) h (by simpa using hk) hQ
    have g := g l
    rw [show (exSs (swaps id sp) ops.toList).toArray.size = ops.size by simp [hsz]] at g
    exact g ho
theorem pair_list {ops : Array Oper} {A B' : Nat} {a : Act} {w : World} {Q : Exit → Act → World → Prop} (hc : okPair A B' ops.toList = true) (a1 : ∀ l, OrdL (exA A B' ops.toList).toArray l (Array.replicate ops.size false) → wpOps P (exA A B' ops.toList).toArray Q l a w)
    (a2 : ∀ l, OrdL (exB A B' ops.toList).toArray l (Array.replicate ops.size false) → wpOps P (exB A B' ops.toList).toArray Q l a w) : ∀ l, OrdL ops l (Array.replicate ops.size false) → wpOps P ops Q l a w := by
  intro l ho
  simp only [okPair, Bool.and_eq_true, Nat.blt_eq] at hc
  obtain ⟨⟨c1, c2⟩, c3⟩ := hc
  have hB : B' < ops.size := by simpa using c2
  have hA : A < ops.size := by omega
  have eA := extA (ops := ops) (A := A) (B := B')
  have eB := extB (ops := ops) hA hB (by omega)
  rcases ord_or eA eB c3 hA hB (by omega) _ _ (Array.replicate ops.size false) (Array.replicate ops.size false) (by simp) ⟨rfl, fun i => rfl⟩ ⟨rfl, fun i => by rw [rep_none, rep_none]⟩ (rep_none _ A) (rep_none _ B') ho with g | g
  · refine eA.run _ _ _ ?_
    rw [List.map_id]
    exact a1 _ g
  · exact eB.run _ _ _ (a2 _ g)
theorem exA_len (A B' : Nat) (l : List Oper) : (exA A B' l).length = l.length := by simp [exA, editL_len]
theorem exB_len (A B' : Nat) (l : List Oper) : (exB A B' l).length = l.length := by simp [exB, editL_len]
theorem exSs_len : ∀ (sw : List Nat) (l : List Oper), (exSs sw l).length = l.length
  | [], l => rfl
  | x :: xs, l => by rw [exSs, exSs_len xs]; simp [exS, editL_len]
theorem tree_list (hT : TabOK P D) {sp : List Nat} {id : Nat} {E : Env} {σ : AS} {a : Act} {K : AS → Prop} {Q : Exit → Act → World → Prop} (h : Sim D B E σ a.tmps)
    (hQ : ∀ E' σ' a', Sim D B E' σ' a'.tmps → a'.defers = a.defers → K σ' → Q .normal a' E'.w) : ∀ (n : Nat) (ops : Array Oper), wTree D (FnOK P D) sp id n ops.toList σ K → ∀ l, OrdL ops l (Array.replicate ops.size false) → wpOps P ops Q l a E.drew.w
  | 0, _, hk => hk.elim
  | n + 1, ops, hk => by
    obtain ⟨s, hk⟩ := (show ∃ s : RStep, wStep D (FnOK P D) sp id (wTree D (FnOK P D) sp id n) s ops.toList σ K from hk)
    intro l ho
    have hl := ord_len _ _ (by simp) ho
    rw [rep_undone] at hl
    cases s with
    | done => exact any_list _ _ _ _ _ hl (drawn_any (B := B) hT h hk hQ) ho
    | cut kx => exact (cut_good hT h hk hQ).2 l ho
    | x kx => exact any_list _ _ _ _ _ hl (drawnX_any (B := B) hT h hk hQ) ho
    | pair A B' =>
      obtain ⟨hc, h1, h2⟩ := hk
      refine pair_list hc (fun l g => ?_) (fun l g => ?_) l ho
      · refine tree_list hT h hQ n _ (by simpa using h1) l ?_
        rw [show (exA A B' ops.toList).toArray.size = ops.size by simp [exA_len]]
        exact g
      · refine tree_list hT h hQ n _ (by simpa using h2) l ?_
        rw [show (exB A B' ops.toList).toArray.size = ops.size by simp [exB_len]]
        exact g
    | swap X Y =>
      obtain ⟨hc, h1⟩ := hk
      refine swaps_ord _ ops hc (fun l g => ?_) l ho
      refine tree_list hT h hQ n _ (by simpa using h1) l ?_
      rw [show (exSs [100 * X + Y] ops.toList).toArray.size = ops.size by simp [exSs_len]]
      exact g
theorem tree_ok (hm : P.follows .mixedOrders = true) (hT : TabOK P D) {sp : List Nat} {id : Nat} {ops : Array Oper} {E : Env} {σ : AS} {a : Act} {K : AS → Prop} {Q : Exit → Act → World → Prop} (n : Nat) (h : Sim D B E σ a.tmps) (hk : wTree D (FnOK P D) sp id n ops.toList σ K)
    (hQ : ∀ E' σ' a', Sim D B E' σ' a'.tmps → a'.defers = a.defers → K σ' → Q .normal a' E'.w) : (Code.region id ops true).wp P Q a E.w := by
  have hall := tree_list hT h hQ n ops hk
  have fin : backAll ops.toList 0 = true → (Code.region id ops true).wp P Q a E.w := by
    intro hb
    refine wp_region_draw fun t => ?_
    simp only [Region.schedule, hm, Bool.true_or, if_true]
    unfold Region.linearise
    exact hall _ (ord_lin hb ops.size t (Array.replicate ops.size false) (by simp) (by rw [rep_undone]; exact Nat.le_refl _))
  cases n with
  | zero => exact hk.elim
  | succ n =>
    obtain ⟨s, hk⟩ := (show ∃ s : RStep, wStep D (FnOK P D) sp id (wTree D (FnOK P D) sp id n) s ops.toList σ K from hk)
    cases s with
    | done => exact drawn_ok hm hT h hk hQ
    | cut kx => exact fin (cut_good hT h hk hQ).1
    | x kx => exact drawnX_ok hm hT h hk hQ
    | pair A B' =>
      obtain ⟨hc, _⟩ := hk
      simp only [okPair, Bool.and_eq_true] at hc
      exact fin hc.2
    | swap X Y =>
      obtain ⟨hc, _⟩ := hk
      simp only [okSws, Bool.and_eq_true] at hc
      exact fin hc.1.1.1.1
def exitOf : Ex → Exit
  | .normal => .normal
  | .exit id => .exit id
  | .ret => .ret

theorem W_ok (hm : P.follows .mixedOrders = true) (hT : TabOK P D) (sp : List Nat) (hn : ∀ n, swapN sp = some n → B.bx.length ≤ n ∧ B.shs.length ≤ n) : ∀ (c : Code) (E : Env) (σ : AS) (a : Act) (QA : Ex → AS → Prop) (Q : Exit → Act → World → Prop), Sim D B E σ a.tmps → W D (FnOK P D) sp c σ QA →
    (∀ e E' σ' a', Sim D B E' σ' a'.tmps → a'.defers = a.defers → QA e σ' → Q (exitOf e) a' E'.w) → c.wp P Q a E.w
  | .skip, E, σ, a, QA, Q, h, hk, hQ => wp_skip (hQ .normal E σ a h rfl hk)
  | .region id ops false, E, σ, a, QA, Q, h, hk, hQ => by
    obtain ⟨E1, σ1, e1, h1, hk1⟩ := ghost_ok hn sp E σ h hk
    rw [← e1]
    exact wp_region_list (wOps_ok hT ops.toList E1 σ1 a _ h1 hk1 fun E' σ' a' h' hd hk' => hQ .normal E' σ' a' h' hd hk')
  | .region id ops true, E, σ, a, QA, Q, h, hk, hQ => by
    obtain ⟨E1, σ1, e1, h1, hk1⟩ := ghost_ok hn sp E σ h hk
    rw [← e1]
    replace hk1 : (match flagT id sp with
      | true => wTree D (FnOK P D) sp id 20 ops.toList σ1 (QA .normal)
      | false => match flagC id sp with
        | some kx => wCutS D (FnOK P D) sp id kx ops.toList σ1 (QA .normal)
        | none => match flag2 id sp with
          | some ab => wPairS D (FnOK P D) sp id (ab / 100) (ab % 100) ops.toList σ1 (QA .normal)
          | none => match flagX id sp with
            | none => wDrawn D (FnOK P D) sp ops.toList σ1 (QA .normal)
            | some kx => wDrawnX D (FnOK P D) sp kx ops.toList σ1 (QA .normal)) := hk1
    split at hk1
    · exact tree_ok hm hT 20 h1 hk1 fun E' σ' a' h' hd hk' => hQ .normal E' σ' a' h' hd hk'
    split at hk1
    · exact cut_ok hm hT h1 hk1 fun E' σ' a' h' hd hk' => hQ .normal E' σ' a' h' hd hk'
    split at hk1
    · exact pairS_ok hm hT h1 hk1 fun E' σ' a' h' hd hk' => hQ .normal E' σ' a' h' hd hk'
    split at hk1
    · exact drawn_ok hm hT h1 hk1 fun E' σ' a' h' hd hk' => hQ .normal E' σ' a' h' hd hk'
    · exact drawnX_ok hm hT h1 hk1 fun E' σ' a' h' hd hk' => hQ .normal E' σ' a' h' hd hk'
  | .seq x y, E, σ, a, QA, Q, h, hk, hQ => by
    replace hk : (match flagJ (firstR y) sp with
      | false => W D (FnOK P D) sp x σ fun e σ' => match e with
        | .normal => W D (FnOK P D) sp y σ' QA
        | .exit id => QA (.exit id) σ'
        | .ret => QA .ret σ'
      | true => ∃ (keep : List Nat) (J : AS → Prop), (∀ τ, J τ → W D (FnOK P D) sp y τ QA) ∧ W D (FnOK P D) sp x σ fun e σ' => match e with
        | .normal => meetK (swapN sp) keep σ' J
        | .exit id => QA (.exit id) σ'
        | .ret => QA .ret σ') := hk
    split at hk
    · refine wp_seq (W_ok hm hT sp hn x E σ a _ _ h hk fun e E' σ' a' h' hd hk' => ?_)
      cases e with
      | normal => exact W_ok hm hT sp hn y E' σ' a' _ _ h' hk' fun e E2 σ2 a2 h2 hd2 hk2 => hQ e E2 σ2 a2 h2 (hd2.trans hd) hk2
      | exit id => exact hQ (.exit id) E' σ' a' h' hd hk'
      | ret => exact hQ .ret E' σ' a' h' hd hk'
    · obtain ⟨keep, J, hJ, hk⟩ := hk
      refine wp_seq (W_ok hm hT sp hn x E σ a _ _ h hk fun e E' σ' a' h' hd hk' => ?_)
      cases e with
      | normal =>
        obtain ⟨can, ids, k, hp⟩ := hk'
        have hb : B.bx.length ≤ (swapN sp).getD 0 + k ∧ B.shs.length ≤ (swapN sp).getD 0 + k := by
          cases hs : swapN sp with
          | none => rw [hs] at hp; exact hp.elim
          | some n =>
            obtain ⟨k1, k2⟩ := hn n hs
            simp only [Option.getD_some]
            omega
        obtain ⟨E1, σ1, e1, h1, hk1⟩ := perm_ok h' hn hp
        obtain ⟨E2, σ2, e2, h2, hk2, _⟩ := normC_ok h1 hb.1 hb.2 hk1
        have := W_ok hm hT sp hn y E2 σ2 a' _ _ h2 (hJ _ hk2) fun e E3 σ3 a3 h3 hd3 hk3 => hQ e E3 σ3 a3 h3 (hd3.trans hd) hk3
        rw [e2, e1] at this
        exact this
      | exit id => exact hQ (.exit id) E' σ' a' h' hd hk'
      | ret => exact hQ .ret E' σ' a' h' hd hk'
  | .cond c x y, E, σ, a, QA, Q, h, hk, hQ => by
    replace hk : (match evalO D σ.tm 0 c with
      | some (.sc (.bool t)) => Branch t (W D (FnOK P D) sp x σ QA) (W D (FnOK P D) sp y σ QA)
      | _ => False) := hk
    obtain ⟨nt, tm, m⟩ := σ
    split at hk
    · rename_i t hv
      obtain ⟨he, _⟩ := rep_sc.1 (eval_ok hT h hv)
      cases t with
      | true => exact wp_cond_true he (W_ok hm hT sp hn x E _ a QA Q h hk hQ)
      | false => exact wp_cond_false he (W_ok hm hT sp hn y E _ a QA Q h hk hQ)
    · exact hk.elim
  | .block id c, E, σ, a, QA, Q, h, hk, hQ => by
    refine wp_block (W_ok hm hT sp hn c E σ a _ _ h hk fun e E' σ' a' h' hd hk' => ?_)
    cases e with
    | normal => exact hQ .normal E' σ' a' h' hd hk'
    | exit id' =>
      simp only [exitOf, Exit.inBlock]
      simp only at hk'
      split at hk'
      · rename_i e
        rw [if_pos (Nat.eq_of_beq_eq_true e)]
        exact hQ .normal E' σ' a' h' hd hk'
      · rename_i e
        rw [if_neg (fun e' => by subst e'; simp at e)]
        exact hQ (.exit id') E' σ' a' h' hd hk'
    | ret => exact hQ .ret E' σ' a' h' hd hk'
  | .loop c, E, σ, a, QA, Q, h, hk, hQ => by
    obtain ⟨can, keep, I, μ, h0, hbody⟩ := hk
    have hb1 : B.bx.length ≤ σ.m.bx.length := by rw [← h.m.bxl]; exact h.fb.pre.length_le
    have hb2 : B.shs.length ≤ σ.m.bx.length := by have := h.shp.length_le; simpa [shsOf] using this
    obtain ⟨E1, σ1, e1, h1, hI⟩ := normX_ok h hb1 hb2 h0
    have key : ∀ (n : Nat) (E' : Env) (τ : AS) (a' : Act), Sim D B E' τ a'.tmps → a'.defers = a.defers → I τ → μ τ < n → Code.rounds P c Q n a' E'.w := by
      intro n
      induction n with
      | zero => intro E' τ a' _ _ _ hlt; omega
      | succ n ih =>
        intro E' τ a' h' hd' hI' hlt
        rw [rounds_succ]
        refine W_ok hm hT sp hn c E' τ a' _ _ h' (hbody τ hI') fun e E2 σ2 a2 h2 hd2 hk2 => ?_
        cases e with
        | normal =>
          obtain ⟨E3, σ3, e3, h3, ⟨hI3, hlt3⟩⟩ := normX_ok h2 hb1 hb2 hk2
          have := ih E3 σ3 a2 h3 (hd2.trans hd') hI3 (by omega)
          rw [e3] at this
          exact this
        | exit id => exact hQ (.exit id) E2 σ2 a2 h2 (hd2.trans hd') hk2
        | ret => exact hQ .ret E2 σ2 a2 h2 (hd2.trans hd') hk2
    have := key (μ σ1 + 1) E1 σ1 a h1 rfl hI (Nat.lt_succ_self _)
    rw [e1] at this
    exact wp_loop_rounds _ this
  | .exit id, E, σ, a, QA, Q, h, hk, hQ => wp_exit (hQ (.exit id) E σ a h rfl hk)
  | .ret, E, σ, a, QA, Q, h, hk, hQ => wp_ret (hQ .ret E σ a h rfl hk)
  | .rangeFunc .., _, _, _, _, _, _, hk, _ => hk.elim
  | .scope _, _, _, _, _, _, _, hk, _ => hk.elim
  | .label _, _, _, _, _, _, _, hk, _ => hk.elim
  | .goto _, _, _, _, _, _, _, hk, _ => hk.elim
  | .refuse _, _, _, _, _, _, _, hk, _ => hk.elim
/-- As many boxes as 'sp' tells are given. -/
def okSw (k : Nat) : Option Nat → Bool
  | none => true
  | some n => Nat.ble k n
/-- A function's contract, out of what its code makes of the arguments. -/
theorem fnok_of_Ws (sp : List Nat) (hm : P.follows .mixedOrders = true) (hT : TabOK P D) {f : Nat} {fn : Func} {c : Code} {args st : List AV} {Q : AV → List AV → Prop} (hf : P.funcs[f]? = some fn) (hb : fn.body = some c) (hname : (fn.name == "runtime.NumGoroutine") = false) (hn : args.length ≤ fn.ntmps)
    (hW : W D (FnOK P D) sp c ⟨fn.ntmps, idxA 0 args, ⟨boxesOf st, AV.rowss st, (AV.rowss st).length⟩⟩ (exitQ D st.length fn.results.toList Q)) (hsw : okSw st.length (swapN sp) = true := by rfl) : FnOK P D f args st Q := by
  refine ⟨fun E us hmm hnx ha => .inl ⟨fn, hf, hname, by rw [hb]; rfl, calls_of_wp hf hb ?_⟩⟩
  have hus := repL_len ha
  have hbl : E.bx.length = st.length := by rw [hmm.bxl]; simp [boxesOf]
  have h0 : Sim D ⟨E.w, E.lim, fun b => b ∈ claims E (AV.rowss st), E.bx, shsOf (boxesOf st)⟩ E ⟨fn.ntmps, idxA 0 args, ⟨boxesOf st, AV.rowss st, (AV.rowss st).length⟩⟩ (us.toArray ++ Array.replicate (fn.ntmps - us.toArray.size) undef) := by
    refine ⟨by simp; omega, hnx, hmm, ⟨rfl, rfl, rfl, Nat.le_refl _, Ext.refl _ _, fun _ _ _ => ⟨rfl, rfl⟩, fun b hb _ => hb, List.prefix_refl _⟩, fun t v hv => ?_, List.prefix_refl _⟩
    obtain ⟨_, u, g1, g2⟩ := idxA_at args us 0 ha t v hv
    rw [Nat.sub_zero] at g1
    have hlt := (List.getElem?_eq_some_iff.1 g1).1
    have e : (us.toArray ++ Array.replicate (fn.ntmps - us.toArray.size) undef).getD t undef = u := by
      rw [Array.getD_eq_getD_getElem?, Array.getElem?_append_left (by simpa using hlt)]
      simp [g1]
    rw [e]
    exact rep_of0 g2
  refine W_ok hm hT sp (fun n e => ?_) c E _ ⟨_, []⟩ _ _ h0 hW fun e E' σ' a' h' hd hk => ?_
  · rw [e] at hsw
    have hsw := Nat.le_of_ble_eq_true hsw
    simp only [shsOf, boxesOf, List.length_map]
    omega
  have fin : ∀ (hk : ∃ nt tm bx lv nx, σ' = ⟨nt, tm, ⟨bx, lv, nx⟩⟩ ∧ resK D tm bx fn.results.toList fun vs => ∃ (can : Bool) (extra : List Nat), tupK vs fun r => outC can st.length extra bx lv nx r Q),
      a'.defers = [] ∧ ∃ v, (results fn a'.tmps).run P E'.w = .ok v E'.w ∧ ∃ u, Ending.returned v = .returned u ∧ ∃ E2 r st', E2.w = E'.w ∧ MSim D E2 (boxesOf st') (AV.rows r ++ AV.rowss st') ∧ Rep E2 (shsOf (boxesOf st')) r u ∧
      FrameB ⟨E.w, E.lim, fun b => b ∈ claims E (AV.rowss st), E.bx, shsOf (boxesOf st)⟩ E2 (claims E2 (AV.rows r ++ AV.rowss st')) ∧ shsOf (boxesOf st) <+: shsOf (boxesOf st') ∧ Q r st' := by
    rintro ⟨nt, tm, bx, lv, nx, rfl, g0⟩
    obtain ⟨vs, us', ⟨can, extra, g1⟩, g2, g3⟩ := resK_ok (P := P) hT h' _ _ g0
    refine ⟨hd, _, run_results g3, _, rfl, ?_⟩
    exact outC_ok (B := ⟨E.w, E.lim, fun b => b ∈ claims E (AV.rowss st), E.bx, shsOf (boxesOf st)⟩) h' (tupOf_rep g2) (by simp [shsOf, boxesOf, hbl]) (by simp only; rw [hbl]; exact tupK_of g1)
  cases e with
  | exit id => exact hk.elim
  | normal =>
    obtain ⟨nt, tm, bx, lv, nx⟩ := σ'
    exact fin ⟨nt, tm, bx, lv, nx, rfl, hk⟩
  | ret =>
    obtain ⟨nt, tm, bx, lv, nx⟩ := σ'
    exact fin ⟨nt, tm, bx, lv, nx, rfl, hk⟩
/-- A function's contract, out of what its code makes of the arguments. -/
theorem fnok_of_W (hm : P.follows .mixedOrders = true) (hT : TabOK P D) {f : Nat} {fn : Func} {c : Code} {args st : List AV} {Q : AV → List AV → Prop} (hf : P.funcs[f]? = some fn) (hb : fn.body = some c) (hname : (fn.name == "runtime.NumGoroutine") = false) (hn : args.length ≤ fn.ntmps)
    (hW : W D (FnOK P D) [] c ⟨fn.ntmps, idxA 0 args, ⟨boxesOf st, AV.rowss st, (AV.rowss st).length⟩⟩ (exitQ D st.length fn.results.toList Q)) : FnOK P D f args st Q :=
  fnok_of_Ws [] hm hT hf hb hname hn hW
end
end Go.WL
namespace Go.WL

/-- A slot's number. -/
def slotI (τ : AS) (t : Nat) : Int := match lookV τ.tm t with
  | some (.sc (.int _ k)) => k
  | _ => 0

theorem w64 {x : Int} (h1 : -9223372036854775808 ≤ x) (h2 : x < 9223372036854775808) : IntKind.i64.wrap x = x := by
  simp [IntKind.wrap, IntKind.signed, IntKind.bits]
  omega
theorem wu64 {x : Int} (h1 : 0 ≤ x) (h2 : x < 18446744073709551616) : IntKind.u64.wrap x = x := by
  simp [IntKind.wrap, IntKind.signed, IntKind.bits]
  omega
theorem wu32 {x : Int} (h1 : 0 ≤ x) (h2 : x < 4294967296) : IntKind.u32.wrap x = x := by
  simp [IntKind.wrap, IntKind.signed, IntKind.bits]
  omega
theorem wu8 {x : Int} (h1 : 0 ≤ x) (h2 : x < 256) : IntKind.u8.wrap x = x := by
  simp [IntKind.wrap, IntKind.signed, IntKind.bits]
  omega
end Go.WL
namespace Go.WL

/-- The kinds of a law's arguments. -/
inductive ATy where
  | int (k : IntKind)
  | bool
  | str
  | sl (s : Shape) (a : ATy)
  | ar (n : Nat) (s : Shape) (a : ATy)
  | st (l : List ATy)

mutual
/-- What reads as such an argument. -/
def OfTy : ATy → AV → Prop
  | .int k, v => ∃ i, v = .sc (.int k i) ∧ (Lit.int k i).wf = true
  | .bool, v => ∃ b, v = .sc (.bool b)
  | .str, v => ∃ s : ByteArray, v = .sc (.string s) ∧ s.size ≤ maxLen
  | .sl s a, v => ∃ xs : List AV, v = .sl s xs .ro ∧ xs.length ≤ maxLen ∧ ∀ x ∈ xs, OfTy a x
  | .ar n s a, v => ∃ xs : List AV, v = .ar n s xs ∧ xs.length = n ∧ ∀ x ∈ xs, OfTy a x
  | .st l, v => ∃ xs : List AV, v = .st xs ∧ OfTys l xs
def OfTys : List ATy → List AV → Prop
  | [], vs => vs = []
  | a :: l, vs => ∃ v us, vs = v :: us ∧ OfTy a v ∧ OfTys l us
end

def seqO : List (Option ATy) → Option (List ATy)
  | [] => some []
  | none :: _ => none
  | some a :: l => match seqO l with
    | none => none
    | some m => some (a :: m)
theorem seqO_of : ∀ {l : List (Option ATy)} {m : List ATy}, seqO l = some m → l = m.map some
  | [], m, h => by simp [seqO] at h; subst h; rfl
  | none :: l, m, h => by simp [seqO] at h
  | some a :: l, m, h => by
    simp only [seqO] at h
    split at h
    · simp at h
    · rename_i m' hm
      simp only [Option.some.injEq] at h
      subst h
      rw [seqO_of hm]
      rfl

/-- A type's kind, out of the table. -/
def aty (D : Tabs) : Nat → Nat → Option ATy
  | 0, _ => none
  | n + 1, t => match lookT D.ty t with
    | none => none
    | some ti => match ti.k with
      | .int k => some (.int k)
      | .bool => some .bool
      | .str => some .str
      | .slice e => match lookT D.ty e with
        | none => none
        | some ei => match Nat.beq ei.sh.size 0 with
          | true => none
          | false => match aty D n e with
            | none => none
            | some a => some (.sl ei.sh a)
      | .arr m e => match lookT D.ty e with
        | none => none
        | some ei => match aty D n e with
          | none => none
          | some a => some (.ar m ei.sh a)
      | .strct fs => match seqO (fs.map fun f => aty D n f.1) with
        | none => none
        | some l => some (.st l)
      | _ => none

section
variable {w : World} {lim : Nat → Nat}
theorem prs_of : ∀ (shs : List Shape) (vs : List AV) (cs : List Value), vs.length = shs.length → cs.length = Shape.sizes shs →
    (∀ (i : Nat) (s : Shape) (v : AV), shs[i]? = some s → vs[i]? = some v → PR w lim v ((cs.drop (Shape.sizes (shs.take i))).take s.size)) → ∃ ps, PRs w lim vs ps ∧ cs = ps.flatten
  | [], [], cs, _, h2, _ => ⟨[], rfl, by simpa [Shape.sizes] using h2⟩
  | s :: shs, v :: vs, cs, h1, h2, h3 => by
    simp only [Shape.sizes] at h2
    obtain ⟨ps, h4, h5⟩ := prs_of shs vs (cs.drop s.size) (by simpa using h1) (by simp; omega) fun i s' v' hi hv => by
      have := h3 (i + 1) s' v' (by simpa using hi) (by simpa using hv)
      simpa [Shape.sizes, List.drop_drop] using this
    have h0 := h3 0 s v rfl rfl
    simp only [List.take_zero, Shape.sizes, List.drop_zero] at h0
    refine ⟨cs.take s.size :: ps, ⟨_, _, rfl, h0, h4⟩, ?_⟩
    rw [List.flatten_cons, ← h5, List.take_append_drop]
theorem rows_of (a : Addr) (sz : Nat) (Q : AV → Prop) : ∀ (len k : Nat), (∀ i, i < len → ∃ (cs : List Value) (v : AV), cs.length = sz ∧ (∀ j, j < sz → w.cell? (a.add ((k + i) * sz + j)) = cs[j]?) ∧ Q v ∧ PR w lim v cs) →
    ∃ (vs : List AV) (ps : List (List Value)), vs.length = len ∧ PRs w lim vs ps ∧ (∀ v ∈ vs, Q v) ∧ ps.flatten.length = len * sz ∧ ∀ j, j < len * sz → w.cell? (a.add (k * sz + j)) = ps.flatten[j]?
  | 0, k, _ => ⟨[], [], rfl, rfl, by simp, by simp, fun j h => by omega⟩
  | len + 1, k, h => by
    obtain ⟨cs, v, h1, h2, h3, h4⟩ := h 0 (by omega)
    obtain ⟨vs, ps, g1, g2, g3, g4, g5⟩ := rows_of a sz Q len (k + 1) fun i hi => by
      obtain ⟨cs, v, h1, h2, h3⟩ := h (i + 1) (by omega)
      exact ⟨cs, v, h1, fun j hj => by rw [← h2 j hj, show k + 1 + i = k + (i + 1) by omega], h3⟩
    refine ⟨v :: vs, cs :: ps, by simp [g1], ⟨_, _, rfl, h4, g2⟩, ?_, ?_, fun j hj => ?_⟩
    · intro x hx
      rcases List.mem_cons.1 hx with rfl | hx
      · exact h3
      · exact g3 x hx
    · rw [List.flatten_cons, List.length_append, h1, g4, Nat.add_mul]; omega
    · rw [List.flatten_cons]
      by_cases c : j < sz
      · rw [List.getElem?_append_left (by omega), ← h2 j c]
        congr 2
      · rw [List.getElem?_append_right (by omega), h1]
        rw [Nat.add_mul] at hj
        rw [← g5 (j - sz) (by omega)]
        congr 2
        rw [Nat.add_mul]; omega
end

section
variable {H : Type} {enc : TypeId × Value → H} {P : Program} {D : Tabs} {w : World} {base : Nat} {spare : Nat → Bool} {held : Bool}
theorem cellsOf_of {t : Nat} {ti : TI} (h : TyOK P D t ti) : P.cellsOf t = ti.sh.size := by
  obtain ⟨d, i, z, h1, h2, h3, _⟩ := h.fact
  simp [Program.cellsOf, h2, h3]
theorem aadd (a : Addr) (i j : Nat) : (a.add i).add j = a.add (i + j) := by
  simp only [Addr.add]
  by_cases h1 : i = 0
  · subst h1; simp
  · by_cases h2 : j = 0
    · subst h2; simp [h1]
    · rw [if_neg h2, if_neg h1, if_neg (by omega)]
      simp [Nat.add_assoc]
/-- What an argument of a type reads as. -/
theorem open_pr (hT : TabOK P D) : ∀ (n t : Nat) (ti : TI) (a : ATy), lookT D.ty t = some ti → aty D n t = some a → ∀ (fuel : Nat) (cs : List Value) (x : DataW H × List MemPlace), DataW.trod enc P w base spare held fuel t cs = some x →
    ∃ v, OfTy a v ∧ v.shape = ti.sh ∧ v.pure = true ∧ PR w (ground w).lim v cs
  | 0, t, ti, a, _, ha, _, _, _, _ => by simp [aty] at ha
  | n + 1, t, ti, a, hti, ha, fuel, cs, x, hx => by
    have hok := hT t ti hti
    have hcell := cellsOf_of hok
    obtain ⟨d, inf, z, h1, h2, h3, h4, hk, h5⟩ := hok.fact
    simp only [aty, hti] at ha
    cases hkk : ti.k with
    | int k =>
      rw [hkk] at ha hk
      simp only [Option.some.injEq] at ha
      obtain ⟨hsh, rfl⟩ := hk
      obtain ⟨i, rfl, _, hw⟩ := DataW.trod_int h1 hx
      subst ha
      exact ⟨_, ⟨i, rfl, hw⟩, by rw [hsh]; rfl, rfl, rfl, rfl⟩
    | bool =>
      rw [hkk] at ha hk
      simp only [Option.some.injEq] at ha
      obtain ⟨hsh, rfl⟩ := hk
      obtain ⟨i, rfl, _⟩ := DataW.trod_bool h1 hx
      subst ha
      exact ⟨_, ⟨i, rfl⟩, by rw [hsh]; rfl, rfl, rfl, rfl⟩
    | str =>
      rw [hkk] at ha hk
      simp only [Option.some.injEq] at ha
      obtain ⟨hsh, rfl⟩ := hk
      obtain ⟨i, rfl, _, hw⟩ := DataW.trod_string h1 hx
      subst ha
      exact ⟨_, ⟨i, rfl, hw⟩, by rw [hsh]; rfl, rfl, rfl, rfl⟩
    | slice e =>
      rw [hkk] at ha hk
      simp only at ha
      split at ha
      · simp at ha
      rename_i ei hei
      split at ha
      · simp at ha
      rename_i hsz
      split at ha
      · simp at ha
      rename_i b hb
      simp only [Option.some.injEq] at ha
      subst ha
      obtain ⟨hsh, rfl⟩ := hk
      have hce := cellsOf_of (hT e ei hei)
      have hpos : ei.sh.size ≠ 0 := by intro e; rw [e] at hsz; simp at hsz
      rcases DataW.trod_slice h1 hx with ⟨rfl, _⟩ | ⟨ad, len, cap, elems, rest, m, rfl, rfl, rfl, hb1, hl, hm, hlen, hel, _⟩
      · refine ⟨.sl ei.sh [] .ro, ⟨[], rfl, by simp, by simp⟩, by rw [hsh]; rfl, rfl, ⟨none, 0, rfl, Nat.le_refl _, by simp, fun x hx => by simp at hx, fun _ => rfl, .inl rfl⟩⟩
      · obtain ⟨vs, ps, g1, g2, g3, g4, g5⟩ := rows_of (w := w) (lim := (ground w).lim) ad ei.sh.size (fun v => OfTy b v ∧ v.shape = ei.sh ∧ v.pure = true) len 0 fun i hi => by
          have h := hel i hi
          have hlt : i < elems.length := by omega
          rw [List.getElem?_eq_getElem hlt, Option.bind_eq_some_iff] at h
          obtain ⟨cs, hc, ht⟩ := h
          obtain ⟨_, hc1, hc2⟩ := World.cells?_some hc
          obtain ⟨v, k1, k2, k3, k4⟩ := open_pr hT n e ei b hei hb m cs _ ht
          rw [hce] at hc1 hc2
          refine ⟨cs, v, hc1, fun j hj => ?_, ⟨k1, k2, k3⟩, k4⟩
          rw [← hc2 j hj, aadd, Nat.zero_add]
        refine ⟨.sl ei.sh vs .ro, ⟨vs, rfl, by omega, fun x hx => (g3 x hx).1⟩, by rw [hsh]; rfl, rfl, ⟨some ad, cap, by rw [g1], by rw [g1]; exact hl, by simp, fun x hx => (g3 x hx).2, by simp, ?_⟩⟩
        by_cases h0 : len = 0
        · left
          exact List.eq_nil_of_length_eq_zero (by omega)
        · right
          have hz : 0 < len * ei.sh.size := Nat.mul_pos (by omega) (by omega)
          have at0 := g5 0 hz
          have hsp : ad.spot = none := by
            rw [List.getElem?_eq_getElem (by omega)] at at0
            cases hs : ad.spot with
            | none => rfl
            | some p =>
              have e : (ad.add (0 * ei.sh.size + 0)).spot = some p := by simp [Addr.add, hs]
              simp only [World.cell?, e, Option.isSome_some, if_true] at at0
              split at at0 <;> simp at at0
          refine ⟨ad, ps, rfl, g2, hsp, fun i u hu => ?_, fun _ => ?_⟩
          · have hi : i < len * ei.sh.size := by have := (List.getElem?_eq_some_iff.1 hu).1; omega
            have := g5 i hi
            rw [add_eq hsp, hu, Nat.zero_mul, Nat.zero_add] at this
            exact this
          · have := g5 (len * ei.sh.size - 1) (by omega)
            rw [add_eq hsp, List.getElem?_eq_getElem (by omega), Nat.zero_mul, Nat.zero_add] at this
            have := ground_cell this
            rw [g4]
            omega
    | arr m e =>
      rw [hkk] at ha hk
      simp only at ha
      split at ha
      · simp at ha
      rename_i ei hei
      split at ha
      · simp at ha
      rename_i b hb
      simp only [Option.some.injEq] at ha
      subst ha
      obtain ⟨rfl, j, hj, hsh⟩ := hk
      rw [hei] at hj
      simp only [Option.some.injEq] at hj
      subst hj
      have hce := cellsOf_of (hT e ei hei)
      obtain ⟨xs, m', rfl, rfl, hcl, hxl, hel⟩ := DataW.trod_array h1 hx
      have all : ∀ i, i < m → ∃ v, OfTy b v ∧ v.shape = ei.sh ∧ v.pure = true ∧ PR w (ground w).lim v ((cs.drop (i * ei.sh.size)).take ei.sh.size) := by
        intro i hi
        have h := hel i hi
        rw [List.getElem?_eq_getElem (by omega), hce] at h
        exact open_pr hT n e ei b hei hb m' _ _ h
      obtain ⟨vs, hvl, hvs⟩ : ∃ vs : List AV, vs.length = m ∧ ∀ i v, vs[i]? = some v → OfTy b v ∧ v.shape = ei.sh ∧ v.pure = true ∧ PR w (ground w).lim v ((cs.drop (i * ei.sh.size)).take ei.sh.size) := by
        clear hel hcl hx hxl hsh h1 hcell hkk
        induction m with
        | zero => exact ⟨[], rfl, fun i v h => by simp at h⟩
        | succ m ih =>
          obtain ⟨vs, k1, k2⟩ := ih fun i hi => all i (by omega)
          obtain ⟨v, hv⟩ := all m (by omega)
          refine ⟨vs ++ [v], by simp [k1], fun i u hu => ?_⟩
          by_cases c : i < vs.length
          · rw [List.getElem?_append_left c] at hu
            exact k2 i u hu
          · rw [List.getElem?_append_right (by omega)] at hu
            have e0 : i - vs.length = 0 := by
              have := (List.getElem?_eq_some_iff.1 hu).1
              simp at this
              omega
            rw [e0] at hu
            simp only [List.getElem?_cons_zero, Option.some.injEq] at hu
            have : i = m := by omega
            subst hu
            rw [this]
            exact hv
      obtain ⟨ps, k1, k2⟩ := prs_of (w := w) (lim := (ground w).lim) (List.replicate m ei.sh) vs cs (by simp [hvl]) (by rw [sizes_replicate, hcl, hcell, hsh, Shape.size]) fun i s v hs hv => by
        rw [List.getElem?_replicate] at hs
        split at hs
        · rename_i hi
          simp only [Option.some.injEq] at hs
          subst hs
          rw [List.take_replicate, sizes_replicate, Nat.min_eq_left (by omega)]
          exact (hvs i v hv).2.2.2
        · simp at hs
      have mem : ∀ x ∈ vs, OfTy b x ∧ x.shape = ei.sh ∧ x.pure = true := by
        intro x hx
        obtain ⟨i, hi⟩ := List.getElem?_of_mem hx
        exact ⟨(hvs i x hi).1, (hvs i x hi).2.1, (hvs i x hi).2.2.1⟩
      exact ⟨.ar m ei.sh vs, ⟨vs, rfl, hvl, fun x hx => (mem x hx).1⟩, by rw [hsh]; rfl, rfl, hvl, fun x hx => (mem x hx).2, ps, k1, k2⟩
    | strct fs =>
      rw [hkk] at ha hk
      simp only at ha
      split at ha
      · simp at ha
      rename_i l hl
      simp only [Option.some.injEq] at ha
      subst ha
      obtain ⟨fields, shs, rfl, hsh, hf1, hf2, hf3⟩ := hk
      have hseq := seqO_of hl
      obtain ⟨xs, m, rfl, rfl, hcl, hxl, hel⟩ := DataW.trod_struct h1 hx
      have hll : l.length = shs.length := by
        have := congrArg List.length hseq
        simp at this
        omega
      have all : ∀ i, i < shs.length → ∃ v b s, l[i]? = some b ∧ shs[i]? = some s ∧ OfTy b v ∧ v.shape = s ∧ v.pure = true ∧ PR w (ground w).lim v ((cs.drop (Shape.sizes (shs.take i))).take s.size) := by
        intro i hi
        have hfi : fields[i]? = some fields[i] := Array.getElem?_eq_getElem (by omega)
        obtain ⟨j, k1, k2, k3, k4, _⟩ := hf3 i _ hfi
        have h := hel i _ hfi
        rw [List.getElem?_eq_getElem (by omega), k4, cellsOf_of (hT _ j k1)] at h
        have hb : (l.map some)[i]? = some (aty D n fields[i].type) := by rw [← hseq, List.getElem?_map, k2]; rfl
        rw [List.getElem?_map] at hb
        cases hlb : l[i]? with
        | none => simp [hlb] at hb
        | some b =>
          simp only [hlb, Option.map_some, Option.some.injEq] at hb
          obtain ⟨v, g1, g2, g3, g4⟩ := open_pr hT n _ j b k1 hb.symm m _ _ h
          exact ⟨v, b, j.sh, rfl, k3, g1, g2, g3, g4⟩
      have build : ∀ (l : List ATy) (shs : List Shape) (Q : Nat → AV → Prop), l.length = shs.length → (∀ i, i < shs.length → ∃ v b s, l[i]? = some b ∧ shs[i]? = some s ∧ OfTy b v ∧ v.shape = s ∧ v.pure = true ∧ Q i v) →
          ∃ vs : List AV, vs.length = shs.length ∧ OfTys l vs ∧ AV.shapes vs = shs ∧ AV.pures vs = true ∧ ∀ i v, vs[i]? = some v → Q i v := by
        intro l
        induction l with
        | nil =>
          intro shs Q hlen _
          have : shs = [] := List.eq_nil_of_length_eq_zero hlen.symm
          subst this
          exact ⟨[], rfl, rfl, rfl, rfl, fun i v h => by simp at h⟩
        | cons b l ih =>
          intro shs Q hlen h
          cases shs with
          | nil => simp at hlen
          | cons s shs =>
            obtain ⟨vs, k1, k2, k3, k4, k5⟩ := ih shs (fun i => Q (i + 1)) (by simpa using hlen) fun i hi => by
              have := h (i + 1) (by simpa using hi)
              simpa using this
            obtain ⟨v, b', s', e1, e2, g1, g2, g3, g4⟩ := h 0 (by simp)
            simp only [List.getElem?_cons_zero, Option.some.injEq] at e1 e2
            subst e1 e2
            refine ⟨v :: vs, by simp [k1], ⟨v, vs, rfl, g1, k2⟩, by rw [AV.shapes, g2, k3], by rw [AV.pures, g3, k4]; rfl, fun i u hu => ?_⟩
            cases i with
            | zero => simp only [List.getElem?_cons_zero, Option.some.injEq] at hu; subst hu; exact g4
            | succ i => exact k5 i u (by simpa using hu)
      obtain ⟨vs, k1, k2, k3, k4, k5⟩ := build l shs (fun i v => ∃ s, shs[i]? = some s ∧ PR w (ground w).lim v ((cs.drop (Shape.sizes (shs.take i))).take s.size)) hll fun i hi => by
        obtain ⟨v, b, s, g1, g2, g3, g4, g5, g6⟩ := all i hi
        exact ⟨v, b, s, g1, g2, g3, g4, g5, s, g2, g6⟩
      obtain ⟨ps, q1, q2⟩ := prs_of (w := w) (lim := (ground w).lim) shs vs cs k1 (by rw [hcl, hcell, hsh, Shape.size]) fun i s v hs hv => by
        obtain ⟨s', e, g⟩ := k5 i v hv
        rw [hs] at e
        simp only [Option.some.injEq] at e
        subst e
        exact g
      exact ⟨.st vs, ⟨vs, rfl, k2⟩, by rw [hsh, AV.shape, k3], by rw [AV.pure, k4], ps, q1, q2⟩
    | ptr e => simp [hkk] at ha
    | map a b => simp [hkk] at ha
    | func => simp [hkk] at ha
    | tup => simp [hkk] at ha
end
end Go.WL
namespace Go.WL
open Go.ChangeShapes Go.WideShapes Go.ChangeAt Go.RowKit

section
variable {H : Type} {enc : TypeId × Value → H} {P : Program} {D : Tabs} {W W' : World} {base : Nat} {spare : Nat → Bool} {held : Bool}
theorem okWide_array {n e t : Nat} {r : Reach} {v : Value} (ht : P.underlying t = some (.array n e)) (h : Value.okWide P W r base t v) : ∃ cs, v = .agg cs := by
  unfold Value.okWide at h
  rw [ht] at h
  obtain ⟨cs, h, _⟩ := h
  exact ⟨cs, h⟩

/-- An argument, as it comes in. -/
theorem open_arg (hT : TabOK P D) {t : Nat} {a : ATy} {n b0 : Nat} (ha : aty D n t = some a) {v : Value} {r : Reach} (hv : Value.okWide P W r b0 t v) {d : DataW H} {p : List MemPlace} (h : DataW.Trod enc P W base spare held t v d p) :
    ∃ x, OfTy a x ∧ Rep0 (ground W) [] x v := by
  obtain ⟨fuel, h⟩ := h
  cases hti : lookT D.ty t with
  | none => cases n <;> simp [aty, hti] at ha
  | some ti =>
    obtain ⟨x, h1, h2, h3, h4⟩ := open_pr hT n t ti a hti ha fuel _ _ h
    refine ⟨x, h1, ?_⟩
    obtain ⟨desc, inf, z, g1, _, _, _, hk, _⟩ := (hT t ti hti).fact
    have i4 := (IR_pure (E := ground W) (shs := []) x _ h3).2 h4
    have lf : ti.sh = .lf → v.cells.toList = [v] → Rep0 (ground W) [] x v := by
      intro e1 e2
      rw [rep0_lf (h2.trans e1), ← e2]
      exact i4
    have ag : ti.sh ≠ .lf → (∃ cs, v = .agg cs) → Rep0 (ground W) [] x v := by
      rintro e1 ⟨cs, rfl⟩
      rw [rep0_ag (fun e => e1 (h2.symm.trans e))]
      exact ⟨cs, rfl, i4⟩
    cases hkk : ti.k with
    | int k =>
      rw [hkk] at hk
      obtain ⟨e1, rfl⟩ := hk
      obtain ⟨_, rfl⟩ := okWide_int g1 hv
      exact lf e1 rfl
    | bool =>
      rw [hkk] at hk
      obtain ⟨e1, rfl⟩ := hk
      obtain ⟨_, rfl⟩ := okWide_bool g1 hv
      exact lf e1 rfl
    | str =>
      rw [hkk] at hk
      obtain ⟨e1, rfl⟩ := hk
      obtain ⟨_, rfl⟩ := okWide_string g1 hv
      exact lf e1 rfl
    | slice e =>
      rw [hkk] at hk
      obtain ⟨e1, rfl⟩ := hk
      obtain ⟨_, _, _, rfl⟩ := okWide_slice g1 hv
      exact lf e1 rfl
    | ptr e =>
      rw [hkk] at hk
      obtain ⟨e1, rfl⟩ := hk
      obtain ⟨_, rfl⟩ := okWide_pointer g1 hv
      exact lf e1 rfl
    | map a b =>
      rw [hkk] at hk
      obtain ⟨e1, rfl⟩ := hk
      obtain ⟨_, rfl⟩ := okWide_map g1 hv
      exact lf e1 rfl
    | func => cases n <;> simp [aty, hti, hkk] at ha
    | tup => cases n <;> simp [aty, hti, hkk] at ha
    | arr m e =>
      rw [hkk] at hk
      obtain ⟨rfl, j, _, e1⟩ := hk
      exact ag (by rw [e1]; simp) (okWide_array g1 hv)
    | strct fs =>
      rw [hkk] at hk
      obtain ⟨fields, shs, rfl, e1, _⟩ := hk
      obtain ⟨cs, e2, _⟩ := okWide_struct g1 hv
      exact ag (by rw [e1]; simp) ⟨cs, e2⟩

def atys (D : Tabs) (ts : List Nat) : Option (List ATy) := seqO (ts.map fun t => aty D 12 t)
theorem open_args (hT : TabOK P D) {b0 : Nat} {r : Reach} : ∀ (ts : List Nat) (as : List ATy) (vs : List Value) (ds : List (DataW H)) (p : List MemPlace), ts.map (fun t => aty D 12 t) = as.map some → DataW.TrodAll enc P W base spare held ts vs ds p →
    (∀ (j : Nat) t v, ts[j]? = some t → vs[j]? = some v → Value.okWide P W r b0 t v) → ∃ xs, OfTys as xs ∧ RepL (ground W) [] xs vs
  | [], as, vs, ds, p, ha, h, hv => by
    have : as = [] := by simpa using ha.symm
    subst this
    obtain ⟨rfl, _, _⟩ := trodAll_nil h
    exact ⟨[], rfl, rfl⟩
  | t :: ts, as, vs, ds, p, ha, h, hv => by
    cases as with
    | nil => simp at ha
    | cons a as =>
      simp only [List.map_cons, List.cons.injEq] at ha
      obtain ⟨v, vs', d, ds', p', q', rfl, rfl, rfl, h0, r0⟩ := trodAll_cons h
      obtain ⟨x, h1, h2⟩ := open_arg hT ha.1 (hv 0 t v rfl rfl) h0
      obtain ⟨xs, h3, h4⟩ := open_args hT ts as vs' ds' q' ha.2 r0 fun j t v e1 e2 => hv (j + 1) t v (by simpa using e1) (by simpa using e2)
      exact ⟨x :: xs, ⟨x, xs, rfl, h1, h3⟩, v, vs', rfl, h2, h4⟩
theorem shut_args (hl : laidOutB P = true) (hb : Below W.heap.size W W') : ∀ (ts : List Nat) (vs : List Value) (ds : List (DataW H)) (p : List MemPlace), (∀ t ∈ ts, P.readableRec t = true ∧ t < P.types.size) → DataW.TrodAll enc P W 0 (fun _ => true) true ts vs ds p →
    ∃ q, DataW.TrodAll enc P W' 0 (fun b => decide (b < W.heap.size)) true ts vs ds q
  | [], vs, ds, p, ha, h => by
    obtain ⟨rfl, rfl, rfl⟩ := trodAll_nil h
    exact ⟨[], rfl⟩
  | t :: ts, vs, ds, p, ha, h => by
    obtain ⟨v, vs', d, ds', p', q', rfl, rfl, rfl, h0, r0⟩ := trodAll_cons h
    obtain ⟨q, hq⟩ := shut_args hl hb ts vs' ds' q' (fun t ht => ha t (List.mem_cons_of_mem _ ht)) r0
    have lt : ∀ x ∈ p', x.block < W.heap.size := by obtain ⟨m, hm⟩ := h0; exact DataW.trod_lt m _ _ _ hm
    exact ⟨_, trodAll_cons_mk (Below.trod hl (ha t (by simp)).1 (ha t (by simp)).2 h0 hb lt) hq⟩
theorem trodAll_len : ∀ (ts : List Nat) (vs : List Value) (ds : List (DataW H)) (p : List MemPlace), DataW.TrodAll enc P W base spare held ts vs ds p → vs.length = ts.length ∧ ds.length = ts.length
  | [], vs, ds, p, h => by
    obtain ⟨rfl, rfl, rfl⟩ := trodAll_nil h
    exact ⟨rfl, rfl⟩
  | t :: ts, vs, ds, p, h => by
    obtain ⟨v, vs', d, ds', p', q', rfl, rfl, rfl, h0, r0⟩ := trodAll_cons h
    obtain ⟨h1, h2⟩ := trodAll_len ts vs' ds' q' r0
    simp [h1, h2]
end

/-- A law that reads no variable, and returns true by its contract, does what its statement says. -/
theorem law_lifted {C : Checked} {D : Tabs} (hT : TabOK C.prog D) (hgl : D.gl = []) (own : ownKnob C.prog.godebug = none) (laid : laidOutB C.prog = true) {f : Nat} {fn : Func} (noInit : C.prog.inits.idxOf? f = none) (hf : C.prog.funcs[f]? = some fn) (hb : fn.body.isNone = false)
    (hname : (fn.name == "runtime.NumGoroutine") = false) {s : ChangeSpec} {bt : Nat} {ts : List Nat} {tys : List ATy} (hbt : fn.resultTypes = #[bt]) (hbool : C.prog.underlying bt = some .bool) (hts : fn.params.toList = ts) (hread : (ts.all fun t => C.prog.readableRec t && decide (t < C.prog.types.size)) = true)
    (has : ts.map (fun t => aty D 12 t) = tys.map some) (hvars : s.vars = [])
    (hs : ∀ (H : Type) (ds : List (DataW H)), ds.length = ts.length → s.fn H ds = { results := [.lit (.bool true)], args := ds })
    {os : Os} (started : os.Started) {H : Type} {enc : TypeId × Value → H}
    (witness : ∃ (w : World) (tape : Tape) (i : Input), w.os = os ∧ (w.forCall tape i).Shaped C.prog ∧ i.vars = [] ∧ Input.okWide C.prog (w.forCall tape i) .any w.heap.size f i ∧
      s.pre6 enc C.prog fn [] false (w.forCall tape i).memory i.args ∧ ({} : Assume).holds C.prog (lone (Frame.enter C.prog f i.args .normal) [] (w.forCall tape i)))
    (contract : ∀ xs, OfTys tys xs → FnOK C.prog D f xs [] fun r _ => r = .sc (.bool true)) :
    ReturnsInHanded {} C os f .any (s.pre6 enc C.prog fn [] false) (s.post enc C.prog fn false true false false) := by
  refine returnsInHanded_of_change (C := C) own started noInit hf witness ?_
  intro W base args ds gs before hval hW hcnd _
  have hW' := hW
  obtain ⟨p, q, hA, hV, rfl, hfz, hnd⟩ := hW
  rw [hvars] at hV
  obtain ⟨rfl, rfl⟩ := trodVars_none hV
  rw [hts] at hA
  obtain ⟨xs, h1, h2⟩ := open_args hT ts tys args.toList ds p has hA fun j t v e1 e2 => hval j t v (by rw [← Array.getElem?_toList, hts]; exact e1) (by rw [← Array.getElem?_toList]; exact e2)
  have := law_of hf hb hname (fun g v h => by rw [hgl] at h; simp [lookV] at h) (contract xs h1) h2
  rw [Array.toArray_toList] at this
  refine this.mono fun e W' ⟨he, bel⟩ => ?_
  subst he
  obtain ⟨qa, hqa⟩ := shut_args laid bel ts args.toList ds p (fun t ht => by
    have := List.all_eq_true.1 hread t ht
    simpa using this) hA
  have hfn : s.fn H (ds ++ []) = { results := [.lit (.bool true)], args := ds } := by
    rw [List.append_nil]
    exact hs H ds (trodAll_len _ _ _ _ hA).2
  refine ⟨_, rfl, ds, [], _, [], qa, [], hW', ?_, ?_, ?_, bel.frame _, fun h => by cases h⟩
  · rw [hfn, hbt]
    exact trodAll_mk1 (shut_bool hbool _)
  · rw [hfn, hts]
    exact hqa
  · rw [hvars, hfn]
    rfl
end Go.WL
namespace Go.WL
open Go.ChangeShapes Go.WideShapes Go.ChangeAt Go.RowKit

/-- Integers as cells. -/
def ints (k : IntKind) (l : List Int) : List AV := l.map fun n => .sc (.int k n)
theorem prs_ints (w : World) (lim : Nat → Nat) (k : IntKind) : ∀ l : List Int, PRs w lim (ints k l) (l.map fun n => [.int k n])
  | [] => rfl
  | n :: l => ⟨[.int k n], _, rfl, ⟨rfl, rfl⟩, prs_ints w lim k l⟩
theorem flat_ints (k : IntKind) : ∀ l : List Int, (l.map fun n => [Value.int k n]).flatten = l.map fun n => .int k n
  | [] => rfl
  | n :: l => by simp [flat_ints k l]
theorem all_ints (k : IntKind) (l : List Int) : allSh .lf (ints k l) := by
  intro x hx
  obtain ⟨n, _, rfl⟩ := List.mem_map.1 hx
  exact ⟨rfl, rfl⟩

theorem laid_ints {P : Program} {W : World} {name : String} {g t e n fuel : Nat} {k : IntKind} {cs : Array Value} {p : List MemPlace} {l : List Int} (hg : P.globalNamed name = some g) (hv : W.var? P name = some cs)
    (ht : P.underlying t = some (.array n e)) (he : P.underlying e = some (.int k)) (hc : P.cellsOf e = 1) (hct : P.cellsOf t = n) (hn : 0 < n)
    (hd : DataW.trod (fun _ => ()) P W 0 (fun _ => true) false fuel t cs.toList = some (.agg (l.map fun x => .lit (.int k x)), p)) :
    (AV.ar n .lf (ints k l)).pure = true ∧ ∃ ds, PR W (ground W).lim (.ar n .lf (ints k l)) ds ∧ Lies W (ground W).lim ⟨g, 0, none⟩ ds := by
  obtain ⟨xs, m, rfl, hx, hlen, hxn, hel⟩ := DataW.trod_array ht hd
  simp only [Prod.mk.injEq, DataW.agg.injEq] at hx
  have hl : l.length = n := by
    have := congrArg List.length hx.1
    simp only [List.length_map] at this
    omega
  have hcell : ∀ i, i < n → W.cell? ⟨g, i, none⟩ = (l.map fun x => Value.int k x)[i]? := by
    intro i hi
    have h1 := hel i hi
    rw [hc, Nat.mul_one] at h1
    have hxi : xs[i]? = some xs[i] := List.getElem?_eq_getElem (by omega)
    rw [hxi] at h1
    obtain ⟨x, e1, e2, _⟩ := DataW.trod_int he h1
    have h2 : (l.map fun x => (DataW.lit (.int k x) : DataW Unit))[i]? = some xs[i].1 := by
      rw [hx.1, List.getElem?_map, hxi]
      rfl
    rw [List.getElem?_map, List.getElem?_eq_getElem (by omega)] at h2
    simp only [Option.map_some, Option.some.injEq] at h2
    rw [e2] at h2
    simp only [DataW.lit.injEq, Lit.int.injEq, true_and] at h2
    rw [World.var?_cell hg hv i, ← Array.getElem?_toList]
    have h3 : cs.toList[i]? = some (.int k x) := by
      have := congrArg (·[0]?) e1
      simpa using this
    rw [h3, List.getElem?_map, List.getElem?_eq_getElem (by omega), ← h2]
    rfl
  refine ⟨rfl, l.map fun x => .int k x, ⟨by simp [ints, hl], all_ints k l, _, prs_ints W _ k l, (flat_ints k l).symm⟩, rfl, fun i u hu => ?_, fun _ => ?_⟩
  · have hi : i < n := by
      have := (List.getElem?_eq_some_iff.1 hu).1
      simp at this; omega
    rw [Nat.zero_add, hcell i hi]
    exact hu
  · have h1 := hcell (n - 1) (by omega)
    rw [List.getElem?_eq_getElem (by simp; omega)] at h1
    have := ground_cell h1
    simp only [List.length_map, Nat.zero_add]
    omega

section
variable {P : Program} {H : Type} {enc : TypeId × Value → H}
theorem law_lifted_laid {C : Checked} {D : Tabs} (hT : TabOK C.prog D) {ld : List (String × DataW Unit)} (hgl : ∀ W, laidMetH C.prog ld W → ∀ g v, lookV D.gl g = some v → v.pure = true ∧ ∃ cs, PR W (ground W).lim v cs ∧ Lies W (ground W).lim ⟨g, 0, none⟩ cs)
    (own : ownKnob C.prog.godebug = none) (laid : laidOutB C.prog = true) {f : Nat} {fn : Func} (noInit : C.prog.inits.idxOf? f = none) (hf : C.prog.funcs[f]? = some fn) (hb : fn.body.isNone = false)
    (hname : (fn.name == "runtime.NumGoroutine") = false) {s : ChangeSpec} {bt : Nat} {ts : List Nat} {tys : List ATy} (hbt : fn.resultTypes = #[bt]) (hbool : C.prog.underlying bt = some .bool) (hts : fn.params.toList = ts) (hread : (ts.all fun t => C.prog.readableRec t && decide (t < C.prog.types.size)) = true)
    (has : ts.map (fun t => aty D 12 t) = tys.map some) (hvars : s.vars = [])
    (hs : ∀ (H : Type) (ds : List (DataW H)), ds.length = ts.length → s.fn H ds = { results := [.lit (.bool true)], args := ds })
    {os : Os} (started : os.Started)
    (witness : ∃ (w : World) (tape : Tape) (i : Input), w.os = os ∧ (w.forCall tape i).Shaped C.prog ∧ i.vars = [] ∧ Input.okWide C.prog (w.forCall tape i) .any w.heap.size f i ∧
      ((s.pre enc C.prog fn [] false (w.forCall tape i).memory i.args ∧ laidMetH C.prog ld (w.forCall tape i).memory) ∧ sizedMet enc C.prog fn (OpenSpec.ofChange s) false (w.forCall tape i).memory i.args) ∧ ({} : Assume).holds C.prog (lone (Frame.enter C.prog f i.args .normal) [] (w.forCall tape i)))
    (contract : ∀ xs, OfTys tys xs → FnOK C.prog D f xs [] fun r _ => r = .sc (.bool true)) :
    ReturnsInHanded {} C os f .any (fun w args => (s.pre enc C.prog fn [] false w args ∧ laidMetH C.prog ld w) ∧ sizedMet enc C.prog fn (OpenSpec.ofChange s) false w args) (s.post enc C.prog fn false true false false) := by
  refine returnsInHanded_of_change_and (C := C) (X := fun w _ => laidMetH C.prog ld w) (fun _ _ _ hh h => h.of_heap hh) own started noInit hf witness ?_
  intro W base args ds gs before hval hW _ _ hL _
  have hW' := hW
  obtain ⟨p, q, hA, hV, rfl, hfz, hnd⟩ := hW
  rw [hvars] at hV
  obtain ⟨rfl, rfl⟩ := trodVars_none hV
  rw [hts] at hA
  obtain ⟨xs, h1, h2⟩ := open_args hT ts tys args.toList ds p has hA fun j t v e1 e2 => hval j t v (by rw [← Array.getElem?_toList, hts]; exact e1) (by rw [← Array.getElem?_toList]; exact e2)
  have := law_of hf hb hname (hgl W hL) (contract xs h1) h2
  rw [Array.toArray_toList] at this
  refine this.mono fun e W' ⟨he, bel⟩ => ?_
  subst he
  obtain ⟨qa, hqa⟩ := shut_args laid bel ts args.toList ds p (fun t ht => by
    have := List.all_eq_true.1 hread t ht
    simpa using this) hA
  have hfn : s.fn H (ds ++ []) = { results := [.lit (.bool true)], args := ds } := by
    rw [List.append_nil]
    exact hs H ds (trodAll_len _ _ _ _ hA).2
  refine ⟨_, rfl, ds, [], _, [], qa, [], hW', ?_, ?_, ?_, bel.frame _, fun h => by cases h⟩
  · rw [hfn, hbt]
    exact trodAll_mk1 (shut_bool hbool _)
  · rw [hfn, hts]
    exact hqa
  · rw [hvars, hfn]
    rfl
end
end Go.WL
namespace Go.WL

/-- The second says less of the same value. -/
def Weak (v v' : AV) : Prop := v = v' ∨ (v.pure = true ∧ v'.pure = true ∧ v'.shape = v.shape ∧ ∀ (w : World) (lim : Nat → Nat) (cs : List Value), PR w lim v cs → PR w lim v' cs)
def Weaks : List AV → List AV → Prop
  | [], ys => ys = []
  | x :: xs, ys => ∃ y zs, ys = y :: zs ∧ Weak x y ∧ Weaks xs zs
theorem Weak.refl (v : AV) : Weak v v := .inl rfl
theorem Weaks.refl : ∀ xs : List AV, Weaks xs xs
  | [] => rfl
  | x :: xs => ⟨x, xs, rfl, .refl x, Weaks.refl xs⟩
theorem Weaks.nil : Weaks [] [] := rfl
theorem Weaks.cons {x y : AV} {xs ys : List AV} (h : Weak x y) (k : Weaks xs ys) : Weaks (x :: xs) (y :: ys) := ⟨y, ys, rfl, h, k⟩
theorem Weak.ro {s : Shape} {xs : List AV} : Weak (.sl s xs .ex) (.sl s xs .ro) := by
  refine .inr ⟨rfl, rfl, rfl, fun w lim cs h => ?_⟩
  obtain ⟨a, c, h1, h2, h3, h4, h5, h6⟩ := h
  exact ⟨a, c, h1, h2, by simp, h4, h5, h6⟩
theorem Weaks.len : ∀ {xs ys : List AV}, Weaks xs ys → ys.length = xs.length
  | [], ys, h => by rw [show ys = [] from h]
  | x :: xs, ys, h => by
    obtain ⟨y, zs, rfl, _, h⟩ := h
    simp [h.len]
theorem Weaks.sh {s : Shape} : ∀ {xs ys : List AV}, Weaks xs ys → allSh s xs → allSh s ys
  | [], ys, h, k => by rw [show ys = [] from h]; exact k
  | x :: xs, ys, h, k => by
    obtain ⟨y, zs, rfl, h0, h⟩ := h
    have k0 := k x (by simp)
    intro z hz
    rcases List.mem_cons.1 hz with rfl | hz
    · rcases h0 with rfl | ⟨_, h2, h3, _⟩
      · exact k0
      · exact ⟨h3.trans k0.1, h2⟩
    · exact h.sh (fun u hu => k u (List.mem_cons_of_mem _ hu)) z hz
theorem Weaks.prs {w : World} {lim : Nat → Nat} : ∀ {xs ys : List AV} {ps : List (List Value)}, Weaks xs ys → PRs w lim xs ps → PRs w lim ys ps
  | [], ys, ps, h, k => by rw [show ys = [] from h]; exact k
  | x :: xs, ys, ps, h, k => by
    obtain ⟨y, zs, rfl, h0, h⟩ := h
    obtain ⟨p, qs, rfl, k0, k⟩ := k
    refine ⟨p, qs, rfl, ?_, h.prs k⟩
    rcases h0 with rfl | ⟨_, _, _, h4⟩
    · exact k0
    · exact h4 _ _ _ k0
theorem Weak.sl {s : Shape} {xs ys : List AV} {m : Mark} (hm : m = .ex ∨ m = .ro) (h : Weaks xs ys) : Weak (.sl s xs m) (.sl s ys .ro) := by
  refine .inr ⟨by rcases hm with rfl | rfl <;> rfl, rfl, rfl, fun w lim cs k => ?_⟩
  obtain ⟨a, c, h1, h2, h3, h4, h5, h6⟩ := k
  refine ⟨a, c, by rw [h.len]; exact h1, by rw [h.len]; exact h2, by simp, h.sh h4, h5, ?_⟩
  rcases h6 with rfl | ⟨ad, ps, g1, g2, g3⟩
  · exact .inl h
  · exact .inr ⟨ad, ps, g1, h.prs g2, g3⟩
theorem Weak.rep0 {E : Env} {shs : List Shape} {v v' : AV} {u : Value} (h : Weak v v') (k : Rep0 E shs v u) : Rep0 E shs v' u := by
  rcases h with rfl | ⟨h1, h2, h3, h4⟩
  · exact k
  · by_cases hs : v.shape = .lf
    · rw [rep0_lf hs] at k
      rw [rep0_lf (h3.trans hs)]
      exact (IR_pure _ _ h2).2 (h4 _ _ _ ((IR_pure _ _ h1).1 k))
    · obtain ⟨cs, e, k⟩ := (rep0_ag hs).1 k
      exact (rep0_ag (fun e => hs (h3.symm.trans e))).2 ⟨cs, e, (IR_pure _ _ h2).2 (h4 _ _ _ ((IR_pure _ _ h1).1 k))⟩
theorem Weaks.repL {E : Env} {shs : List Shape} : ∀ {xs ys : List AV} {us : List Value}, Weaks xs ys → RepL E shs xs us → RepL E shs ys us
  | [], ys, us, h, k => by rw [show ys = [] from h]; exact k
  | x :: xs, ys, us, h, k => by
    obtain ⟨y, zs, rfl, h0, h⟩ := h
    obtain ⟨u, vs, rfl, k0, k⟩ := k
    exact ⟨u, vs, rfl, h0.rep0 k0, h.repL k⟩
/-- A contract holds of arguments of which more is known. -/
theorem FnOK.weak {P : Program} {D : Tabs} {f : Nat} {args args' st : List AV} {Q : AV → List AV → Prop} (h : FnOK P D f args' st Q) (hw : Weaks args args') : FnOK P D f args st Q :=
  ⟨fun E us h1 h2 h3 => h.run E us h1 h2 (hw.repL h3)⟩
/-- A slice of numbers, as an argument. -/
theorem ints_of {k : IntKind} {v : AV} (h : OfTy (.sl .lf (.int k)) v) : ∃ l : List Int, v = .sl .lf (l.map fun n => .sc (.int k n)) .ro ∧ l.length ≤ maxLen ∧ ∀ n ∈ l, (Lit.int k n).wf = true := by
  obtain ⟨xs, rfl, h1, h2⟩ := h
  have : ∀ xs : List AV, (∀ x ∈ xs, OfTy (.int k) x) → ∃ l : List Int, xs = l.map (fun n => .sc (.int k n)) ∧ ∀ n ∈ l, (Lit.int k n).wf = true := by
    intro xs
    induction xs with
    | nil => intro _; exact ⟨[], rfl, by simp⟩
    | cons x xs ih =>
      intro h
      obtain ⟨l, e, hl⟩ := ih fun y hy => h y (List.mem_cons_of_mem _ hy)
      obtain ⟨i, e2, hi⟩ := h x (by simp)
      refine ⟨i :: l, by rw [e, e2]; rfl, fun n hn => ?_⟩
      rcases List.mem_cons.1 hn with rfl | hn
      · exact hi
      · exact hl n hn
  obtain ⟨l, rfl, hl⟩ := this xs h2
  exact ⟨l, rfl, by simpa using h1, hl⟩
/-- Bytes, as an argument. -/
theorem bytes_of {v : AV} (h : OfTy (.sl .lf (.int .u8)) v) : ∃ b : List UInt8, v = .sl .lf (by8 b) .ro ∧ b.length ≤ maxLen := by
  obtain ⟨l, rfl, h1, hl⟩ := ints_of h
  obtain ⟨b, e1, e2⟩ := as_bytes l hl
  exact ⟨b, by rw [e1], by rw [e2]; exact h1⟩
theorem wf_i64 {i : Int} (h : (Lit.int .i64 i).wf = true) : -9223372036854775808 ≤ i ∧ i < 9223372036854775808 := by
  simp [Lit.wf, IntKind.min, IntKind.max, IntKind.signed, IntKind.bits] at h
  omega
theorem wf_u64 {i : Int} (h : (Lit.int .u64 i).wf = true) : 0 ≤ i ∧ i < 18446744073709551616 := by
  simp [Lit.wf, IntKind.min, IntKind.max, IntKind.signed, IntKind.bits] at h
  omega
theorem wf_u32 {i : Int} (h : (Lit.int .u32 i).wf = true) : 0 ≤ i ∧ i < 4294967296 := by
  simp [Lit.wf, IntKind.min, IntKind.max, IntKind.signed, IntKind.bits] at h
  omega
theorem wf_u16 {i : Int} (h : (Lit.int .u16 i).wf = true) : 0 ≤ i ∧ i < 65536 := by
  simp [Lit.wf, IntKind.min, IntKind.max, IntKind.signed, IntKind.bits] at h
  omega
theorem wf_u8 {i : Int} (h : (Lit.int .u8 i).wf = true) : 0 ≤ i ∧ i < 256 := by
  simp [Lit.wf, IntKind.min, IntKind.max, IntKind.signed, IntKind.bits] at h
  omega
end Go.WL
namespace Go.WL
theorem ints_map {k : IntKind} : ∀ xs : List AV, (∀ x ∈ xs, OfTy (.int k) x) → ∃ l : List Int, xs = l.map (fun n => .sc (.int k n)) ∧ ∀ n ∈ l, (Lit.int k n).wf = true
  | [], _ => ⟨[], rfl, by simp⟩
  | x :: xs, h => by
    obtain ⟨l, e, hl⟩ := ints_map xs fun y hy => h y (List.mem_cons_of_mem _ hy)
    obtain ⟨i, e2, hi⟩ := h x (by simp)
    refine ⟨i :: l, by rw [e, e2]; rfl, fun n hn => ?_⟩
    rcases List.mem_cons.1 hn with rfl | hn
    · exact hi
    · exact hl n hn
/-- An array of bytes, as an argument. -/
theorem arr_of {n : Nat} {v : AV} (h : OfTy (.ar n .lf (.int .u8)) v) : ∃ b : List UInt8, v = .ar n .lf (by8 b) ∧ b.length = n := by
  obtain ⟨xs, rfl, h1, h2⟩ := h
  obtain ⟨l, rfl, hl⟩ := ints_map xs h2
  obtain ⟨b, e1, e2⟩ := as_bytes l hl
  exact ⟨b, by rw [e1], by rw [e2]; simpa using h1⟩
theorem nat_u64 {i : Int} (h : (Lit.int .u64 i).wf = true) : ∃ n : Nat, i = (n : Int) ∧ n < 18446744073709551616 := by
  have := wf_u64 h
  exact ⟨i.toNat, by omega, by omega⟩
theorem nat_u32 {i : Int} (h : (Lit.int .u32 i).wf = true) : ∃ n : Nat, i = (n : Int) ∧ n < 4294967296 := by
  have := wf_u32 h
  exact ⟨i.toNat, by omega, by omega⟩
end Go.WL
namespace Go.WL
theorem arrs_map {n : Nat} : ∀ xs : List AV, (∀ x ∈ xs, OfTy (.ar n .lf (.int .u8)) x) → ∃ l : List (List UInt8), xs = l.map (fun b => .ar n .lf (by8 b)) ∧ ∀ b ∈ l, b.length = n
  | [], _ => ⟨[], rfl, by simp⟩
  | x :: xs, h => by
    obtain ⟨l, e, hl⟩ := arrs_map xs fun y hy => h y (List.mem_cons_of_mem _ hy)
    obtain ⟨b, e2, hb⟩ := arr_of (h x (by simp))
    refine ⟨b :: l, by rw [e, e2]; rfl, fun c hc => ?_⟩
    rcases List.mem_cons.1 hc with rfl | hc
    · exact hb
    · exact hl c hc
theorem arrs_of {n : Nat} {v : AV} (h : OfTy (.sl (.ar n .lf) (.ar n .lf (.int .u8))) v) : ∃ l : List (List UInt8), v = .sl (.ar n .lf) (l.map fun b => .ar n .lf (by8 b)) .ro ∧ ∀ b ∈ l, b.length = n := by
  obtain ⟨xs, rfl, h1, h2⟩ := h
  obtain ⟨l, rfl, hl⟩ := arrs_map xs h2
  exact ⟨l, rfl, hl⟩
theorem lists_map : ∀ xs : List AV, (∀ x ∈ xs, OfTy (.sl .lf (.int .u8)) x) → ∃ l : List (List UInt8), xs = l.map (fun b => .sl .lf (by8 b) .ro)
  | [], _ => ⟨[], rfl⟩
  | x :: xs, h => by
    obtain ⟨l, e⟩ := lists_map xs fun y hy => h y (List.mem_cons_of_mem _ hy)
    obtain ⟨b, e2, _⟩ := bytes_of (h x (by simp))
    exact ⟨b :: l, by rw [e, e2]; rfl⟩
theorem lists_of {v : AV} (h : OfTy (.sl .lf (.sl .lf (.int .u8))) v) : ∃ l : List (List UInt8), v = .sl .lf (l.map fun b => .sl .lf (by8 b) .ro) .ro ∧ l.length ≤ maxLen := by
  obtain ⟨xs, rfl, h1, h2⟩ := h
  obtain ⟨l, rfl⟩ := lists_map xs h2
  exact ⟨l, rfl, by simpa using h1⟩
end Go.WL
namespace Go.WL
def z32 : List UInt8 := [0, 0, 0, 0, 0, 0, 0, 0, 0, 0, 0, 0, 0, 0, 0, 0, 0, 0, 0, 0, 0, 0, 0, 0, 0, 0, 0, 0, 0, 0, 0, 0]
theorem z32_is : by8 z32 = List.replicate 32 (.sc (.int .u8 0)) := rfl
theorem snocU (l : List UInt8) (c : UInt8) : by8 l ++ [.sc (.int .u8 (c.toNat : Int))] = by8 (l ++ [c]) := by simp [by8]
theorem by8_ap (a b : List UInt8) : by8 a ++ by8 b = by8 (a ++ b) := by simp [by8]
end Go.WL
namespace Go.WL
open Go.RowKit
theorem cell_block {w : World} {a : Addr} {u : Value} (h : w.cell? a = some u) : a.block < w.heap.size := World.block_lt_of_cell? _ _ h
/-- The world below stands: so does all that is told of it. -/
theorem FnOK.ofBelow {P : Program} {D : Tabs} {f : Nat} {args : List AV} {Q : AV → List AV → Prop} (v : Value) (hv : simple v = true) (hQ : Q (.sc v) [])
    (h : ∀ (E : Env) (us : List Value), RepL E (shsOf (boxesOf [])) args us → CallsX P f us.toArray E.w fun u w' => u = v ∧ Below E.w.heap.size E.w w') : FnOK P D f args [] Q := by
  refine ⟨fun E us h1 h2 h3 => (h E us h3).mono fun u w' ⟨e, hb⟩ => ?_⟩
  subst e
  have hbx : E.bx = [] := by
    have := h1.bxl
    simpa [boxesOf] using this
  have hext : Ext E.w E.lim w' E.lim := by
    refine ⟨fun b o ho => ?_, fun _ => Nat.le_refl _⟩
    obtain ⟨x, hx⟩ := h1.lim b o ho
    exact World.cell?_of_block (a := ⟨b, o, none⟩) (hb.block b (cell_block hx))
  refine ⟨{ E with w := w' }, .sc u, [], rfl, ⟨h1.bxl, ?_, ?_, ?_, ?_, ?_⟩, ?_, ⟨hb.os, hb.tape, hb.output, hb.size, hext, ?_, ?_, List.prefix_refl _⟩, List.prefix_refl _, hQ⟩
  · intro id c fl b hc
    simp [boxesOf] at hc
  · intro r hr
    simp [AV.rows, AV.rowss] at hr
  · simp [claims, hbx, AV.rows, AV.rowss]
  · intro b o ho
    obtain ⟨x, hx⟩ := h1.lim b o ho
    exact ⟨x, (hext.cell b o ho).trans hx⟩
  · intro g x hg
    obtain ⟨k1, cs, k2, k3⟩ := h1.glob g x hg
    exact ⟨k1, cs, PR_ext hext _ _ k2, k3.ext hext⟩
  · show PR w' E.lim (.sc u) [u]
    exact ⟨rfl, hv⟩
  · intro b hb2 _
    exact ⟨hb.block b hb2, rfl⟩
  · intro b hb2
    simp [claims, hbx, AV.rows, AV.rowss] at hb2
theorem FnOK.ofCalls {P : Program} {D : Tabs} {f : Nat} {args : List AV} {Q : AV → List AV → Prop} (fn : Func) (hf : P.funcs[f]? = some fn) (hn : (fn.name == "runtime.NumGoroutine") = false) (hb : fn.body.isNone = false) (v : Value) (hv : simple v = true) (hQ : Q (.sc v) [])
    (h : ∀ (E : Env) (us : List Value), RepL E (shsOf (boxesOf [])) args us → Calls P f us.toArray E.w fun e w' => e = .returned v ∧ Below E.w.heap.size E.w w') : FnOK P D f args [] Q :=
  .ofBelow v hv hQ fun E us hr => .inl ⟨fn, hf, hn, hb, (h E us hr).mono fun e w' ⟨h1, h2⟩ => ⟨v, h1, rfl, h2⟩⟩
/-- One cell as an argument. -/
theorem repL_sc {E : Env} {shs : List Shape} {v : Value} {l : List AV} {us : List Value} (h : RepL E shs (.sc v :: l) us) : ∃ vs, us = v :: vs ∧ RepL E shs l vs := by
  obtain ⟨u, vs, rfl, h1, h2⟩ := h
  obtain ⟨e, _⟩ : [u] = [v] ∧ simple v = true := h1
  obtain rfl : u = v := by simpa using e
  exact ⟨vs, rfl, h2⟩
theorem prs_by8 {w : World} {lim : Nat → Nat} : ∀ (l : List UInt8) (ps : List (List Value)), PRs w lim (by8 l) ps → ps.flatten = l.map fun c => .int .u8 c.toNat
  | [], ps, h => by rw [show ps = [] from h]; rfl
  | c :: l, ps, h => by
    obtain ⟨p, qs, rfl, h1, h2⟩ := h
    obtain ⟨e, _⟩ : p = [.int .u8 c.toNat] ∧ _ := h1
    rw [List.flatten_cons, e, prs_by8 l qs h2]
    rfl
/-- An array of bytes as an argument. -/
theorem repL_ar8 {E : Env} {shs : List Shape} {n : Nat} {b : List UInt8} {l : List AV} {us : List Value} (h : RepL E shs (.ar n .lf (by8 b) :: l) us) : ∃ vs, us = .agg (b.map fun c => Value.int .u8 c.toNat).toArray :: vs ∧ b.length = n ∧ RepL E shs l vs := by
  obtain ⟨u, vs, rfl, h1, h2⟩ := h
  obtain ⟨cs, rfl, k⟩ := h1
  obtain ⟨k1, _, ps, k2, k3⟩ := k
  rw [prs_by8 b ps k2] at k3
  refine ⟨vs, ?_, by simpa [by8] using k1, h2⟩
  rw [← k3]
end Go.WL
namespace Go.WL
set_option maxRecDepth 20000
/-- Bytes, as a string. -/
def strB (l : List UInt8) : ByteArray := ⟨l.toArray⟩
theorem strB_app (a b : List UInt8) : strB a ++ strB b = strB (a ++ b) := by
  apply ByteArray.ext
  simp [strB]
theorem strB_size (l : List UInt8) : (strB l).size = l.length := by simp [strB, ByteArray.size]
theorem strB_list (l : List UInt8) : (strB l).toList = l := by rw [ByteArray.toList_eq]; simp [strB]
def hexd (n : Nat) : UInt8 := UInt8.ofNat (if n < 10 then 48 + n else 87 + n)
theorem hex_ext : ∀ n : Fin 16, (({ data := #[48, 49, 50, 51, 52, 53, 54, 55, 56, 57, 97, 98, 99, 100, 101, 102] } : ByteArray).extract n.val (n.val + 1)).data.toList = [hexd n.val] := by decide +kernel
theorem hex_at (n : Nat) (h : n < 16) : ({ data := #[48, 49, 50, 51, 52, 53, 54, 55, 56, 57, 97, 98, 99, 100, 101, 102] } : ByteArray).extract n (n + 1) = strB [hexd n] := by
  apply ByteArray.ext
  apply Array.toList_inj.1
  rw [hex_ext ⟨n, h⟩]
  rfl
def hexB (l : List UInt8) : List UInt8 := l.flatMap fun c => [hexd (c.toNat / 16), hexd (c.toNat % 16)]
theorem hexB_len (l : List UInt8) : (hexB l).length = 2 * l.length := by
  induction l with
  | nil => rfl
  | cons c l ih =>
    have : hexB (c :: l) = [hexd (c.toNat / 16), hexd (c.toNat % 16)] ++ hexB l := rfl
    have h2 : ([hexd (c.toNat / 16), hexd (c.toNat % 16)] : List UInt8).length = 2 := rfl
    have h3 := congrArg List.length this
    rw [List.length_append] at h3
    have h4 : (c :: l).length = l.length + 1 := rfl
    omega
theorem hexB_snoc (l : List UInt8) (i : Nat) (h : i < l.length) : hexB (l.take i) ++ [hexd (l[i].toNat / 16)] ++ [hexd (l[i].toNat % 16)] = hexB (l.take (i + 1)) := by
  rw [List.take_succ_eq_append_getElem h, hexB, hexB, List.flatMap_append, List.append_assoc]
  rfl
end Go.WL
namespace Go.WL
theorem at8u {l : List UInt8} {i : Nat} (h : i < l.length) : (by8 l)[i]? = some (.sc (.int .u8 (l[i].toNat : Int))) := by simp [by8, h]
theorem set8u (l : List UInt8) (i : Nat) (a : UInt8) : (by8 l).set i (.sc (.int .u8 (a.toNat : Int))) = by8 (l.set i a) := by simp [by8, List.map_set]
theorem bytes_strB (s : List UInt8) : bytesAV (strB s) = by8 s := by unfold bytesAV; rw [strB_list]
theorem strB_of (s : ByteArray) : s = strB s.data.toList := by apply ByteArray.ext; simp [strB]
theorem beq_strB (a b : List UInt8) : ((strB a).toList == (strB b).toList) = (a == b) := by rw [strB_list, strB_list]
theorem nil_str : (({ data := #[] } : ByteArray)).toList = [] := by rw [ByteArray.toList_eq]
end Go.WL
namespace Go.WL
theorem Weaks.pures : ∀ {xs ys : List AV}, Weaks xs ys → AV.pures xs = true → AV.pures ys = true ∧ AV.shapes ys = AV.shapes xs
  | [], ys, h, _ => by rw [show ys = [] from h]; exact ⟨rfl, rfl⟩
  | x :: xs, ys, h, hp => by
    obtain ⟨y, zs, rfl, h0, h⟩ := h
    simp only [AV.pures, Bool.and_eq_true] at hp
    have ih := h.pures hp.2
    have : y.pure = true ∧ y.shape = x.shape := by
      rcases h0 with rfl | ⟨_, h2, h3, _⟩
      · exact ⟨hp.1, rfl⟩
      · exact ⟨h2, h3⟩
    exact ⟨by simp only [AV.pures, this.1, ih.1, Bool.and_self], by simp only [AV.shapes, this.2, ih.2]⟩
theorem Weak.st {xs ys : List AV} (hp : AV.pures xs = true) (h : Weaks xs ys) : Weak (.st xs) (.st ys) := by
  have k := h.pures hp
  refine .inr ⟨hp, k.1, ?_, fun w lim cs hc => ?_⟩
  · simp only [AV.shape, k.2]
  · obtain ⟨ps, h1, h2⟩ := hc
    exact ⟨ps, h.prs h1, h2⟩
end Go.WL
namespace Go.WL
open Go
/-- Walk one turn of a loop whose continuation K is any k that grants what K grants at its normal end, and at one exit. -/
theorem enter1 {w : (Ex → AS → Prop) → Prop} {K : Ex → AS → Prop} {A : AS → Prop} {i0 : Nat} {S : AS} {p : Prop} (hA : ∀ τ, A τ → K .normal τ)
    (h : ∀ k : Ex → AS → Prop, (∀ τ, A τ → k .normal τ) → (p → k (.exit i0) S) → w k) (hB : p → K (.exit i0) S) : w K :=
  h K hA hB
/-- As 'enter1', where the turn may come back from the function too. -/
theorem enter2 {w : (Ex → AS → Prop) → Prop} {K : Ex → AS → Prop} {A R : AS → Prop} {i0 : Nat} {S : AS} {p : Prop} (hA : ∀ τ, A τ → K .normal τ) (hR : ∀ τ, R τ → K .ret τ)
    (h : ∀ k : Ex → AS → Prop, (∀ τ, A τ → k .normal τ) → (p → k (.exit i0) S) → (∀ τ, R τ → k .ret τ) → w k) (hB : p → K (.exit i0) S) : w K :=
  h K hA hB hR
/-- As 'enter1', whatever the ends: each is walked on from when it is reached. -/
theorem enter3 {w : (Ex → AS → Prop) → Prop} {K : Ex → AS → Prop} (h : ∀ k : Ex → AS → Prop, (∀ e τ, K e τ → k e τ) → w k) : w K := h K fun _ _ h => h
/-- A number's value kept out of sight, wherever it stands. -/
@[elab_as_elim] theorem swap {x y : Int} {motive : Int → Prop} (e : x = y) (h : ∀ v, v = y → motive v) : motive x := h x e
end Go.WL
namespace Go.WL
/-- One of the first n cells is taken out, the last of them cleared. -/
def del1 (L : List AV) (i n : Nat) (z : AV) : List AV := L.take i ++ (L.drop (i + 1)).take (n - (i + 1)) ++ z :: L.drop n
theorem del1_app {xs J : List AV} {i n : Nat} {z : AV} (hn : xs.length = n) (hi : i < n) : del1 (xs ++ J) i n z = xs.eraseIdx i ++ z :: J := by
  unfold del1
  have e1 : List.drop n (xs ++ J) = J := by rw [List.drop_append_of_le_length (by omega), List.drop_of_length_le (by omega), List.nil_append]
  have e2 : List.take (n - (i + 1)) (List.drop (i + 1) (xs ++ J)) = List.drop (i + 1) xs := by
    rw [List.drop_append_of_le_length (by omega), List.take_append_of_le_length (by simp; omega), List.take_of_length_le (by simp; omega)]
  rw [e1, e2, List.take_append_of_le_length (by omega), List.eraseIdx_eq_take_drop_succ]
theorem del1_of {L : List AV} {i n : Nat} {z : AV} (hi : i < n) (hn : n ≤ L.length) :
    List.take (n - 1) (List.take i L ++ List.take (n - (i + 1)) (List.drop (i + 1) L) ++ List.drop (n - 1) L) ++ List.replicate 1 z ++ List.drop (n - 1 + 1) (List.take i L ++ List.take (n - (i + 1)) (List.drop (i + 1) L) ++ List.drop (n - 1) L) = del1 L i n z := by
  have hl : (List.take i L ++ List.take (n - (i + 1)) (List.drop (i + 1) L)).length = n - 1 := by
    rw [List.length_append, List.length_take, List.length_take, List.length_drop]; omega
  unfold del1
  generalize List.take i L ++ List.take (n - (i + 1)) (List.drop (i + 1) L) = A at *
  rw [List.take_append_of_le_length (by omega), List.take_of_length_le (by omega), List.drop_append, List.drop_of_length_le (l := A) (by omega), hl, List.nil_append, List.drop_drop, show n - 1 + (n - 1 + 1 - (n - 1)) = n by omega, List.append_assoc]
  rfl
end Go.WL
namespace Go.WL
theorem run_overlaps_box {P : Program} (w : World) (tS tR e : TypeId) (ht : P.underlying tS = some (.slice e)) (size : Nat) (hz : ∀ w, (Go.sizeOf e).run P w = .ok size w)
    (a b : Addr) (la ca lb cb : Nat) (hne : a.block ≠ b.block) (tA tB : TypeId) (kA kB : Nat)
    (hsa : w.shape? a.block = some (tA, kA)) (hsb : w.shape? b.block = some (tB, kB)) (hkA : kA ≠ 0)
    (hfb : w.frozen? b = false) (hfe : w.frozen? { block := b.block, off := kB } = false) :
    (Extern.SlicesOverlaps.overlaps #[tS, tS] #[tR] #[.slice (some a) la ca, .slice (some b) lb cb]).run P w = .ok (.bool false) w := by
  have hnb : (a.block != b.block) = true := by simpa using hne
  have hnb' : (a.block == b.block) = false := by simpa using hne
  change Sem.run P (α := Value) (do
    let some t := (#[tS, tS] : Array TypeId)[0]? | stuck "slices.overlaps: no parameter types"
    let .slice elem ← underlying t | stuck "slices.overlaps: slice type expected"
    let size ← sizeOf elem
    match (some a : Option Addr), (some b : Option Addr) with
    | some a, some b =>
      if la = 0 ∨ lb = 0 ∨ size = 0 then pure (Value.bool false)
      else if a.block != b.block && (← frozen a) && (← frozen b) then unsupported .addressObserved
      else do
        if a.block != b.block then do
          noView a; noView b
          if ← mayBeOne a b then return Value.bool ((← choose (.extern "sameAddr.stringBytes" 2)) == 1)
        pure (Value.bool (a.block == b.block && a.off < b.off + lb * size && b.off < a.off + la * size))
    | _, _ => pure (Value.bool false)) w = _
  by_cases h0 : la = 0 ∨ lb = 0 ∨ size = 0
  · simp [run_underlying ht, hz, h0]
  · cases kA with
    | zero => exact absurd rfl hkA
    | succ kA =>
      cases hfa : w.frozen? a with
      | true => simp [run_underlying ht, hz, h0, hnb, hnb', frozen, noView, viewAt, mayBeOne, stringish, shape, Sem.run, hsa, hsb, hfa, hfb, hfe]
      | false =>
        cases hfa2 : w.frozen? { block := a.block, off := kA + 1 } with
        | true => simp [run_underlying ht, hz, h0, hnb, hnb', frozen, noView, viewAt, mayBeOne, stringish, shape, Sem.run, hsa, hsb, hfa, hfa2, hfb, hfe]
        | false => simp [run_underlying ht, hz, h0, hnb, hnb', frozen, noView, viewAt, mayBeOne, stringish, shape, Sem.run, hsa, hsb, hfa, hfa2, hfb, hfe]
theorem fz_of {w : World} {b : Nat} {cs : Array Value} {ty : TypeId} {fz : Nat × Nat} (h : w.heap[b]? = some (.cells cs ty fz)) (hf : fzOK cs fz) (o : Nat) : w.frozen? ⟨b, o, none⟩ = false := by
  unfold World.frozen?
  rw [h]
  obtain ⟨lo, hi⟩ := fz
  have hf : hi ≤ lo := by
    rcases hf with hf | hf
    · omega
    · exact hf
  simp only [Bool.and_eq_false_iff, decide_eq_false_iff_not]
  omega
theorem FnOK.overlaps {P : Program} {D : Tabs} {f : Nat} {fn : Func} {tS tR e : TypeId} {s : Shape} {x : AV} {m : Mark} {off len cap n : Nat} {L : List AV} (hf : P.funcs[f]? = some fn) (hn : (fn.name == "runtime.NumGoroutine") = false) (hb : fn.body.isNone = true) (hx : Extern.findNext fn = none)
    (he : Extern.find fn = some (Extern.SlicesOverlaps.overlaps #[tS, tS] #[tR])) (ht : P.underlying tS = some (.slice e)) (hs : 0 < s.size) (hz : ∀ w, (Go.sizeOf e).run P w = .ok s.size w) (hm : m = .ex ∨ m = .ro) :
    FnOK P D f [.sl s [x] m, .bs 0 [] s off len cap] [.ar n s L] (fun r st => r = .sc (.bool false) ∧ st = [.ar n s L]) := by
  refine ⟨fun E us h1 h2 h3 => ?_⟩
  obtain ⟨u, us2, rfl, k1, u2, us3, rfl, k2, k3⟩ := h3
  have k3 : us3 = [] := k3
  subst k3
  have k1 : IR E (shsOf (boxesOf [.ar n s L])) (.sl s [x] m) [u] := by rcases hm with rfl | rfl <;> exact k1
  obtain ⟨⟨ad, c, e1, _, _, hsh, _, hl⟩, _⟩ := k1
  simp only [List.cons.injEq, and_true] at e1
  subst e1
  obtain ⟨ad, ps, rfl, hp, hl⟩ := hl.resolve_left (by simp)
  obtain ⟨p, qs, rfl, hp1, hp2⟩ := hp
  have hp2 : qs = [] := hp2
  subst hp2
  have hpl := PR_len x p hp1
  rw [(hsh x (by simp)).1] at hpl
  obtain ⟨b, t, o, n2, o', g1, g2, _, _, _, _, _, e2⟩ := k2
  simp only [List.cons.injEq, and_true] at e2
  subst e2
  have g1 : E.bx[0]? = some b := g1
  obtain ⟨cs, ty, fz, q1, q2, q3, _, q5⟩ := h1.box 0 (.ar n s L) false b rfl g1
  have hlim := q5 rfl
  obtain ⟨v0, p', rfl⟩ : ∃ v0 p', p = v0 :: p' := by
    cases p with
    | nil => simp at hpl; omega
    | cons v0 p' => exact ⟨v0, p', rfl⟩
  have hcell := hl.2.1 0 v0 rfl
  have hlm := hl.2.2 (by simp)
  have hne : ad.block ≠ b := by
    intro e
    rw [e, hlim] at hlm
    simp at hlm
  obtain ⟨csA, tyA, fzA, ha⟩ : ∃ cs ty fz, E.w.heap[ad.block]? = some (.cells cs ty fz) := by
    unfold World.cell? at hcell
    split at hcell
    · rename_i c _ _ h; exact ⟨_, _, _, h⟩
    · simp at hcell
  have hcA : csA.size ≠ 0 := by
    intro h0
    have : csA[ad.off + 0]? = some v0 := by
      rw [cell_of ha] at hcell
      exact hcell
    have := (Array.getElem?_eq_some_iff.1 this).1
    omega
  refine .inr ⟨.bool false, E.w, ?_, E, .sc (.bool false), [.ar n s L], rfl, h1, ⟨rfl, rfl⟩, ⟨rfl, rfl, rfl, Nat.le_refl _, Ext.refl _ _, fun _ _ _ => ⟨rfl, rfl⟩, fun b hb _ => hb, List.prefix_refl _⟩, List.prefix_refl _, rfl, rfl⟩
  rw [run_callFunc_extern hf hn hb hx he]
  rw [show ([Value.slice (some ad) [x].length c, Value.slice (some ⟨b, o', none⟩) len cap] : List Value).toArray = #[.slice (some ad) 1 c, .slice (some ⟨b, o', none⟩) len cap] from rfl]
  rw [run_overlaps_box E.w tS tR e ht s.size hz ad ⟨b, o', none⟩ 1 c len cap hne tyA ty csA.size cs.size (by simp [World.shape?, ha]) (by simp [World.shape?, q1]) hcA (fz_of q1 q2 _) (fz_of q1 q2 _)]
  rfl
end Go.WL
namespace Go.WL
theorem ar_sh (n : Nat) (s : Shape) (A B : List AV) : Shape.eqb (AV.shape (.ar n s A)) (AV.shape (.ar n s B)) = true := eqb_refl _
theorem ble_no {a b : Nat} (h : Nat.ble a b = false) : b < a := by
  rcases Nat.lt_or_ge b a with h1 | h1
  · exact h1
  · rw [show Nat.ble a b = true by rw [Nat.ble_eq]; exact h1] at h; cases h
theorem at_take {L M : List AV} {n i : Nat} (h : L.take n = M) (hi : i < n) : L[i]? = M[i]? := by
  rw [← h, List.getElem?_take, if_pos hi]
/-- One is put in among the first n: as lists. -/
theorem ins_take {L L' : List AV} {n i : Nat} {x : AV} {α : Type} {f : α → AV} {l : List α} {a : α} (h : L'.take (n + 1) = L.take i ++ [x] ++ (L.drop i).take (n - i)) (hn : l.length = n) (hL : L.take n = l.map f) (hx : x = f a) (hi : i ≤ n) :
    L'.take (n + 1) = (l.take i ++ a :: l.drop i).map f := by
  have e1 : L.take i = (l.take i).map f := by
    rw [List.map_take, ← hL, List.take_take, Nat.min_eq_left hi]
  have e2 : (L.drop i).take (n - i) = (l.drop i).map f := by
    rw [List.map_drop, ← hL, List.drop_take]
  rw [h, e1, e2, hx]
  simp
theorem del_take {L : List AV} {n i : Nat} {z : AV} {α : Type} {f : α → AV} {l : List α} (hn : l.length = n) (hL : L.take n = l.map f) (hi : i < n) (hc : n ≤ L.length) : (del1 L i n z).take (n - 1) = (l.eraseIdx i).map f := by
  have hs : L = l.map f ++ L.drop n := by rw [← hL, List.take_append_drop]
  have e : del1 L i n z = (l.map f).eraseIdx i ++ z :: L.drop n := by
    conv => lhs; rw [hs]
    exact del1_app (by simpa using hn) hi
  rw [e, List.take_left' (by rw [List.length_eraseIdx, List.length_map, if_pos (by omega), hn])]
  rw [List.eraseIdx_eq_take_drop_succ, List.eraseIdx_eq_take_drop_succ, List.map_append, List.map_take, List.map_drop]
theorem del_len {L : List AV} {n i : Nat} {z : AV} (hi : i < n) (hc : n ≤ L.length) : (del1 L i n z).length = L.length := by
  unfold del1
  simp only [List.length_append, List.length_take, List.length_drop, List.length_cons]
  omega
end Go.WL
