/- A logic of values over the model: what each operation, call and loop makes of the state, shown right against the model. No condition beyond those that each theorem names. -/
import Derived.Tactics
import Derived.ChangeKeysEq
set_option linter.unusedVariables false
set_option linter.unusedSimpArgs false
namespace Go.WL

inductive Shape where
  | lf
  | nd (l : List Shape)
  | ar (n : Nat) (s : Shape)
  deriving Inhabited

mutual
def Shape.size : Shape → Nat
  | .lf => 1
  | .nd l => Shape.sizes l
  | .ar n s => n * s.size
def Shape.sizes : List Shape → Nat
  | [] => 0
  | s :: l => s.size + Shape.sizes l
end

mutual
def Shape.depth : Shape → Nat
  | .lf => 0
  | .nd l => Shape.depths l + 1
  | .ar _ s => s.depth + 1
def Shape.depths : List Shape → Nat
  | [] => 0
  | s :: l => max s.depth (Shape.depths l)
end

mutual
def Shape.eqb : Shape → Shape → Bool
  | .lf, .lf => true
  | .nd l, .nd m => Shape.eqbs l m
  | .ar n s, .ar m t => Nat.beq n m && Shape.eqb s t
  | _, _ => false
def Shape.eqbs : List Shape → List Shape → Bool
  | [], [] => true
  | s :: l, t :: m => Shape.eqb s t && Shape.eqbs l m
  | _, _ => false
end

/-- What is known of a slice's room: nothing; that there is none; that it is the row r's end, which nobody else lengthens. -/
inductive Mark where
  | ro
  | ex
  | own (r : Nat)
  deriving Inhabited

inductive AV where
  | sc (v : Value)
  | st (xs : List AV)
  | ar (n : Nat) (s : Shape) (xs : List AV)
  | tup (xs : List AV)
  | sl (s : Shape) (xs : List AV) (m : Mark)
  | rp (v : AV)
  | pt (id : Nat) (p : List Nat)
  | bs (id : Nat) (p : List Nat) (s : Shape) (off len cap : Nat)
  | fn (f : Nat) (caps : List AV)
  deriving Inhabited

/-- Bytes, as cells of a row. -/
def by8 (bs : List UInt8) : List AV := bs.map fun b => .sc (.int .u8 b.toNat)

mutual
def AV.shape : AV → Shape
  | .st xs => .nd (AV.shapes xs)
  | .ar n s _ => .ar n s
  | _ => .lf
def AV.shapes : List AV → List Shape
  | [] => []
  | x :: xs => x.shape :: AV.shapes xs
end

-- A value that hangs on nothing that changes. What lies in rows is so (their relation says it), so the look stops there.
mutual
def AV.pure : AV → Bool
  | .sc _ => true
  | .st xs => AV.pures xs
  | .ar _ _ _ => true
  | .sl _ _ m => match m with | .own _ => false | _ => true
  | .rp _ => true
  | _ => false
def AV.pures : List AV → Bool
  | [] => true
  | x :: xs => x.pure && AV.pures xs
end

-- Without its rights to lengthen.
mutual
def AV.dm : AV → AV
  | .st xs => .st (AV.dms xs)
  | .tup xs => .tup (AV.dms xs)
  | .sl s xs (.own _) => .sl s xs .ro
  | v => v
def AV.dms : List AV → List AV
  | [] => []
  | x :: xs => x.dm :: AV.dms xs
end
mutual
def dmK : AV → (AV → Prop) → Prop
  | .st xs, K => dmsK xs fun ys => K (.st ys)
  | .tup xs, K => dmsK xs fun ys => K (.tup ys)
  | .sl s xs (.own _), K => K (.sl s xs .ro)
  | v, K => K v
def dmsK : List AV → (List AV → Prop) → Prop
  | [], K => K []
  | x :: xs, K => dmK x fun y => dmsK xs fun ys => K (y :: ys)
end

/-- Numerals, so that small sums stand written out. -/
def nums : List Nat := [0, 1, 2, 3, 4, 5, 6, 7, 8, 9, 10, 11, 12, 13, 14, 15, 16, 17, 18, 19, 20, 21, 22, 23, 24, 25, 26, 27, 28, 29, 30, 31, 32, 33, 34, 35, 36, 37, 38, 39, 40, 41, 42, 43, 44, 45, 46, 47, 48, 49, 50, 51, 52, 53, 54, 55, 56, 57, 58, 59, 60, 61, 62, 63, 64, 65, 66, 67, 68, 69, 70, 71, 72, 73, 74, 75, 76, 77, 78, 79, 80, 81, 82, 83, 84, 85, 86, 87, 88, 89, 90, 91, 92, 93, 94, 95, 96, 97, 98, 99, 100, 101, 102, 103, 104, 105, 106, 107, 108, 109, 110, 111, 112, 113, 114, 115, 116, 117, 118, 119, 120, 121, 122, 123, 124, 125, 126, 127, 128, 129, 130, 131, 132, 133, 134, 135, 136, 137, 138, 139, 140, 141, 142, 143, 144, 145, 146, 147, 148, 149, 150, 151, 152, 153, 154, 155, 156, 157, 158, 159, 160, 161, 162, 163, 164, 165, 166, 167, 168, 169, 170, 171, 172, 173, 174, 175, 176, 177, 178, 179, 180, 181, 182, 183, 184, 185, 186, 187, 188, 189, 190, 191, 192, 193, 194, 195, 196, 197, 198, 199]
def nthK : List Nat → Nat → Nat → (Nat → Prop) → Prop
  | [], _, e, K => K e
  | x :: _, 0, _, K => K x
  | _ :: l, n + 1, e, K => nthK l n e K
def litK (e : Nat) (K : Nat → Prop) : Prop := nthK nums e e K

/-! ### Types -/
inductive TK where
  | int (k : IntKind)
  | bool
  | str
  | ptr (e : Nat)
  | slice (e : Nat)
  | arr (n e : Nat)
  | strct (fs : List (Nat × Nat))
  | map (k v : Nat)
  | func
  | tup
  deriving Inhabited
structure TI where
  k : TK
  sh : Shape
  bytes : Nat
  zero : AV
  deriving Inhabited
def lookT : List (Nat × TI) → Nat → Option TI
  | [], _ => none
  | (k, v) :: r, t => match Nat.beq k t with
    | true => some v
    | false => lookT r t

/-! ### States -/
structure Mem where
  bx : List (AV × Bool)
  lv : List Nat
  nx : Nat
structure AS where
  nt : Nat
  tm : List (Nat × AV)
  m : Mem

def lookV : List (Nat × AV) → Nat → Option AV
  | [], _ => none
  | (k, v) :: r, t => match Nat.beq k t with
    | true => some v
    | false => lookV r t
/-- What is known of a slot is given up. -/
def dropV : List (Nat × AV) → Nat → List (Nat × AV)
  | [], _ => []
  | (k, v) :: r, t => match Nat.beq k t with
    | true => dropV r t
    | false => (k, v) :: dropV r t

/-- What all texts of one program share: its types, its variables that never change. -/
structure Tabs where
  ty : List (Nat × TI)
  gl : List (Nat × AV)
  -- calls of these (3000000 and the function's number) take and give values that hang on no box: their order may be any
  q : List Nat

def Tabs.zeroSlice (D : Tabs) (t : Nat) : Option AV :=
  match lookT D.ty t with
  | some ⟨.slice e, _, _, _⟩ => match lookT D.ty e with
    | some ⟨_, sh, _, _⟩ => some (.sl sh [] .ex)
    | none => none
  | _ => none

def constAV (D : Tabs) (t : Nat) : Value → Option AV
  | .bool b => some (.sc (.bool b))
  | .int k n => some (.sc (.int k n))
  | .string s => some (.sc (.string s))
  | .pointer none => some (.sc (.pointer none))
  | .map none => some (.sc (.map none))
  | .nilFunc => some (.sc .nilFunc)
  | .nilIface => some (.sc .nilIface)
  | .slice none 0 0 => D.zeroSlice t
  | _ => none

def evalO (D : Tabs) (σ : List (Nat × AV)) (t : Nat) : Operand → Option AV
  | .tmp x => lookV σ x
  | .const v => constAV D t v
  | .global g => match lookV D.gl g with
    | some v => some (.rp v)
    | none => none
  | .func f => some (.fn f [])

/-- An operand that is no tuple. -/
def evalN (D : Tabs) (σ : List (Nat × AV)) (t : Nat) (x : Operand) : Option AV :=
  match evalO D σ t x with
  | some (.tup _) => none
  | some v => some v
  | none => none

def AS.put (σ : AS) (d : Option Nat) (v : AV) (K : AS → Prop) : Prop :=
  match σ with
  | ⟨nt, tm, m⟩ => match d with
    | none => K ⟨nt, tm, m⟩
    | some d => match Nat.blt d nt with
      | true => K ⟨nt, (d, v) :: tm, m⟩
      | false => False
def AS.drop (σ : AS) (d : Option Nat) : AS :=
  match σ with
  | ⟨nt, tm, m⟩ => match d with
    | none => ⟨nt, tm, m⟩
    | some d => ⟨nt, (d, .tup []) :: tm, m⟩
end Go.WL
namespace Go.WL

/-- A test: which way it goes is known, or told by whoever proves. -/
def Branch (b : Bool) (p q : Prop) : Prop := match b with
  | true => p
  | false => q
theorem Branch.of {b : Bool} {p q : Prop} (hp : b = true → p) (hq : b = false → q) : Branch b p q := by
  cases b
  · exact hq rfl
  · exact hp rfl
theorem Branch.yes {b : Bool} {p q : Prop} (h : b = true) (hp : p) : Branch b p q := by subst h; exact hp
theorem Branch.no {b : Bool} {p q : Prop} (h : b = false) (hq : q) : Branch b p q := by subst h; exact hq

/-! ### Numbers -/
def binI (op : BinOp) (k : IntKind) (x y : Int) (K : Value → Prop) : Prop :=
  match op with
  | .add => K (.int k (k.wrap (x + y)))
  | .sub => K (.int k (k.wrap (x - y)))
  | .mul => K (.int k (k.wrap (x * y)))
  | .quo => y ≠ 0 ∧ K (.int k (k.wrap (x.tdiv y)))
  | .rem => y ≠ 0 ∧ K (.int k (x.tmod y))
  | .and => K (.int k (k.wrap (BitVec.ofInt k.bits x &&& BitVec.ofInt k.bits y).toNat))
  | .or => K (.int k (k.wrap (BitVec.ofInt k.bits x ||| BitVec.ofInt k.bits y).toNat))
  | .xor => K (.int k (k.wrap (BitVec.ofInt k.bits x ^^^ BitVec.ofInt k.bits y).toNat))
  | .andNot => K (.int k (k.wrap (BitVec.ofInt k.bits x &&& ~~~BitVec.ofInt k.bits y).toNat))
  | .eql => K (.bool (x == y))
  | .neq => K (.bool (x != y))
  | .lss => K (.bool (decide (x < y)))
  | .leq => K (.bool (decide (x ≤ y)))
  | .gtr => K (.bool (decide (x > y)))
  | .geq => K (.bool (decide (x ≥ y)))
  | _ => False
def shiftI (op : BinOp) (k : IntKind) (x y : Int) (K : Value → Prop) : Prop :=
  match op with
  | .shl => 0 ≤ y ∧ K (.int k (k.wrap (x * 2 ^ min y.toNat k.bits)))
  | .shr => 0 ≤ y ∧ K (.int k (x.fdiv (2 ^ min y.toNat k.bits)))
  | _ => False
def eqK : IntKind → IntKind → Bool
  | .i8, .i8 | .i16, .i16 | .i32, .i32 | .i64, .i64 | .u8, .u8 | .u16, .u16 | .u32, .u32 | .u64, .u64 => true
  | _, _ => false
def binS (op : BinOp) (x y : ByteArray) (K : Value → Prop) : Prop :=
  match op with
  | .add => x.size + y.size < 4294967296 ∧ K (.string (x ++ y))
  | .eql => K (.bool (x.toList == y.toList))
  | .neq => K (.bool !(x.toList == y.toList))
  | .lss => K (.bool (Op.bytesLess x.toList y.toList))
  | .leq => K (.bool (Op.bytesLess x.toList y.toList || x.toList == y.toList))
  | .gtr => K (.bool !(Op.bytesLess x.toList y.toList || x.toList == y.toList))
  | .geq => K (.bool !(Op.bytesLess x.toList y.toList))
  | _ => False
-- Are two values of a type the same?
mutual
def wEq (D : Tabs) (t : Nat) : AV → AV → (Bool → Prop) → Prop
  | .sc v, y, K => match lookT D.ty t with
    | some ⟨.int _, _, _, _⟩ => match v, y with
      | .int k a, .sc (.int k' b) => match eqK k k' with
        | true => K (a == b)
        | false => False
      | _, _ => False
    | some ⟨.bool, _, _, _⟩ => match v, y with
      | .bool a, .sc (.bool b) => K (a == b)
      | _, _ => False
    | some ⟨.str, _, _, _⟩ => match v, y with
      | .string a, .sc (.string b) => K (a.toList == b.toList)
      | _, _ => False
    | _ => False
  | .ar n s xs, y, K => match lookT D.ty t with
    | some ⟨.arr n0 e, sh, _, _⟩ => match y with
      | .ar n' s' ys => match Shape.eqb (.ar n s) sh && Shape.eqb (.ar n' s') sh && Nat.beq n n0 with
        | true => match lookT D.ty e with
          | some ⟨.int .u8, _, _, _⟩ => ∃ as bs : List UInt8, xs = by8 as ∧ ys = by8 bs ∧ K (as == bs)
          | some ⟨.int k, _, _, _⟩ => ∃ as bs : List Int, xs = as.map (fun n => .sc (.int k n)) ∧ ys = bs.map (fun n => .sc (.int k n)) ∧ K (as == bs)
          | _ => False
        | false => False
      | _ => False
    | _ => False
  | .st xs, y, K => match lookT D.ty t with
    | some ⟨.strct fs, sh, _, _⟩ => match y with
      | .st ys => match Shape.eqb (.nd (AV.shapes xs)) sh && Shape.eqb (.nd (AV.shapes ys)) sh with
        | true => wEqs D fs xs ys K
        | false => False
      | _ => False
    | _ => False
  | _, _, _ => False
def wEqs (D : Tabs) (fs : List (Nat × Nat)) : List AV → List AV → (Bool → Prop) → Prop
  | [], ys, K => match fs, ys with
    | [], [] => K true
    | _, _ => False
  | x :: xs, ys, K => match fs, ys with
    | (t, _) :: fs', y :: ys' => wEq D t x y fun b => wEqs D fs' xs ys' fun c => K (b && c)
    | _, _ => False
end
def nilRes (op : BinOp) (b : Bool) (K : Value → Prop) : Prop :=
  match op with
  | .eql => K (.bool b)
  | .neq => K (.bool (!b))
  | _ => False
/-- Held against nil: 'sl': against a slice's nil. -/
def nilTest (D : Tabs) (t : Nat) (sl : Bool) (x : AV) (op : BinOp) (K : Value → Prop) : Prop :=
  match lookT D.ty t with
  | some ⟨.ptr _, _, _, _⟩ => match sl with
    | true => False
    | false => match x with
      | .sc (.pointer none) => nilRes op true K
      | .pt _ _ => nilRes op false K
      | .rp _ => nilRes op false K
      | _ => False
  | some ⟨.slice _, _, _, _⟩ => match sl with
    | false => False
    | true => match x with
      | .sl _ xs _ => ∀ b, (xs ≠ [] → b = false) → nilRes op b K
      | .bs _ _ _ _ _ _ => nilRes op false K
      | _ => False
  | _ => False
def isNil : Operand → Option Bool
  | .const (.slice none 0 0) => some true
  | .const (.pointer none) => some false
  | _ => none
def wBin (D : Tabs) (op : BinOp) (t : Nat) (x y : AV) (K : Value → Prop) : Prop :=
  match x, y with
  | .sc (.int k a), .sc (.int k' b) => match op with
    | .shl => shiftI .shl k a b K
    | .shr => shiftI .shr k a b K
    | op => match eqK k k' with
      | true => binI op k a b K
      | false => False
  | .sc (.string a), .sc (.string b) => binS op a b K
  | x, y => match op with
    | .eql => wEq D t x y fun b => K (.bool b)
    | .neq => wEq D t x y fun b => K (.bool (!b))
    | _ => False
def wUn (op : UnOp) (x : AV) (K : Value → Prop) : Prop :=
  match op, x with
  | .not, .sc (.bool b) => K (.bool (!b))
  | .neg, .sc (.int k n) => K (.int k (k.wrap (0 - n)))
  | .xor, .sc (.int k n) => K (.int k (k.wrap (BitVec.ofInt k.bits (if k.signed then -1 else k.max) ^^^ BitVec.ofInt k.bits n).toNat))
  | _, _ => False

/-! ### Places -/
/-- Where a path leads in a value, and what is there. -/
def rdK : AV → List Nat → (AV → Prop) → Prop
  | c, [], K => K c
  | .st xs, i :: p, K => match xs[i]? with
    | some x => rdK x p K
    | none => False
  | .ar _ _ xs, i :: p, K => ∃ x, xs[i]? = some x ∧ rdK x p K
  | _, _, _ => False
def wrK : AV → List Nat → AV → (AV → Prop) → Prop
  | c, [], v, K => match Shape.eqb c.shape v.shape with
    | true => K v
    | false => False
  | .st xs, i :: p, v, K => match xs[i]? with
    | some x => wrK x p v fun x' => K (.st (xs.set i x'))
    | none => False
  | .ar n s xs, i :: p, v, K => match v.pure with
    | true => ∃ x, xs[i]? = some x ∧ wrK x p v fun x' => K (.ar n s (xs.set i x'))
    | false => False
  | _, _, _, _ => False
def shAt : Shape → List Nat → Option Shape
  | s, [] => some s
  | .nd l, i :: p => match l[i]? with
    | some s => shAt s p
    | none => none
  | .ar _ s, _ :: p => shAt s p
  | _, _ => none

def boxK (bx : List (AV × Bool)) (id : Nat) (K : AV → Bool → Prop) : Prop :=
  match bx[id]? with
  | some (c, f) => K c f
  | none => False

/-- A slice's elements: their type, shape, and how many bytes. -/
def elemSh (D : Tabs) (t : Nat) (K : Nat → Shape → Nat → Prop) : Prop :=
  match lookT D.ty t with
  | some ⟨.slice e, _, _, _⟩ => match lookT D.ty e with
    | some ⟨_, sh, b, _⟩ => K e sh b
    | none => False
  | _ => False
/-- An array's: how many, and their shape. -/
def elemAr (D : Tabs) (t : Nat) (K : Nat → Shape → Prop) : Prop :=
  match lookT D.ty t with
  | some ⟨.arr _ _, .ar n sh, _, _⟩ => K n sh
  | _ => False

/-- A slice's elements now. -/
def readS (bx : List (AV × Bool)) (v : AV) (K : Shape → List AV → Prop) : Prop :=
  match v with
  | .sl s xs _ => K s xs
  | .bs id p _ off len _ => boxK bx id fun c _ => rdK c p fun a => match a with
    | .ar _ s xs => K s ((xs.drop off).take len)
    | _ => False
  | _ => False
def bytesAV (s : ByteArray) : List AV := by8 s.toList

def memb : List Nat → Nat → Bool
  | [], _ => false
  | x :: l, y => match Nat.beq x y with
    | true => true
    | false => memb l y
def rem : List Nat → Nat → List Nat
  | [], _ => []
  | x :: l, y => match Nat.beq x y with
    | true => rem l y
    | false => x :: rem l y

/-- What is appended, behind what is there; the room's rights are used up, and new ones come. -/
def appGo (nt : Nat) (tm : List (Nat × AV)) (bx : List (AV × Bool)) (lv : List Nat) (nx : Nat) (d : Option Nat) (sh : Shape) (xs ys : List AV) (K : AS → Prop) : Prop :=
  xs.length + ys.length < 4294967296 ∧ litK (nx + 1) fun nx' => AS.put ⟨nt, tm, ⟨bx, nx :: lv, nx'⟩⟩ d (.sl sh (xs ++ ys) (.own nx)) K
def appFits (nt : Nat) (tm : List (Nat × AV)) (bx : List (AV × Bool)) (lv : List Nat) (nx : Nat) (d : Option Nat) (sh : Shape) (xs ys : List AV) (m : Mark) (K : AS → Prop) : Prop :=
  match m with
  | .ro => False
  | .ex => appGo nt tm bx lv nx d sh xs ys K
  | .own r => match memb lv r with
    | true => appGo nt tm bx (rem lv r) nx d sh xs ys K
    | false => False
/-- What is appended: a text's bytes, a slice's elements, so many zeros. -/
def srcK (D : Tabs) (bx : List (AV × Bool)) (t2 e : Nat) (sh : Shape) (x : AV) (K : List AV → Prop) : Prop :=
  match lookT D.ty t2 with
  | some ⟨.str, _, _, _⟩ => match x with
    | .sc (.string b) => match Shape.eqb .lf sh with
      | true => K (bytesAV b)
      | false => False
    | _ => False
  | some ⟨.slice _, _, _, _⟩ => readS bx x fun sh'' ys => match Shape.eqb sh'' sh with
    | true => K ys
    | false => False
  | some ⟨.int _, _, _, _⟩ => match x with
    | .sc (.int _ n) => match lookT D.ty e with
      | some ⟨_, _, _, z⟩ => 0 ≤ n ∧ n < 4294967296 ∧ K (List.replicate n.toNat z)
      | none => False
    | _ => False
  | _ => False
/-- An array at a path, turned. -/
def arK : AV → List Nat → (List AV → List AV) → (AV → Prop) → Prop
  | .ar n s xs, [], g, K => K (.ar n s (g xs))
  | .st xs, i :: p, g, K => match xs[i]? with
    | some x => arK x p g fun x' => K (.st (xs.set i x'))
    | none => False
  | _, _, _, _ => False
-- a list of boxes, walked to its end, so that it stands written out
def forceB : List (AV × Bool) → (List (AV × Bool) → Prop) → Prop
  | [], K => K []
  | (c, f) :: l, K => forceB l fun l' => K ((c, f) :: l')
/-- Elements are laid into a box's array. -/
def layK (bx : List (AV × Bool)) (id : Nat) (p : List Nat) (at_ : Nat) (ys : List AV) (K : List (AV × Bool) → Prop) : Prop :=
  boxK bx id fun c f => match f with
    | true => False
    | false => arK c p (fun xs => xs.take at_ ++ ys ++ xs.drop (at_ + ys.length)) fun c' => forceB (bx.set id (c', false)) K
def wAppend (D : Tabs) (σ : AS) (d : Option Nat) (t t2 : Nat) (s x : AV) (K : AS → Prop) : Prop :=
  match σ with
  | ⟨nt, tm, ⟨bx, lv, nx⟩⟩ => elemSh D t fun e sh by_ => match Nat.ble by_ 4096 with
    | false => False
    | true => match s with
      | .sl sh' xs m => match Shape.eqb sh' sh with
        | false => False
        | true => srcK D bx t2 e sh x fun ys => appFits nt tm bx lv nx d sh xs ys m K
      | .bs id p sh' off len cap => match Shape.eqb sh' sh with
        | false => False
        | true => srcK D bx t2 e sh x fun ys => len + ys.length ≤ cap ∧ layK bx id p (off + len) ys fun bx' => AS.put ⟨nt, tm, ⟨bx', lv, nx⟩⟩ d (.bs id p sh' off (len + ys.length) cap) K
      | _ => False
/-- 'clear': of a slice of a box. -/
def wClear (D : Tabs) (σ : AS) (d : Option Nat) (t : Nat) (s : AV) (K : AS → Prop) : Prop :=
  match σ with
  | ⟨nt, tm, ⟨bx, lv, nx⟩⟩ => match d with
    | some _ => False
    | none => elemSh D t fun e sh _ => match s with
      | .bs id p sh' off len cap => match Shape.eqb sh' sh with
        | false => False
        | true => match lookT D.ty e with
          | some ⟨_, _, _, z⟩ => layK bx id p off (List.replicate len z) fun bx' => K ⟨nt, tm, ⟨bx', lv, nx⟩⟩
          | none => False
      | _ => False
end Go.WL
namespace Go.WL

/-! ### Calls: what is handed over, what comes back -/
-- which boxes a value names, in order
mutual
def AV.ids : AV → List Nat
  | .st xs => AV.idss xs
  | .tup xs => AV.idss xs
  | .pt id _ => [id]
  | .bs id _ _ _ _ _ => [id]
  | .fn _ cs => AV.idss cs
  | _ => []
def AV.idss : List AV → List Nat
  | [] => []
  | x :: xs => x.ids ++ AV.idss xs
end
mutual
def AV.rows : AV → List Nat
  | .st xs => AV.rowss xs
  | .tup xs => AV.rowss xs
  | .sl _ _ (.own r) => [r]
  | .fn _ cs => AV.rowss cs
  | _ => []
def AV.rowss : List AV → List Nat
  | [] => []
  | x :: xs => x.rows ++ AV.rowss xs
end
mutual
def AV.ren (f g : Nat → Nat) : AV → AV
  | .st xs => .st (AV.rens f g xs)
  | .tup xs => .tup (AV.rens f g xs)
  | .pt id p => .pt (f id) p
  | .bs id p s o l c => .bs (f id) p s o l c
  | .sl s xs (.own r) => .sl s xs (.own (g r))
  | .fn k cs => .fn k (AV.rens f g cs)
  | v => v
def AV.rens (f g : Nat → Nat) : List AV → List AV
  | [] => []
  | x :: xs => x.ren f g :: AV.rens f g xs
end
mutual
def renK (f g : Nat → Nat) : AV → (AV → Prop) → Prop
  | .st xs, K => rensK f g xs fun ys => K (.st ys)
  | .tup xs, K => rensK f g xs fun ys => K (.tup ys)
  | .pt id p, K => litK (f id) fun i => K (.pt i p)
  | .bs id p s o l c, K => litK (f id) fun i => K (.bs i p s o l c)
  | .sl s xs (.own r), K => litK (g r) fun i => K (.sl s xs (.own i))
  | .fn k cs, K => rensK f g cs fun ys => K (.fn k ys)
  | v, K => K v
def rensK (f g : Nat → Nat) : List AV → (List AV → Prop) → Prop
  | [], K => K []
  | x :: xs, K => renK f g x fun y => rensK f g xs fun ys => K (y :: ys)
end
def litsK : List Nat → (List Nat → Prop) → Prop
  | [], K => K []
  | x :: xs, K => litK x fun y => litsK xs fun ys => K (y :: ys)
def dedup : List Nat → List Nat → List Nat
  | acc, [] => acc.reverse
  | acc, x :: l => match memb acc x with
    | true => dedup acc l
    | false => dedup (x :: acc) l
def posOf : List Nat → Nat → Nat → Nat
  | [], _, _ => 0
  | x :: l, y, i => match Nat.beq x y with
    | true => i
    | false => posOf l y (i + 1)
def nthD : List Nat → Nat → Nat
  | [], _ => 0
  | x :: _, 0 => x
  | _ :: l, n + 1 => nthD l n
def contents (bx : List (AV × Bool)) : List Nat → Option (List AV)
  | [] => some []
  | i :: l => match bx[i]? with
    | some (c, false) => match contents bx l with
      | some cs => some (c :: cs)
      | none => none
    | _ => none
/-- What the boxes reach beside: one box further. -/
def more (bx : List (AV × Bool)) (ids : List Nat) : List Nat := match contents bx ids with
  | some cs => dedup [] (ids ++ AV.idss cs)
  | none => ids
def maxL : List Nat → Nat
  | [] => 0
  | x :: l => match Nat.ble (x + 1) (maxL l) with
    | true => maxL l
    | false => x + 1
def setAll (bx : List (AV × Bool)) : List Nat → List AV → List (AV × Bool)
  | i :: l, c :: cs => setAll (bx.set i (c, false)) l cs
  | _, _ => bx
def remAll (lv : List Nat) : List Nat → List Nat
  | [] => lv
  | r :: l => remAll (rem lv r) l
def allMemb (lv : List Nat) : List Nat → Bool
  | [] => true
  | r :: l => memb lv r && allMemb lv l
def noDup : List Nat → Bool
  | [] => true
  | r :: l => !(memb l r) && noDup l
def allLt (n : Nat) : List Nat → Bool
  | [] => true
  | r :: l => Nat.blt r n && allLt n l
def forceL : List AV → (List AV → Prop) → Prop
  | [], K => K []
  | c :: l, K => forceL l fun l' => K (c :: l')

/-- A slice of a box is handed on as what it reads; the box is written no more. -/
def freezeK (bx : List (AV × Bool)) : List AV → (List AV → List (AV × Bool) → Prop) → Prop
  | [], K => K [] bx
  | .bs id p s off len _ :: vs, K => boxK bx id fun c _ => match c.pure with
      | true => rdK c p fun a => match a with
        | .ar _ _ xs => forceB (bx.set id (c, true)) fun bx' => freezeK bx' vs fun us bx'' => K (.sl s ((xs.drop off).take len) .ro :: us) bx''
        | _ => False
      | false => False
  | v :: vs, K => dmK v fun u => freezeK bx vs fun us bx' => K (u :: us) bx'

abbrev CallT := Nat → List AV → List AV → (AV → List AV → Prop) → Prop

def back0 (nt : Nat) (tm : List (Nat × AV)) (bx : List (AV × Bool)) (lv : List Nat) (nx : Nat) (d : Option Nat) (r : AV) (st : List AV) (K : AS → Prop) : Prop :=
  match noDup (AV.rows r ++ AV.rowss st) && allLt st.length (AV.ids r ++ AV.idss st) with
  | false => False
  | true =>
    renK (fun i => bx.length + i) (fun k => nx + k) r fun r' =>
    rensK (fun i => bx.length + i) (fun k => nx + k) st fun st' =>
    litsK ((AV.rows r ++ AV.rowss st).map (fun k => nx + k)) fun rs =>
    litK (nx + maxL (AV.rows r ++ AV.rowss st)) fun nx' =>
    forceB (bx ++ st'.map (fun c => (c, false))) fun bx' =>
    AS.put ⟨nt, tm, ⟨bx', rs ++ lv, nx'⟩⟩ d r' K
def back1 (nt : Nat) (tm : List (Nat × AV)) (bx : List (AV × Bool)) (lv : List Nat) (nx : Nat) (d : Option Nat) (ids rows : List Nat) (r : AV) (st : List AV) (K : AS → Prop) : Prop :=
  match noDup (AV.rows r ++ AV.rowss st) && allLt st.length (AV.ids r ++ AV.idss st) && Nat.ble ids.length st.length with
  | false => False
  | true =>
    renK (fun i => match Nat.blt i ids.length with | true => nthD ids i | false => bx.length + (i - ids.length)) (fun k => nx + k) r fun r' =>
    rensK (fun i => match Nat.blt i ids.length with | true => nthD ids i | false => bx.length + (i - ids.length)) (fun k => nx + k) st fun st' =>
    litsK ((AV.rows r ++ AV.rowss st).map (fun k => nx + k)) fun rs =>
    litK (nx + maxL (AV.rows r ++ AV.rowss st)) fun nx' =>
    forceB (setAll bx ids (st'.take ids.length) ++ (st'.drop ids.length).map (fun c => (c, false))) fun bx' =>
    AS.put ⟨nt, tm, ⟨bx', rs ++ remAll lv rows, nx'⟩⟩ d r' K

/-- What a call makes of the state: 'F' tells of each function what it answers to which arguments and boxes. -/
def wCall (F : CallT) (σ : AS) (d : Option Nat) (f : Nat) (args : List AV) (K : AS → Prop) : Prop :=
  match σ with
  | ⟨nt, tm, ⟨bx0, lv, nx⟩⟩ => freezeK bx0 args fun as bx => match AV.pures as with
    | true => F f as [] fun r st => back0 nt tm bx lv nx d r st K
    | false => match contents bx (dedup [] (AV.idss as)) with
      | none => False
      | some c0 => litsK (more bx (dedup [] (dedup [] (AV.idss as) ++ AV.idss c0))) fun ids => match contents bx ids with
        | none => False
        | some cs => litsK (AV.rowss cs) fun rows => match allMemb lv rows && noDup rows && allMemb ids (AV.idss cs) && (AV.rowss as).isEmpty with
          | false => False
          | true =>
            rensK (fun i => posOf ids i 0) (fun k => posOf rows k 0) as fun as' =>
            rensK (fun i => posOf ids i 0) (fun k => posOf rows k 0) cs fun cs' =>
            F f as' cs' fun r st => back1 nt tm bx lv nx d ids rows r st K

/-! ### One operation -/
def evalA (D : Tabs) (σ : List (Nat × AV)) : List Operand → List Nat → Option (List AV)
  | [], _ => some []
  | o :: l, ts => match ts with
    | t :: ts' => match evalN D σ t o with
      | some v => match evalA D σ l ts' with
        | some vs => some (v :: vs)
        | none => none
      | none => none
    | [] => match evalN D σ 0 o with
      | some v => match evalA D σ l [] with
        | some vs => some (v :: vs)
        | none => none
      | none => none

def isConv (D : Tabs) (src dst : Nat) (x : AV) (K : AV → Prop) : Prop :=
  match lookT D.ty src with
  | none => False
  | some ⟨ks, _, _, _⟩ => match lookT D.ty dst with
    | some ⟨.int k, _, _, _⟩ => match x with
      | .sc (.int _ n) => K (.sc (.int k (k.wrap n)))
      | _ => False
    | some ⟨.str, _, _, _⟩ => match x with
      | .sc (.string s) => K (.sc (.string s))
      | .sl _ xs _ => match ks with
        | .slice e => match lookT D.ty e with
          | some ⟨.int .u8, _, _, _⟩ => ∃ bs : List UInt8, xs = by8 bs ∧ K (.sc (.string ⟨bs.toArray⟩))
          | _ => False
        | _ => False
      | _ => False
    | some ⟨.slice e, _, _, _⟩ => match x with
      | .sc (.string s) => match lookT D.ty e with
        | some ⟨.int .u8, _, _, _⟩ => s.size < 4294967296 ∧ K (.sl .lf (bytesAV s) .ro)
        | _ => False
      | _ => False
    | _ => False

/-- A bound of a slice expression. -/
def bnd (x : Option AV) (dflt : Nat) (K : Nat → Prop) : Prop :=
  match x with
  | none => K dflt
  | some (.sc (.int _ n)) => 0 ≤ n ∧ K n.toNat
  | _ => False
def wSlice (D : Tabs) (bx : List (AV × Bool)) (t : Nat) (x : AV) (lo hi mx : Option AV) (K : AV → Prop) : Prop :=
  match x with
  | .sc (.string s) => match mx with
    | none => match lookT D.ty t with
      | some ⟨.str, _, _, _⟩ => bnd lo 0 fun l => bnd hi s.size fun h => l ≤ h ∧ h ≤ s.size ∧ K (.sc (.string (s.extract l h)))
      | _ => False
    | _ => False
  | .sl s xs mk => elemSh D t fun _ sh _ => match Shape.eqb s sh with
    | false => False
    | true => bnd lo 0 fun l => bnd hi xs.length fun h => l ≤ h ∧ h ≤ xs.length ∧ match mx with
      | none => match hi with
        | none => match mk with
          | .ex => K (.sl s ((xs.drop l).take (h - l)) .ex)
          | _ => K (.sl s ((xs.drop l).take (h - l)) .ro)
        | some _ => match mk with
          | .ex => match xs with
            | [] => K (.sl s [] .ex)
            | _ :: _ => K (.sl s ((xs.drop l).take (h - l)) .ro)
          | _ => K (.sl s ((xs.drop l).take (h - l)) .ro)
      | some a => match hi with
        | none => False
        | some _ => bnd (some a) 0 fun c => c = h ∧ K (.sl s ((xs.drop l).take (h - l)) .ex)
  | .pt id p => match mx with
    | none => boxK bx id fun c _ => match shAt c.shape p with
      | some (.ar n s) => elemAr D t fun n0 sh => match Shape.eqb s sh && Nat.beq n n0 with
        | false => False
        | true => bnd lo 0 fun l => bnd hi n fun h => l ≤ h ∧ h ≤ n ∧ K (.bs id p s l (h - l) (n - l))
      | _ => False
    | _ => False
  | .rp (.ar n s xs) => match mx with
    | none => elemAr D t fun n0 sh => match Shape.eqb s sh && Nat.beq n n0 with
        | false => False
        | true => bnd lo 0 fun l => bnd hi n fun h => l ≤ h ∧ h ≤ n ∧ K (.sl s ((xs.drop l).take (h - l)) .ro)
    | _ => False
  | .bs id p s off len cap => match mx with
    | none => elemSh D t fun _ sh _ => match Shape.eqb s sh with
        | false => False
        | true => bnd lo 0 fun l => bnd hi len fun h => l ≤ h ∧ h ≤ cap ∧ K (.bs id p s (off + l) (h - l) (cap - l))
    | some a => match hi with
      | none => False
      | some b => elemSh D t fun _ sh _ => match Shape.eqb s sh with
        | false => False
        | true => bnd lo 0 fun l => bnd (some b) 0 fun h => bnd (some a) 0 fun c => l ≤ h ∧ h ≤ c ∧ c ≤ cap ∧ K (.bs id p s (off + l) (h - l) (c - l))
  | _ => False

/-- The parts are laid in, each of its place's shape. -/
def fillK : List AV → List (Nat × AV) → (List AV → Prop) → Prop
  | zs, [], K => K zs
  | zs, (i, v) :: l, K => match zs[i]? with
    | some z => match Shape.eqb z.shape v.shape with
      | true => fillK (zs.set i v) l K
      | false => False
    | none => False
def fillF (zs : List AV) (l : List (Nat × AV)) (K : List AV → Prop) : Prop :=
  match l with
  | [] => K zs
  | p :: l => fillK zs (p :: l) fun xs => forceL xs K
def evalP (D : Tabs) (σ : List (Nat × AV)) (ty : Nat → Nat) : List (Nat × Operand) → (List (Nat × AV) → Prop) → Prop
  | [], K => K []
  | (i, o) :: l, K => match evalN D σ (ty i) o with
    | some v => dmK v fun u => evalP D σ ty l fun vs => K ((i, u) :: vs)
    | none => False
def fieldTy (fs : List (Nat × Nat)) (i : Nat) : Nat := match fs[i]? with
  | some (t, _) => t
  | none => 0
def sndPure : List (Nat × AV) → Bool
  | [] => true
  | (_, v) :: l => v.pure && sndPure l

def wBuild (D : Tabs) (tm : List (Nat × AV)) (t : Nat) (parts : List (Nat × Operand)) (K : AV → Prop) : Prop :=
  match lookT D.ty t with
  | some ⟨.strct fs, _, _, .st zs⟩ => evalP D tm (fieldTy fs) parts fun vs => fillF zs vs fun xs => K (.st xs)
  | some ⟨.arr _ e, _, _, .ar n sh zs⟩ => evalP D tm (fun _ => e) parts fun vs => match sndPure vs with
      | true => fillF zs vs fun xs => K (.ar n sh xs)
      | false => False
  | _ => False

/-- A pointer's pointee, read. -/
def wLoad (D : Tabs) (bx : List (AV × Bool)) (t : Nat) (a : AV) (K : AV → Prop) : Prop :=
  match lookT D.ty t with
  | some ⟨_, sh, _, _⟩ => match a with
    | .rp v => match Shape.eqb sh v.shape with
      | true => K v
      | false => False
    | .pt id p => boxK bx id fun c _ => rdK c p fun v => match Shape.eqb sh v.shape with
      | true => K v
      | false => False
    | _ => False
  | none => False
def wFieldAddr (D : Tabs) (bx : List (AV × Bool)) (s : Nat) (a : AV) (f : Nat) (K : AV → Prop) : Prop :=
  match lookT D.ty s with
  | some ⟨.strct _, sh, _, _⟩ => match a with
    | .rp (.st xs) => match Shape.eqb sh (AV.shape (.st xs)) with
      | true => match xs[f]? with
        | some y => K (.rp y)
        | none => False
      | false => False
    | .pt id p => boxK bx id fun c _ => match shAt c.shape p with
      | some (.nd l) => match Shape.eqb sh (.nd l) with
        | true => match l[f]? with
          | some _ => K (.pt id (p ++ [f]))
          | none => False
        | false => False
      | _ => False
    | _ => False
  | _ => False
def wIndexAddr (D : Tabs) (bx : List (AV × Bool)) (t : Nat) (x ix : AV) (K : AV → Prop) : Prop :=
  match ix with
  | .sc (.int _ i) => match x with
    | .sl s xs _ => elemSh D t fun _ sh _ => match Shape.eqb s sh with
      | true => 0 ≤ i ∧ ∃ v, xs[i.toNat]? = some v ∧ K (.rp v)
      | false => False
    | .rp (.ar n s xs) => elemAr D t fun n0 sh => match Shape.eqb s sh && Nat.beq n n0 with
      | true => 0 ≤ i ∧ ∃ v, xs[i.toNat]? = some v ∧ K (.rp v)
      | false => False
    | .pt id p => boxK bx id fun c _ => match shAt c.shape p with
      | some (.ar n s) => elemAr D t fun n0 sh => match Shape.eqb s sh && Nat.beq n n0 with
        | true => 0 ≤ i ∧ i < (n : Int) ∧ K (.pt id (p ++ [i.toNat]))
        | false => False
      | _ => False
    | .bs id p s off len _ => elemSh D t fun _ sh _ => match Shape.eqb s sh with
      | true => 0 ≤ i ∧ i < (len : Int) ∧ K (.pt id (p ++ [off + i.toNat]))
      | false => False
    | _ => False
  | _ => False
def wIndex (D : Tabs) (t : Nat) (x ix : AV) (K : AV → Prop) : Prop :=
  match ix with
  | .sc (.int _ i) => match x with
    | .ar n s xs => elemAr D t fun n0 sh => match Shape.eqb s sh && Nat.beq n n0 with
      | true => 0 ≤ i ∧ ∃ v, xs[i.toNat]? = some v ∧ K v
      | false => False
    | .sc (.string b) => match lookT D.ty t with
      | some ⟨.str, _, _, _⟩ => 0 ≤ i ∧ ∃ c, b.toList[i.toNat]? = some c ∧ K (.sc (.int .u8 (c.toNat : Int)))
      | _ => False
    | _ => False
  | _ => False
def wField (D : Tabs) (t : Nat) (x : AV) (f : Nat) (K : AV → Prop) : Prop :=
  match lookT D.ty t with
  | some ⟨.strct _, sh, _, _⟩ => match x with
    | .st xs => match Shape.eqb sh (AV.shape (.st xs)) with
      | true => match xs[f]? with
        | some y => K y
        | none => False
      | false => False
    | _ => False
  | _ => False
/-- 'copy': into a slice of a box. -/
def cpGo (nt : Nat) (tm : List (Nat × AV)) (bx : List (AV × Bool)) (lv : List Nat) (nx : Nat) (d : Option Nat) (id : Nat) (p : List Nat) (off len : Nat) (ys : List AV) (K : AS → Prop) : Prop :=
  boxK bx id fun c f => match f with
    | true => False
    | false => rdK c p fun a => match a with
      | .ar n s' xs => wrK c p (.ar n s' (xs.take off ++ ys.take len ++ xs.drop (off + min ys.length len))) fun c' =>
        forceB (bx.set id (c', false)) fun bx' => AS.put ⟨nt, tm, ⟨bx', lv, nx⟩⟩ d (.sc (.int .i64 (min ys.length len : Nat))) K
      | _ => False
def wCopy (D : Tabs) (σ : AS) (d : Option Nat) (t : Nat) (dst x : AV) (K : AS → Prop) : Prop :=
  match σ with
  | ⟨nt, tm, ⟨bx, lv, nx⟩⟩ => match dst with
    | .bs id p s off len _ => elemSh D t fun _ sh _ => match Shape.eqb s sh with
      | true => match x with
        | .sc (.string b) => match Shape.eqb .lf sh with
          | true => cpGo nt tm bx lv nx d id p off len (bytesAV b) K
          | false => False
        | y => readS bx y fun s' ys => match Shape.eqb s' sh with
          | true => cpGo nt tm bx lv nx d id p off len ys K
          | false => False
      | false => False
    | _ => False
/-- The length of an array that a pointer leads to. -/
def lenP (D : Tabs) (t : Nat) (K : AV → Prop) : Prop := match lookT D.ty t with
  | some ⟨.ptr e, _, _, _⟩ => match lookT D.ty e with
    | some ⟨.arr n _, _, _, _⟩ => K (.sc (.int .i64 (n : Int)))
    | _ => False
  | _ => False
def wLen (D : Tabs) (t : Nat) (x : AV) (K : AV → Prop) : Prop :=
  match x with
  | .sl _ xs _ => elemSh D t fun _ _ _ => K (.sc (.int .i64 (xs.length : Int)))
  | .bs _ _ _ _ n _ => elemSh D t fun _ _ _ => K (.sc (.int .i64 (n : Int)))
  | .sc (.string s) => match lookT D.ty t with
    | some ⟨.str, _, _, _⟩ => K (.sc (.int .i64 (s.size : Int)))
    | _ => False
  | .ar n _ _ => match lookT D.ty t with
    | some ⟨.arr n0 _, _, _, _⟩ => match Nat.beq n n0 with
      | true => K (.sc (.int .i64 (n : Int)))
      | false => False
    | _ => False
  | .pt _ _ => lenP D t K
  | .rp _ => lenP D t K
  | _ => False
def wBuiltin (D : Tabs) (σ : AS) (d : Option Nat) (b : Builtin) (as : List AV) (ts : List Nat) (K : AS → Prop) : Prop :=
  match b with
  | .append => match as, ts with
    | [s, x], [t, t2] => wAppend D σ d t t2 s x K
    | _, _ => False
  | .len => match as, ts with
    | [x], [t] => wLen D t x fun v => σ.put d v K
    | _, _ => False
  | .copy => match as, ts with
    | [s, x], [t, _] => wCopy D σ d t s x K
    | _, _ => False
  | .clear => match as, ts with
    | [x], [t] => wClear D σ d t x K
    | _, _ => False
  | .min => match as with
    | [.sc (.int k a), .sc (.int k' b)] => match eqK k k' with
      | true => σ.put d (.sc (.int k (min a b))) K
      | false => False
    | _ => False
  | .max => match as with
    | [.sc (.int k a), .sc (.int k' b)] => match eqK k k' with
      | true => σ.put d (.sc (.int k (max a b))) K
      | false => False
    | _ => False
  | .cap => match as, ts with
    | [.sl _ xs .ex], [t] => match lookT D.ty t with
      | some ⟨.slice _, _, _, _⟩ => σ.put d (.sc (.int .i64 (xs.length : Int))) K
      | _ => False
    | [.bs _ _ _ _ _ c], [t] => match lookT D.ty t with
      | some ⟨.slice _, _, _, _⟩ => σ.put d (.sc (.int .i64 (c : Int))) K
      | _ => False
    | _, _ => False
  | _ => False
def wStore (nt : Nat) (tm : List (Nat × AV)) (bx : List (AV × Bool)) (lv : List Nat) (nx : Nat) (a v : AV) (K : AS → Prop) : Prop :=
  match a with
  | .pt id p => boxK bx id fun c f => match f with
    | true => False
    | false => wrK c p v fun c' => forceB (bx.set id (c', false)) fun bx' => K ⟨nt, tm, ⟨bx', lv, nx⟩⟩
  | _ => False
def optE (D : Tabs) (tm : List (Nat × AV)) (a : Option Operand) (K : Option AV → Prop) : Prop :=
  match a with
  | none => K none
  | some o => match evalO D tm 0 o with
    | some v => K (some v)
    | none => False
def arrSh (i : Option TI) (K : Nat → Shape → Prop) : Prop := match i with
  | some ⟨.arr n _, .ar _ s, _, _⟩ => K n s
  | _ => False

def allLf : List AV → Bool
  | [] => true
  | x :: xs => (match x with | .st _ => false | .ar _ _ _ => false | .tup _ => false | _ => true) && allLf xs

def wOp (D : Tabs) (F : CallT) (o : Oper) (σ : AS) (K : AS → Prop) : Prop :=
  match σ with
  | ⟨nt, tm, ⟨bx, lv, nx⟩⟩ => match o with
    | ⟨d, op, ty, _, _, _⟩ => match op with
      | .move x => match evalO D tm ty x with
        | some v => AS.put ⟨nt, tm, ⟨bx, lv, nx⟩⟩ d v K
        | none => False
      | .assign x => match evalO D tm ty x with
        | some v => AS.put ⟨nt, tm, ⟨bx, lv, nx⟩⟩ d v K
        | none => False
      | .pick c a b => match evalO D tm 0 c with
        | some (.sc (.bool t)) => Branch t
          (match evalO D tm ty a with | some v => AS.put ⟨nt, tm, ⟨bx, lv, nx⟩⟩ d v K | none => False)
          (match evalO D tm ty b with | some v => AS.put ⟨nt, tm, ⟨bx, lv, nx⟩⟩ d v K | none => False)
        | _ => False
      | .alloc e => match lookT D.ty e with
        | some ⟨_, _, _, z⟩ => litK bx.length fun id => forceB (bx ++ [(z, false)]) fun bx' => AS.put ⟨nt, tm, ⟨bx', lv, nx⟩⟩ d (.pt id []) K
        | none => False
      | .box e x => match lookT D.ty e with
        | some ⟨_, sh, _, _⟩ => match evalN D tm e x with
          | some v => match Shape.eqb sh v.shape with
            | true => dmK v fun u => litK bx.length fun id => forceB (bx ++ [(u, false)]) fun bx' => AS.put ⟨nt, tm, ⟨bx', lv, nx⟩⟩ d (.pt id []) K
            | false => False
          | none => False
        | none => False
      | .build t ps => wBuild D tm t ps.toList fun v => AS.put ⟨nt, tm, ⟨bx, lv, nx⟩⟩ d v K
      | .buildSlice t n ps => elemSh D t fun e sh _ => match Nat.ble (n * sh.size) 16777216 with
       | false => False
       | true => match lookT D.ty e with
        | some ⟨_, _, _, z⟩ => evalP D tm (fun _ => e) ps.toList fun vs => match sndPure vs with
          | true => fillF (List.replicate n z) vs fun xs => AS.put ⟨nt, tm, ⟨bx, lv, nx⟩⟩ d (.sl sh xs .ex) K
          | false => False
        | none => False
      | .load t a => match evalO D tm 0 a with
        | some p => wLoad D bx t p fun v => AS.put ⟨nt, tm, ⟨bx, lv, nx⟩⟩ d v K
        | none => False
      | .store t a x => match d with
        | some _ => False
        | none => match evalO D tm 0 a with
          | some p => match lookT D.ty t with
            | some ⟨_, sh, _, _⟩ => match evalN D tm t x with
              | some v => match Shape.eqb sh v.shape with
                | true => match v with
                  | .sl s xs m => wStore nt tm bx lv nx p (.sl s xs m) K
                  | v => dmK v fun u => wStore nt tm bx lv nx p u K
                | false => False
              | none => False
            | none => False
          | none => False
      | .nilCheck x => match evalO D tm ty x with
        | some (.pt id p) => AS.put ⟨nt, tm, ⟨bx, lv, nx⟩⟩ d (.pt id p) K
        | some (.rp v) => AS.put ⟨nt, tm, ⟨bx, lv, nx⟩⟩ d (.rp v) K
        | some (.fn f cs) => AS.put ⟨nt, tm, ⟨bx, lv, nx⟩⟩ d (.fn f cs) K
        | _ => False
      | .binOp op t x y _ => match isNil y with
        | some sl => match evalO D tm t x with
          | some v => nilTest D t sl v op fun b => AS.put ⟨nt, tm, ⟨bx, lv, nx⟩⟩ d (.sc b) K
          | none => False
        | none => match isNil x with
          | some sl => match evalO D tm t y with
            | some v => nilTest D t sl v op fun b => AS.put ⟨nt, tm, ⟨bx, lv, nx⟩⟩ d (.sc b) K
            | none => False
          | none => match evalO D tm t x with
            | some v => match evalO D tm t y with
              | some u => wBin D op t v u fun b => AS.put ⟨nt, tm, ⟨bx, lv, nx⟩⟩ d (.sc b) K
              | none => False
            | none => False
      | .unOp op t x => match evalO D tm t x with
        | some v => wUn op v fun b => AS.put ⟨nt, tm, ⟨bx, lv, nx⟩⟩ d (.sc b) K
        | none => False
      | .convert s t x => match evalO D tm s x with
        | some v => isConv D s t v fun u => AS.put ⟨nt, tm, ⟨bx, lv, nx⟩⟩ d u K
        | none => False
      | .sliceToArrayPointer t x => match evalO D tm 0 x with
        | some (.sl s xs _) => arrSh (lookT D.ty t) fun n s' => match Shape.eqb s s' && Nat.blt 0 n with
          | true => n ≤ xs.length ∧ AS.put ⟨nt, tm, ⟨bx, lv, nx⟩⟩ d (.rp (.ar n s (xs.take n))) K
          | false => False
        | _ => False
      | .makeFunc f first caps => match f with
        | .func k => match first.toList with
          | [] => match evalA D tm caps.toList [] with
            | some cs => match allLf cs with
              | true => dmsK cs fun cs' => AS.put ⟨nt, tm, ⟨bx, lv, nx⟩⟩ d (.fn k cs') K
              | false => False
            | none => False
          | _ => False
        | _ => False
      | .makeSlice t l c => elemSh D t fun e sh by_ => match lookT D.ty e with
        | some ⟨_, _, _, z⟩ => match evalO D tm 0 l with
          | some (.sc (.int _ n)) => match evalO D tm 0 c with
            | some (.sc (.int _ k)) => match Nat.ble by_ 4096 with
              | true => 0 ≤ n ∧ n ≤ k ∧ k < 4294967296 ∧ litK bx.length fun id =>
                forceB (bx ++ [(.ar k.toNat sh (List.replicate k.toNat z), false)]) fun bx' => AS.put ⟨nt, tm, ⟨bx', lv, nx⟩⟩ d (.bs id [] sh 0 n.toNat k.toNat) K
              | false => False
            | _ => False
          | _ => False
        | none => False
      | .slice t x lo hi mx => match evalO D tm 0 x with
        | some v => optE D tm lo fun l => optE D tm hi fun h => optE D tm mx fun m =>
          wSlice D bx t v l h m fun u => AS.put ⟨nt, tm, ⟨bx, lv, nx⟩⟩ d u K
        | none => False
      | .fieldAddr s x f => match evalO D tm 0 x with
        | some a => wFieldAddr D bx s a f fun u => AS.put ⟨nt, tm, ⟨bx, lv, nx⟩⟩ d u K
        | none => False
      | .field t x f => match evalO D tm t x with
        | some a => wField D t a f fun u => AS.put ⟨nt, tm, ⟨bx, lv, nx⟩⟩ d u K
        | none => False
      | .indexAddr t x ix => match evalO D tm 0 ix with
        | some i => match evalO D tm 0 x with
          | some a => wIndexAddr D bx t a i fun u => AS.put ⟨nt, tm, ⟨bx, lv, nx⟩⟩ d u K
          | none => False
        | none => False
      | .index t x ix => match evalO D tm 0 ix with
        | some i => match evalO D tm t x with
          | some a => wIndex D t a i fun u => AS.put ⟨nt, tm, ⟨bx, lv, nx⟩⟩ d u K
          | none => False
        | none => False
      | .extract x i => match evalO D tm 0 x with
        | some (.tup xs) => match xs[i]? with
          | some v => AS.put ⟨nt, tm, ⟨bx, lv, nx⟩⟩ d v K
          | none => False
        | _ => False
      | .call ⟨cal, args, ats⟩ => match cal with
        | .value f => match evalO D tm 0 f with
          | some (.fn k caps) => match evalA D tm args.toList ats.toList with
            | some as => match allLf caps with
              | true => wCall F ⟨nt, tm, ⟨bx, lv, nx⟩⟩ d k (as ++ caps) K
              | false => False
            | none => False
          | _ => False
        | .builtin b => match evalA D tm args.toList ats.toList with
          | some as => wBuiltin D ⟨nt, tm, ⟨bx, lv, nx⟩⟩ d b as ats.toList K
          | none => False
        | _ => False
      | _ => False

/-! ### A region in the text's order -/
def dstOf (ops : List Oper) (j : Nat) : Option Nat := match ops[j]? with
  | some ⟨d, _, _, _, _, _⟩ => d
  | none => none
/-- A slice laid out, which the next operation turns into a slice of its own type: a constant text's bytes. -/
def litText (d : Option Nat) (op : Op) (l : List Oper) : Option (Nat × Nat × Nat) :=
  match op with
  | .buildSlice t0 _ _ => match l with
    | ⟨some d2, .convert s t (.tmp x), _, _, _, none⟩ :: _ => match d with
      | some d1 => match Nat.beq x d1 && Nat.beq s t0 && Nat.beq t t0 with
        | true => some (d1, d2, t0)
        | false => none
      | none => none
    | _ => none
  | _ => none
def textK (D : Tabs) (b : Bool) (d1 d2 t : Nat) (σ : AS) (K : AS → Prop) : Prop := match lookT D.ty t with
  | some ⟨.slice e, _, _, _⟩ => match lookT D.ty e with
    | some ⟨.int .u8, _, _, _⟩ => match lookV σ.tm d1 with
      | some (.sl s xs .ex) => match b with
        | true => AS.put σ (some d2) (.sl s xs .ex) K
        | false => AS.put σ (some d2) (.sl s xs .ro) K
      | _ => False
    | _ => False
  | _ => False
/-- An empty slice with room, made. -/
def make0 (op : Op) : Option (Nat × Operand) := match op with
  | .makeSlice t (.const (.int _ (.ofNat 0))) c => some (t, c)
  | _ => none
def wMake0 (D : Tabs) (d : Option Nat) (t : Nat) (c : Operand) (σ : AS) (K : AS → Prop) : Prop := match σ with
  | ⟨nt, tm, ⟨bx, lv, nx⟩⟩ => elemSh D t fun _ sh by_ => match evalO D tm 0 c with
    | some (.sc (.int _ k)) => match Nat.ble by_ 4096 with
      | true => 0 ≤ k ∧ k < 4294967296 ∧ litK (nx + 1) fun nx' => AS.put ⟨nt, tm, ⟨bx, nx :: lv, nx'⟩⟩ d (.sl sh [] (.own nx)) K
      | false => False
    | _ => False
/-! ### Special operations: an append whose row is a box of its own; a call whose slices of boxes are lent -/
def callRest (F : CallT) (nt : Nat) (tm : List (Nat × AV)) (bx : List (AV × Bool)) (lv : List Nat) (nx : Nat) (d : Option Nat) (f : Nat) (as : List AV) (K : AS → Prop) : Prop :=
  match AV.pures as with
  | true => F f as [] fun r st => back0 nt tm bx lv nx d r st K
  | false => match contents bx (dedup [] (AV.idss as)) with
    | none => False
    | some c0 => litsK (more bx (dedup [] (dedup [] (AV.idss as) ++ AV.idss c0))) fun ids => match contents bx ids with
      | none => False
      | some cs => litsK (AV.rowss cs) fun rows => match allMemb lv rows && noDup rows && allMemb ids (AV.idss cs) && (AV.rowss as).isEmpty with
        | false => False
        | true =>
          rensK (fun i => posOf ids i 0) (fun k => posOf rows k 0) as fun as' =>
          rensK (fun i => posOf ids i 0) (fun k => posOf rows k 0) cs fun cs' =>
          F f as' cs' fun r st => back1 nt tm bx lv nx d ids rows r st K
def wCallL (F : CallT) (σ : AS) (d : Option Nat) (f : Nat) (args : List AV) (K : AS → Prop) : Prop :=
  match σ with
  | ⟨nt, tm, ⟨bx, lv, nx⟩⟩ => dmsK args fun as => callRest F nt tm bx lv nx d f as K
def appNew (nt : Nat) (tm : List (Nat × AV)) (bx : List (AV × Bool)) (lv : List Nat) (nx : Nat) (d : Option Nat) (sh : Shape) (n : Nat) (xs ys : List AV) (z : AV) (K : AS → Prop) : Prop :=
  n + ys.length < 4294967296 ∧ ∀ cap : Nat, n + ys.length ≤ cap → litK bx.length fun id =>
    forceB (bx ++ [(.ar cap sh (xs ++ ys ++ List.replicate (cap - (n + ys.length)) z), false)]) fun bx' => AS.put ⟨nt, tm, ⟨bx', lv, nx⟩⟩ d (.bs id [] sh 0 (n + ys.length) cap) K
def wAppB (D : Tabs) (σ : AS) (d : Option Nat) (t t2 : Nat) (s x : AV) (K : AS → Prop) : Prop :=
  match σ with
  | ⟨nt, tm, ⟨bx, lv, nx⟩⟩ => elemSh D t fun e sh by_ => match Nat.ble by_ 4096 with
    | false => False
    | true => match lookT D.ty e with
      | none => False
      | some ⟨_, _, _, z⟩ => match s with
        | .sl sh' xs .ex => match Shape.eqb sh' sh with
          | false => False
          | true => srcK D bx t2 e sh x fun ys => Branch (Nat.blt 0 ys.length) (appNew nt tm bx lv nx d sh xs.length xs ys z K) (AS.put ⟨nt, tm, ⟨bx, lv, nx⟩⟩ d (.sl sh xs .ex) K)
        | .bs id p sh' off len cap => match Shape.eqb sh' sh with
          | false => False
          | true => srcK D bx t2 e sh x fun ys => Branch (Nat.ble (len + ys.length) cap)
            (layK bx id p (off + len) ys fun bx' => AS.put ⟨nt, tm, ⟨bx', lv, nx⟩⟩ d (.bs id p sh' off (len + ys.length) cap) K)
            (readS bx (.bs id p sh' off len cap) fun s2 xs => match Shape.eqb s2 sh with
              | true => appNew nt tm bx lv nx d sh len xs ys z K
              | false => False)
        | _ => False
/-- A slice without room, whole: it stays without room. -/
def wSliceX (D : Tabs) (t : Nat) (s : Shape) (xs : List AV) (hv : AV) (K : AV → Prop) : Prop :=
  elemSh D t fun _ sh _ => match Shape.eqb s sh with
    | false => False
    | true => bnd (some hv) 0 fun h => h = xs.length ∧ K (.sl s ((xs.drop 0).take (h - 0)) .ex)
def wSp (D : Tabs) (F : CallT) (d : Option Nat) (op : Op) (σ : AS) (K : AS → Prop) : Prop :=
  match σ with
  | ⟨nt, tm, ⟨bx, lv, nx⟩⟩ => match op with
    | .call ⟨cal, args, ats⟩ => match cal with
      | .value f => match evalO D tm 0 f with
        | some (.fn k caps) => match evalA D tm args.toList ats.toList with
          | some as => match allLf caps with
            | true => wCallL F ⟨nt, tm, ⟨bx, lv, nx⟩⟩ d k (as ++ caps) K
            | false => False
          | none => False
        | _ => False
      | .builtin .append => match evalA D tm args.toList ats.toList with
        | some as => match as, ats.toList with
          | [s, x], [t, t2] => wAppB D ⟨nt, tm, ⟨bx, lv, nx⟩⟩ d t t2 s x K
          | _, _ => False
        | none => False
      | _ => False
    | .slice t x none (some o) none => match evalO D tm 0 x with
      | some (.sl s xs .ex) => match evalO D tm 0 o with
        | some hv => wSliceX D t s xs hv fun u => AS.put ⟨nt, tm, ⟨bx, lv, nx⟩⟩ d u K
        | none => False
      | _ => False
    | _ => False
def isSp (sp : List Nat) (d : Option Nat) (op : Op) : Bool := match op with
  | .call _ => match d with
    | some k => memb sp k
    | none => memb sp 999999
  | .slice _ _ none (some _) none => match d with
    | some k => memb sp k
    | none => false
  | _ => false
/-- The operations of a region, in the text's order; 'q': the slice just laid out is about to be marked. -/
noncomputable def wOps (D : Tabs) (F : CallT) (sp : List Nat) (all : List Oper) (l : List Oper) : Option (Nat × Nat × Nat) → AS → (AS → Prop) → Prop :=
  List.rec (motive := fun _ => Option (Nat × Nat × Nat) → AS → (AS → Prop) → Prop) (fun _ σ K => K σ)
    (fun o l ih q σ K => match q with
      | some (d1, d2, t) => textK D (memb sp d2) d1 d2 t σ fun σ' => ih none σ' K
      | none => match o with
        | ⟨d, op, ty, po, af, g⟩ => match g with
          | none => match litText d op l with
            | none => match make0 op with
              | none => match isSp sp d op with
                | true => wSp D F d op σ fun σ' => ih none σ' K
                | false => wOp D F ⟨d, op, ty, po, af, g⟩ σ fun σ' => ih none σ' K
              | some (t, c) => wMake0 D d t c σ fun σ' => ih none σ' K
            | some q => wOp D F ⟨d, op, ty, po, af, g⟩ σ fun σ' => ih (some q) σ' K
          | some (j, want) => match dstOf all j with
            | none => False
            | some t => match lookV σ.tm t with
              | some (.sc (.bool b)) => match want with
                | true => Branch b (match isSp sp d op with | true => wSp D F d op σ fun σ' => ih none σ' K | false => wOp D F ⟨d, op, ty, po, af, g⟩ σ fun σ' => ih none σ' K) (ih none (σ.drop d) K)
                | false => Branch b (ih none (σ.drop d) K) (match isSp sp d op with | true => wSp D F d op σ fun σ' => ih none σ' K | false => wOp D F ⟨d, op, ty, po, af, g⟩ σ fun σ' => ih none σ' K)
              | some (.tup []) => ih none (σ.drop d) K
              | _ => False) l
theorem wOps_cons (D : Tabs) (F : CallT) (sp : List Nat) (all : List Oper) (o : Oper) (l : List Oper) (q : Option (Nat × Nat × Nat)) (σ : AS) (K : AS → Prop) : wOps D F sp all (o :: l) q σ K = (match q with
      | some (d1, d2, t) => textK D (memb sp d2) d1 d2 t σ fun σ' => wOps D F sp all l none σ' K
      | none => match o with
        | ⟨d, op, ty, po, af, g⟩ => match g with
          | none => match litText d op l with
            | none => match make0 op with
              | none => match isSp sp d op with
                | true => wSp D F d op σ fun σ' => wOps D F sp all l none σ' K
                | false => wOp D F ⟨d, op, ty, po, af, g⟩ σ fun σ' => wOps D F sp all l none σ' K
              | some (t, c) => wMake0 D d t c σ fun σ' => wOps D F sp all l none σ' K
            | some q => wOp D F ⟨d, op, ty, po, af, g⟩ σ fun σ' => wOps D F sp all l (some q) σ' K
          | some (j, want) => match dstOf all j with
            | none => False
            | some t => match lookV σ.tm t with
              | some (.sc (.bool b)) => match want with
                | true => Branch b (match isSp sp d op with | true => wSp D F d op σ fun σ' => wOps D F sp all l none σ' K | false => wOp D F ⟨d, op, ty, po, af, g⟩ σ fun σ' => wOps D F sp all l none σ' K) (wOps D F sp all l none (σ.drop d) K)
                | false => Branch b (wOps D F sp all l none (σ.drop d) K) (match isSp sp d op with | true => wSp D F d op σ fun σ' => wOps D F sp all l none σ' K | false => wOp D F ⟨d, op, ty, po, af, g⟩ σ fun σ' => wOps D F sp all l none σ' K)
              | some (.tup []) => wOps D F sp all l none (σ.drop d) K
              | _ => False) := rfl

/-! ### Code -/
inductive Ex where
  | normal
  | exit (id : Nat)
  | ret

-- What is kept at a loop's head: these slots, the first boxes; the rest is forgotten, rows are named anew in the order of the slots and boxes.
def keepT (tm : List (Nat × AV)) : List Nat → Option (List (Nat × AV))
  | [] => some []
  | t :: l => match lookV tm t with
    | some v => match keepT tm l with
      | some r => some ((t, v) :: r)
      | none => none
    | none => none
def rentK (g : Nat → Nat) : List (Nat × AV) → (List (Nat × AV) → Prop) → Prop
  | [], K => K []
  | (t, v) :: l, K => renK (fun i => i) g v fun u => rentK g l fun l' => K ((t, u) :: l')
def renbK (g : Nat → Nat) : List (AV × Bool) → (List (AV × Bool) → Prop) → Prop
  | [], K => K []
  | (v, f) :: l, K => renK (fun i => i) g v fun u => renbK g l fun l' => K ((u, f) :: l')
def norm (keep : List Nat) (nb : Nat) (σ : AS) (K : AS → Prop) : Prop :=
  match σ with
  | ⟨nt, tm0, ⟨bx, lv, _⟩⟩ => match keepT tm0 keep with
    | none => False
    | some tm => match allMemb lv (AV.rowss (tm.map (·.2)) ++ AV.rowss ((bx.take nb).map (·.1))) && noDup (AV.rowss (tm.map (·.2)) ++ AV.rowss ((bx.take nb).map (·.1))) && allLt nb (AV.idss (tm.map (·.2)) ++ AV.idss ((bx.take nb).map (·.1))) && Nat.ble nb bx.length with
      | false => False
      | true =>
        rentK (fun k => posOf (AV.rowss (tm.map (·.2)) ++ AV.rowss ((bx.take nb).map (·.1))) k 0) tm fun tm' =>
        renbK (fun k => posOf (AV.rowss (tm.map (·.2)) ++ AV.rowss ((bx.take nb).map (·.1))) k 0) (bx.take nb) fun bx' =>
        litK (AV.rowss (tm.map (·.2)) ++ AV.rowss ((bx.take nb).map (·.1))).length fun n =>
        litsK (List.range n) fun lv' => K ⟨nt, tm', ⟨bx', lv', n⟩⟩

-- A slice without room may be lengthened by whoever has it: so it may get a row of its own.
mutual
def canK : AV → Nat → (AV → Nat → Prop) → Prop
  | .st xs, n, K => cansK xs n fun ys m => K (.st ys) m
  | .sl s xs .ex, n, K => litK n fun i => litK (n + 1) fun m => K (.sl s xs (.own i)) m
  | v, n, K => K v n
def cansK : List AV → Nat → (List AV → Nat → Prop) → Prop
  | [], n, K => K [] n
  | x :: xs, n, K => canK x n fun y m => cansK xs m fun ys k => K (y :: ys) k
end
def cantK : List (Nat × AV) → Nat → (List (Nat × AV) → Nat → Prop) → Prop
  | [], n, K => K [] n
  | (t, v) :: l, n, K => canK v n fun u m => cantK l m fun l' k => K ((t, u) :: l') k
def canbK : List (AV × Bool) → Nat → (List (AV × Bool) → Nat → Prop) → Prop
  | [], n, K => K [] n
  | (v, true) :: l, n, K => canbK l n fun l' k => K ((v, true) :: l') k
  | (v, false) :: l, n, K => canK v n fun u m => canbK l m fun l' k => K ((u, false) :: l') k
def normC (can : Bool) (keep : List Nat) (nb : Nat) (σ : AS) (K : AS → Prop) : Prop :=
  match can with
  | false => norm keep nb σ K
  | true => match σ with
    | ⟨nt, tm0, ⟨bx, lv, nx⟩⟩ => match keepT tm0 keep with
      | none => False
      | some tm => cantK tm nx fun tm1 n1 => canbK bx n1 fun bx1 n2 => norm keep nb ⟨nt, tm1, ⟨bx1, List.range' nx (n2 - nx) ++ lv, n2⟩⟩ K

-- As normC; where 'keep' begins with 999999, more boxes may be kept.
def normX (can : Bool) (keep : List Nat) (nb : Nat) (σ : AS) (K : AS → Prop) : Prop :=
  match keep with
  | [] => normC can [] nb σ K
  | x :: l => match Nat.beq x 999999 with
    | true => ∃ k, normC can l (nb + k) σ K
    | false => normC can (x :: l) nb σ K
end Go.WL
namespace Go.WL

def simple : Value → Bool
  | .bool _ | .int _ _ | .string _ | .pointer none | .map none | .nilFunc | .nilIface => true
  | _ => false

/-- Cells that lie at a place for good. -/
def Lies (w : World) (lim : Nat → Nat) (a : Addr) (cs : List Value) : Prop :=
  a.spot = none ∧ (∀ i u, cs[i]? = some u → w.cell? ⟨a.block, a.off + i, none⟩ = some u) ∧ (cs ≠ [] → a.off + cs.length ≤ lim a.block)

def allSh (s : Shape) (xs : List AV) : Prop := ∀ x ∈ xs, AV.shape x = s ∧ AV.pure x = true

mutual
def PR (w : World) (lim : Nat → Nat) : AV → List Value → Prop
  | .sc v, cs => cs = [v] ∧ simple v = true
  | .st xs, cs => ∃ ps, PRs w lim xs ps ∧ cs = ps.flatten
  | .ar n s xs, cs => xs.length = n ∧ allSh s xs ∧ ∃ ps, PRs w lim xs ps ∧ cs = ps.flatten
  | .sl s xs m, cs => ∃ a c, cs = [.slice a xs.length c] ∧ xs.length ≤ c ∧ (m = .ex → c = xs.length) ∧ allSh s xs ∧ (a = none → c = 0) ∧
      (xs = [] ∨ ∃ ad ps, a = some ad ∧ PRs w lim xs ps ∧ Lies w lim ad ps.flatten)
  | .rp v, cs => ∃ ad ds, cs = [.pointer (some ad)] ∧ v.pure = true ∧ PR w lim v ds ∧ Lies w lim ad ds
  | _, _ => False
def PRs (w : World) (lim : Nat → Nat) : List AV → List (List Value) → Prop
  | [], ps => ps = []
  | x :: xs, ps => ∃ p qs, ps = p :: qs ∧ PR w lim x p ∧ PRs w lim xs qs
end

structure Ext (w : World) (lim : Nat → Nat) (w' : World) (lim' : Nat → Nat) : Prop where
  cell : ∀ b o, o < lim b → w'.cell? ⟨b, o, none⟩ = w.cell? ⟨b, o, none⟩
  le : ∀ b, lim b ≤ lim' b

theorem Ext.refl (w : World) (lim : Nat → Nat) : Ext w lim w lim := ⟨fun _ _ _ => rfl, fun _ => Nat.le_refl _⟩
theorem Ext.trans {w w1 w2 : World} {l l1 l2 : Nat → Nat} (h : Ext w l w1 l1) (k : Ext w1 l1 w2 l2) : Ext w l w2 l2 :=
  ⟨fun b o ho => (k.cell b o (Nat.lt_of_lt_of_le ho (h.le b))).trans (h.cell b o ho), fun b => Nat.le_trans (h.le b) (k.le b)⟩

theorem Lies.ext {w w' : World} {lim lim' : Nat → Nat} {a : Addr} {cs : List Value} (h : Lies w lim a cs) (e : Ext w lim w' lim') : Lies w' lim' a cs := by
  refine ⟨h.1, fun i u hu => ?_, fun hn => Nat.le_trans (h.2.2 hn) (e.le _)⟩
  have hi : i < cs.length := (List.getElem?_eq_some_iff.1 hu).1
  have hl := h.2.2 (by intro e; subst e; simp at hi)
  rw [e.cell _ _ (by omega)]
  exact h.2.1 i u hu

mutual
theorem PR_ext {w w' : World} {lim lim' : Nat → Nat} (e : Ext w lim w' lim') : ∀ (v : AV) (cs : List Value), PR w lim v cs → PR w' lim' v cs
  | .sc v, cs, h => h
  | .st xs, cs, h => by
    obtain ⟨ps, h1, h2⟩ := h
    exact ⟨ps, PRs_ext e xs ps h1, h2⟩
  | .ar n s xs, cs, h => by
    obtain ⟨h0, h1, ps, h2, h3⟩ := h
    exact ⟨h0, h1, ps, PRs_ext e xs ps h2, h3⟩
  | .sl s xs m, cs, h => by
    obtain ⟨a, c, h1, h2, h3, h4, h5, h6⟩ := h
    refine ⟨a, c, h1, h2, h3, h4, h5, h6.imp id ?_⟩
    rintro ⟨ad, ps, h7, h8, h9⟩
    exact ⟨ad, ps, h7, PRs_ext e xs ps h8, h9.ext e⟩
  | .rp v, cs, h => by
    obtain ⟨ad, ds, h1, h2, h3, h4⟩ := h
    exact ⟨ad, ds, h1, h2, PR_ext e v ds h3, h4.ext e⟩
  | .tup xs, cs, h => h.elim
  | .pt _ _, cs, h => h.elim
  | .bs _ _ _ _ _ _, cs, h => h.elim
  | .fn _ _, cs, h => h.elim
theorem PRs_ext {w w' : World} {lim lim' : Nat → Nat} (e : Ext w lim w' lim') : ∀ (xs : List AV) (ps : List (List Value)), PRs w lim xs ps → PRs w' lim' xs ps
  | [], ps, h => h
  | x :: xs, ps, h => by
    obtain ⟨p, qs, h1, h2, h3⟩ := h
    exact ⟨p, qs, h1, PR_ext e x p h2, PRs_ext e xs qs h3⟩
end

theorem sizes_all {s : Shape} : ∀ {xs : List AV}, allSh s xs → Shape.sizes (AV.shapes xs) = xs.length * s.size
  | [], _ => by simp [AV.shapes, Shape.sizes]
  | x :: xs, h => by
    have h1 := (h x (by simp)).1
    have h2 := sizes_all (xs := xs) fun y hy => h y (by simp [hy])
    simp only [AV.shapes, Shape.sizes, h1, h2, List.length_cons, Nat.add_mul]
    omega

mutual
theorem PR_len {w : World} {lim : Nat → Nat} : ∀ (v : AV) (cs : List Value), PR w lim v cs → cs.length = v.shape.size
  | .sc v, cs, h => by simp [h.1, AV.shape, Shape.size]
  | .st xs, cs, h => by
    obtain ⟨ps, h1, h2⟩ := h
    simp only [AV.shape, Shape.size, h2, PRs_len xs ps h1]
  | .ar n s xs, cs, h => by
    obtain ⟨h0, h1, ps, h2, h3⟩ := h
    simp only [AV.shape, Shape.size, h3, PRs_len xs ps h2, sizes_all h1, h0]
  | .sl s xs m, cs, h => by
    obtain ⟨a, c, h1, _⟩ := h
    simp [h1, AV.shape, Shape.size]
  | .rp v, cs, h => by
    obtain ⟨ad, ds, h1, _⟩ := h
    simp [h1, AV.shape, Shape.size]
  | .tup xs, cs, h => h.elim
  | .pt _ _, cs, h => h.elim
  | .bs _ _ _ _ _ _, cs, h => h.elim
  | .fn _ _, cs, h => h.elim
theorem PRs_len {w : World} {lim : Nat → Nat} : ∀ (xs : List AV) (ps : List (List Value)), PRs w lim xs ps → ps.flatten.length = Shape.sizes (AV.shapes xs)
  | [], ps, h => by
    have h : ps = [] := h
    simp [h, AV.shapes, Shape.sizes]
  | x :: xs, ps, h => by
    obtain ⟨p, qs, h1, h2, h3⟩ := h
    have e1 := PR_len x p h2
    have e2 := PRs_len xs qs h3
    simp only [h1, List.flatten_cons, List.length_append, AV.shapes, Shape.sizes, e1, e2]
end

/-! ### With boxes and rows -/
inductive RowSt where
  | dead
  | exact
  | grow (b : Nat)
structure Env where
  w : World
  lim : Nat → Nat
  bx : List Nat
  row : Nat → RowSt
  nx : Nat

def rowOK (E : Env) (s : Shape) (n : Nat) (a : Option Addr) (c : Nat) : RowSt → Prop
  | .dead => True
  | .exact => c = n
  | .grow b => ∃ o cs ty fz, a = some ⟨b, o, none⟩ ∧ E.lim b = o + n * s.size ∧ E.w.heap[b]? = some (.cells cs ty fz) ∧ o + c * s.size ≤ cs.size

def offS : Shape → List Nat → Option Nat
  | _, [] => some 0
  | .nd l, i :: p => match l[i]? with
    | some s => match offS s p with
      | some o => some (Shape.sizes (l.take i) + o)
      | none => none
    | none => none
  | .ar n s, i :: p => if i < n then match offS s p with
      | some o => some (i * s.size + o)
      | none => none
    else none
  | .lf, _ :: _ => none

mutual
def IR (E : Env) (shs : List Shape) : AV → List Value → Prop
  | .st xs, cs => ∃ ps, IRs E shs xs ps ∧ cs = ps.flatten
  | .sl s xs m, cs => PR E.w E.lim (.sl s xs m) cs ∧ (∀ r, m = .own r → r < E.nx ∧ ∀ a n c, cs = [.slice a n c] → rowOK E s n a c (E.row r))
  | .pt id p, cs => ∃ b s o, E.bx[id]? = some b ∧ shs[id]? = some s ∧ offS s p = some o ∧ cs = [.pointer (some ⟨b, o, none⟩)]
  | .bs id p s off len cap, cs => ∃ b t o n o', E.bx[id]? = some b ∧ shs[id]? = some t ∧ offS t p = some o ∧ shAt t p = some (.ar n s) ∧ off + cap ≤ n ∧ len ≤ cap ∧
      (cap ≠ 0 → o' = o + off * s.size) ∧ cs = [.slice (some ⟨b, o', none⟩) len cap]
  | .fn f caps, cs => ∃ us : List Value, IRs E shs caps (us.map fun u => [u]) ∧ cs = [.func (.func f) #[] us.toArray]
  | .sc v, cs => PR E.w E.lim (.sc v) cs
  | .ar n s xs, cs => PR E.w E.lim (.ar n s xs) cs
  | .rp v, cs => PR E.w E.lim (.rp v) cs
  | .tup _, _ => False
def IRs (E : Env) (shs : List Shape) : List AV → List (List Value) → Prop
  | [], ps => ps = []
  | x :: xs, ps => ∃ p qs, ps = p :: qs ∧ IR E shs x p ∧ IRs E shs xs qs
end

mutual
theorem IR_len {E : Env} {shs : List Shape} : ∀ (v : AV) (cs : List Value), IR E shs v cs → cs.length = v.shape.size
  | .st xs, cs, h => by
    obtain ⟨ps, h1, h2⟩ := h
    simp only [AV.shape, Shape.size, h2, IRs_len xs ps h1]
  | .sl s xs m, cs, h => PR_len _ _ h.1
  | .pt id p, cs, h => by
    obtain ⟨b, s, o, _, _, _, h⟩ := h
    simp [h, AV.shape, Shape.size]
  | .bs id p s off len cap, cs, h => by
    obtain ⟨b, t, o, n, o', _, _, _, _, _, _, _, h⟩ := h
    simp [h, AV.shape, Shape.size]
  | .fn f caps, cs, h => by
    obtain ⟨us, _, h⟩ := h
    simp [h, AV.shape, Shape.size]
  | .sc v, cs, h => PR_len (w := E.w) (lim := E.lim) (.sc v) cs h
  | .ar n s xs, cs, h => PR_len (w := E.w) (lim := E.lim) (.ar n s xs) cs h
  | .rp v, cs, h => PR_len (w := E.w) (lim := E.lim) (.rp v) cs h
  | .tup xs, cs, h => h.elim
theorem IRs_len {E : Env} {shs : List Shape} : ∀ (xs : List AV) (ps : List (List Value)), IRs E shs xs ps → ps.flatten.length = Shape.sizes (AV.shapes xs)
  | [], ps, h => by
    have h : ps = [] := h
    simp [h, AV.shapes, Shape.sizes]
  | x :: xs, ps, h => by
    obtain ⟨p, qs, h1, h2, h3⟩ := h
    have e1 := IR_len x p h2
    have e2 := IRs_len xs qs h3
    simp only [h1, List.flatten_cons, List.length_append, AV.shapes, Shape.sizes, e1, e2]
end

mutual
theorem IR_pure {E : Env} {shs : List Shape} : ∀ (v : AV) (cs : List Value), v.pure = true → (IR E shs v cs ↔ PR E.w E.lim v cs)
  | .st xs, cs, h => by
    simp only [IR, PR]
    constructor
    · rintro ⟨ps, h1, h2⟩
      exact ⟨ps, (IRs_pure xs ps (by simpa [AV.pure] using h)).1 h1, h2⟩
    · rintro ⟨ps, h1, h2⟩
      exact ⟨ps, (IRs_pure xs ps (by simpa [AV.pure] using h)).2 h1, h2⟩
  | .sl s xs m, cs, h => by
    simp only [IR]
    refine ⟨fun k => k.1, fun k => ⟨k, fun r hr => ?_⟩⟩
    subst hr; simp [AV.pure] at h
  | .sc v, cs, h => by simp only [IR]
  | .ar n s xs, cs, h => by simp only [IR]
  | .rp v, cs, h => by simp only [IR]
  | .tup xs, cs, h => by simp [AV.pure] at h
  | .pt _ _, cs, h => by simp [AV.pure] at h
  | .bs _ _ _ _ _ _, cs, h => by simp [AV.pure] at h
  | .fn _ _, cs, h => by simp [AV.pure] at h
theorem IRs_pure {E : Env} {shs : List Shape} : ∀ (xs : List AV) (ps : List (List Value)), AV.pures xs = true → (IRs E shs xs ps ↔ PRs E.w E.lim xs ps)
  | [], ps, h => by simp only [IRs, PRs]
  | x :: xs, ps, h => by
    simp only [AV.pures, Bool.and_eq_true] at h
    simp only [IRs, PRs]
    constructor
    · rintro ⟨p, qs, h1, h2, h3⟩
      exact ⟨p, qs, h1, (IR_pure x p h.1).1 h2, (IRs_pure xs qs h.2).1 h3⟩
    · rintro ⟨p, qs, h1, h2, h3⟩
      exact ⟨p, qs, h1, (IR_pure x p h.1).2 h2, (IRs_pure xs qs h.2).2 h3⟩
end

/-! ### Carried from one state to another, boxes and rows named anew -/
structure Tr (E E2 : Env) (shs shs2 : List Shape) (f g : Nat → Nat) (ids rows : List Nat) : Prop where
  ext : Ext E.w E.lim E2.w E2.lim
  id : ∀ i ∈ ids, (∀ b, E.bx[i]? = some b → E2.bx[f i]? = some b) ∧ (∀ s, shs[i]? = some s → shs2[f i]? = some s)
  row : ∀ r ∈ rows, r < E.nx → g r < E2.nx ∧ (E2.row (g r) = .dead ∨ (E2.row (g r) = E.row r ∧ ∀ b, E.row r = .grow b → 
    ∀ cs ty fz, E.w.heap[b]? = some (.cells cs ty fz) → E2.lim b = E.lim b ∧ ∃ cs' ty' fz', E2.w.heap[b]? = some (.cells cs' ty' fz') ∧ cs.size ≤ cs'.size))

theorem Tr.mono {E E2 : Env} {shs shs2 : List Shape} {f g : Nat → Nat} {ids rows ids' rows' : List Nat} (h : Tr E E2 shs shs2 f g ids rows) (h1 : ∀ i ∈ ids', i ∈ ids) (h2 : ∀ r ∈ rows', r ∈ rows) : Tr E E2 shs shs2 f g ids' rows' :=
  ⟨h.ext, fun i hi => h.id i (h1 i hi), fun r hr => h.row r (h2 r hr)⟩

theorem rowOK_tr {E E2 : Env} {s : Shape} {n c : Nat} {a : Option Addr} {r r2 : RowSt} (h : r2 = .dead ∨ (r2 = r ∧ ∀ b, r = .grow b → 
    ∀ cs ty fz, E.w.heap[b]? = some (.cells cs ty fz) → E2.lim b = E.lim b ∧ ∃ cs' ty' fz', E2.w.heap[b]? = some (.cells cs' ty' fz') ∧ cs.size ≤ cs'.size)) (k : rowOK E s n a c r) : rowOK E2 s n a c r2 := by
  rcases h with rfl | ⟨rfl, h⟩
  · trivial
  · cases r2 with
    | dead => trivial
    | exact => exact k
    | grow b =>
      obtain ⟨o, cs, ty, fz, h1, h2, h3, h4⟩ := k
      obtain ⟨e1, cs', ty', fz', e3, e4⟩ := h b rfl cs ty fz h3
      exact ⟨o, cs', ty', fz', h1, e1.trans h2, e3, by omega⟩

mutual
theorem IR_tr {E E2 : Env} {shs shs2 : List Shape} {f g : Nat → Nat} : ∀ (v : AV) (cs : List Value), Tr E E2 shs shs2 f g v.ids v.rows → IR E shs v cs → IR E2 shs2 (v.ren f g) cs
  | .st xs, cs, t, h => by
    obtain ⟨ps, h1, h2⟩ := h
    exact ⟨ps, IRs_tr xs ps t h1, h2⟩
  | .sl s xs m, cs, t, h => by
    have hp := PR_ext t.ext _ _ h.1
    cases m with
    | ro => exact ⟨hp, fun r hr => by simp at hr⟩
    | ex => exact ⟨hp, fun r hr => by simp at hr⟩
    | own r =>
      refine ⟨?_, ?_⟩
      · obtain ⟨a, c, h1, h2, h3, h4, h5, h6⟩ := hp
        exact ⟨a, c, h1, h2, fun k => by simp at k, h4, h5, h6⟩
      · intro r' hr
        simp only [Mark.own.injEq] at hr
        subst hr
        have k := t.row r (by simp [AV.rows]) (h.2 r rfl).1
        exact ⟨k.1, fun a n c hcs => rowOK_tr k.2 ((h.2 r rfl).2 a n c hcs)⟩
  | .pt id p, cs, t, h => by
    obtain ⟨b, s, o, h1, h2, h3, h4⟩ := h
    have k := t.id id (by simp [AV.ids])
    exact ⟨b, s, o, k.1 _ h1, k.2 _ h2, h3, h4⟩
  | .bs id p s off len cap, cs, t, h => by
    obtain ⟨b, u, o, n, o', h1, h2, h3⟩ := h
    have k := t.id id (by simp [AV.ids])
    exact ⟨b, u, o, n, o', k.1 _ h1, k.2 _ h2, h3⟩
  | .fn k caps, cs, t, h => by
    obtain ⟨us, h1, h2⟩ := h
    exact ⟨us, IRs_tr caps _ t h1, h2⟩
  | .sc v, cs, t, h => PR_ext t.ext _ _ h
  | .ar n s xs, cs, t, h => PR_ext t.ext _ _ h
  | .rp v, cs, t, h => PR_ext t.ext _ _ h
  | .tup xs, cs, t, h => h.elim
theorem IRs_tr {E E2 : Env} {shs shs2 : List Shape} {f g : Nat → Nat} : ∀ (xs : List AV) (ps : List (List Value)), Tr E E2 shs shs2 f g (AV.idss xs) (AV.rowss xs) → IRs E shs xs ps → IRs E2 shs2 (AV.rens f g xs) ps
  | [], ps, t, h => h
  | x :: xs, ps, t, h => by
    obtain ⟨p, qs, h1, h2, h3⟩ := h
    exact ⟨p, qs, h1, IR_tr x p (t.mono (by simp only [AV.idss]; intro i hi; simp [hi]) (by simp only [AV.rowss]; intro i hi; simp [hi])) h2,
      IRs_tr xs qs (t.mono (by simp only [AV.idss]; intro i hi; simp [hi]) (by simp only [AV.rowss]; intro i hi; simp [hi])) h3⟩
end

mutual
theorem ren_id : ∀ v : AV, v.ren (fun i => i) (fun i => i) = v
  | .st xs => by simp only [AV.ren, rens_id xs]
  | .sl s xs m => by cases m <;> rfl
  | .pt id p => rfl
  | .bs id p s off len cap => rfl
  | .fn k caps => by simp only [AV.ren, rens_id caps]
  | .sc v => rfl
  | .ar n s xs => rfl
  | .rp v => rfl
  | .tup xs => by simp only [AV.ren, rens_id xs]
theorem rens_id : ∀ xs : List AV, AV.rens (fun i => i) (fun i => i) xs = xs
  | [] => rfl
  | x :: xs => by simp only [AV.rens, ren_id x, rens_id xs]
end

theorem IR_keep {E E2 : Env} {shs shs2 : List Shape} (v : AV) (cs : List Value) (t : Tr E E2 shs shs2 (fun i => i) (fun i => i) v.ids v.rows) (h : IR E shs v cs) : IR E2 shs2 v cs := by
  have := IR_tr v cs t h
  rwa [ren_id] at this

-- rights are given up
mutual
theorem IR_dm {E : Env} {shs : List Shape} : ∀ (v : AV) (cs : List Value), IR E shs v cs → IR E shs v.dm cs
  | .st xs, cs, h => by
    obtain ⟨ps, h1, h2⟩ := h
    exact ⟨ps, IRs_dm xs ps h1, h2⟩
  | .sl s xs m, cs, h => by
    cases m with
    | ro => exact h
    | ex => exact h
    | own r =>
      obtain ⟨⟨a, c, h1, h2, h3, h4, h5, h6⟩, _⟩ := h
      exact ⟨⟨a, c, h1, h2, fun k => by simp at k, h4, h5, h6⟩, fun r hr => by simp at hr⟩
  | .pt id p, cs, h => h
  | .bs id p s off len cap, cs, h => h
  | .fn k caps, cs, h => h
  | .sc v, cs, h => h
  | .ar n s xs, cs, h => h
  | .rp v, cs, h => h
  | .tup xs, cs, h => h.elim
theorem IRs_dm {E : Env} {shs : List Shape} : ∀ (xs : List AV) (ps : List (List Value)), IRs E shs xs ps → IRs E shs (AV.dms xs) ps
  | [], ps, h => h
  | x :: xs, ps, h => by
    obtain ⟨p, qs, h1, h2, h3⟩ := h
    exact ⟨p, qs, h1, IR_dm x p h2, IRs_dm xs qs h3⟩
end
mutual
theorem dmK_of : ∀ (v : AV) (K : AV → Prop), dmK v K → K v.dm
  | .st xs, K, h => dmsK_of xs (fun ys => K (.st ys)) (by simpa only [dmK] using h)
  | .sl s xs m, K, h => by cases m <;> exact h
  | .tup xs, K, h => dmsK_of xs (fun ys => K (.tup ys)) (by simpa only [dmK] using h)
  | .pt id p, K, h => h
  | .bs id p s off len cap, K, h => h
  | .fn k caps, K, h => h
  | .sc v, K, h => h
  | .ar n s xs, K, h => h
  | .rp v, K, h => h
theorem dmsK_of : ∀ (xs : List AV) (K : List AV → Prop), dmsK xs K → K (AV.dms xs)
  | [], _, h => h
  | x :: xs, K, h => by
    simp only [dmsK] at h
    have := dmsK_of xs _ (dmK_of x _ h)
    exact this
end
mutual
theorem dm_shape : ∀ v : AV, v.dm.shape = v.shape
  | .st xs => by simp only [AV.dm, AV.shape, dms_shape xs]
  | .sl s xs m => by cases m <;> rfl
  | .pt id p => rfl
  | .bs id p s off len cap => rfl
  | .fn k caps => rfl
  | .sc v => rfl
  | .ar n s xs => rfl
  | .rp v => rfl
  | .tup xs => rfl
theorem dms_shape : ∀ xs : List AV, AV.shapes (AV.dms xs) = AV.shapes xs
  | [] => rfl
  | x :: xs => by simp only [AV.dms, AV.shapes, dm_shape x, dms_shape xs]
end
theorem nthK_iff : ∀ (l : List Nat) (n e : Nat) (K : Nat → Prop), nthK l n e K ↔ K (l.getD n e)
  | [], _, _, _ => by simp [nthK]
  | x :: _, 0, _, _ => by simp [nthK]
  | _ :: l, n + 1, e, K => by
    simp only [nthK, nthK_iff l n e K, List.getD_cons_succ]
set_option maxRecDepth 10000 in
theorem nums_at : nums = List.range 200 := by rfl
theorem litK_iff {e : Nat} {K : Nat → Prop} : litK e K ↔ K e := by
  unfold litK
  rw [nthK_iff, nums_at, List.getD_eq_getElem?_getD]
  by_cases h : e < (List.range 200).length
  · rw [List.getElem?_eq_getElem h]
    simp
  · rw [List.getElem?_eq_none (by omega)]
    rfl
theorem litK_of {e : Nat} {K : Nat → Prop} (h : litK e K) : K e := litK_iff.1 h
theorem litsK_of : ∀ (l : List Nat) (K : List Nat → Prop), litsK l K → K l
  | [], _, h => h
  | x :: xs, K, h => litsK_of xs (fun ys => K (x :: ys)) (litK_of h)
mutual
theorem renK_of {f g : Nat → Nat} : ∀ (v : AV) (K : AV → Prop), renK f g v K → K (v.ren f g)
  | .st xs, K, h => rensK_of xs (fun ys => K (.st ys)) (by simpa only [renK] using h)
  | .sl s xs m, K, h => by
    cases m with
    | ro => exact h
    | ex => exact h
    | own r => exact litK_of (K := fun i => K (.sl s xs (.own i))) (by simpa only [renK] using h)
  | .tup xs, K, h => rensK_of xs (fun ys => K (.tup ys)) (by simpa only [renK] using h)
  | .pt id p, K, h => litK_of (K := fun i => K (.pt i p)) (by simpa only [renK] using h)
  | .bs id p s off len cap, K, h => litK_of (K := fun i => K (.bs i p s off len cap)) (by simpa only [renK] using h)
  | .fn k caps, K, h => rensK_of caps (fun ys => K (.fn k ys)) (by simpa only [renK] using h)
  | .sc v, K, h => h
  | .ar n s xs, K, h => h
  | .rp v, K, h => h
theorem rensK_of {f g : Nat → Nat} : ∀ (xs : List AV) (K : List AV → Prop), rensK f g xs K → K (AV.rens f g xs)
  | [], _, h => h
  | x :: xs, K, h => by
    simp only [rensK] at h
    exact rensK_of xs (fun ys => K (x.ren f g :: ys)) (renK_of x _ h)
end
theorem forceB_of : ∀ (l : List (AV × Bool)) (K : List (AV × Bool) → Prop), forceB l K → K l
  | [], _, h => h
  | (c, f) :: l, K, h => forceB_of l (fun l' => K ((c, f) :: l')) h
theorem forceL_of : ∀ (l : List AV) (K : List AV → Prop), forceL l K → K l
  | [], _, h => h
  | c :: l, K, h => forceL_of l (fun l' => K (c :: l')) h
mutual
theorem eqb_of : ∀ (s t : Shape), Shape.eqb s t = true → s = t
  | .lf, .lf, _ => rfl
  | .nd l, .nd m, h => by rw [eqbs_of l m (by simpa [Shape.eqb] using h)]
  | .ar n s, .ar m t, h => by
    simp only [Shape.eqb, Bool.and_eq_true] at h
    rw [eqb_of s t h.2, Nat.eq_of_beq_eq_true h.1]
  | .lf, .nd _, h => by simp [Shape.eqb] at h
  | .lf, .ar _ _, h => by simp [Shape.eqb] at h
  | .nd _, .lf, h => by simp [Shape.eqb] at h
  | .nd _, .ar _ _, h => by simp [Shape.eqb] at h
  | .ar _ _, .lf, h => by simp [Shape.eqb] at h
  | .ar _ _, .nd _, h => by simp [Shape.eqb] at h
theorem eqbs_of : ∀ (l m : List Shape), Shape.eqbs l m = true → l = m
  | [], [], _ => rfl
  | s :: l, t :: m, h => by
    simp only [Shape.eqbs, Bool.and_eq_true] at h
    rw [eqb_of s t h.1, eqbs_of l m h.2]
  | [], _ :: _, h => by simp [Shape.eqbs] at h
  | _ :: _, [], h => by simp [Shape.eqbs] at h
end
end Go.WL
namespace Go.WL

theorem shapes_get : ∀ (xs : List AV) (i : Nat) (x : AV), xs[i]? = some x → (AV.shapes xs)[i]? = some x.shape
  | [], i, x, h => by simp at h
  | y :: xs, 0, x, h => by simp at h; simp [AV.shapes, h]
  | y :: xs, i + 1, x, h => by
    simp only [List.getElem?_cons_succ] at h
    simp only [AV.shapes, List.getElem?_cons_succ]
    exact shapes_get xs i x h
theorem shapes_take : ∀ (xs : List AV) (i : Nat), (AV.shapes xs).take i = AV.shapes (xs.take i)
  | [], i => by simp [AV.shapes]
  | y :: xs, 0 => by simp [AV.shapes]
  | y :: xs, i + 1 => by simp only [AV.shapes, List.take_succ_cons, shapes_take xs i]

theorem IRs_nth {E : Env} {shs : List Shape} : ∀ (xs : List AV) (ps : List (List Value)) (i : Nat) (x : AV), IRs E shs xs ps → xs[i]? = some x →
    ∃ pre p post, ps.flatten = pre ++ p ++ post ∧ IR E shs x p ∧ pre.length = Shape.sizes ((AV.shapes xs).take i) ∧ ∀ x' p', IR E shs x' p' → ∃ qs, IRs E shs (xs.set i x') qs ∧ qs.flatten = pre ++ p' ++ post
  | [], ps, i, x, _, hx => by simp at hx
  | y :: xs, ps, 0, x, h, hx => by
    obtain ⟨p, qs, h1, h2, h3⟩ := h
    simp only [List.getElem?_cons_zero, Option.some.injEq] at hx
    subst hx
    refine ⟨[], p, qs.flatten, by simp [h1], h2, by simp [Shape.sizes], fun x' p' h' => ⟨p' :: qs, ⟨p', qs, rfl, h', h3⟩, by simp⟩⟩
  | y :: xs, ps, i + 1, x, h, hx => by
    obtain ⟨p, qs, h1, h2, h3⟩ := h
    simp only [List.getElem?_cons_succ] at hx
    obtain ⟨pre, q, post, e1, e2, e3, e4⟩ := IRs_nth xs qs i x h3 hx
    refine ⟨p ++ pre, q, post, by simp [h1, e1], e2, ?_, fun x' p' h' => ?_⟩
    · simp only [AV.shapes, List.take_succ_cons, Shape.sizes, List.length_append, e3, IR_len y p h2]
    · obtain ⟨rs, f1, f2⟩ := e4 x' p' h'
      exact ⟨p :: rs, ⟨p, rs, rfl, h2, f1⟩, by simp [f2]⟩
theorem PRs_nth {w : World} {lim : Nat → Nat} : ∀ (xs : List AV) (ps : List (List Value)) (i : Nat) (x : AV), PRs w lim xs ps → xs[i]? = some x →
    ∃ pre p post, ps.flatten = pre ++ p ++ post ∧ PR w lim x p ∧ pre.length = Shape.sizes ((AV.shapes xs).take i) ∧ ∀ x' p', PR w lim x' p' → ∃ qs, PRs w lim (xs.set i x') qs ∧ qs.flatten = pre ++ p' ++ post
  | [], ps, i, x, _, hx => by simp at hx
  | y :: xs, ps, 0, x, h, hx => by
    obtain ⟨p, qs, h1, h2, h3⟩ := h
    simp only [List.getElem?_cons_zero, Option.some.injEq] at hx
    subst hx
    refine ⟨[], p, qs.flatten, by simp [h1], h2, by simp [Shape.sizes], fun x' p' h' => ⟨p' :: qs, ⟨p', qs, rfl, h', h3⟩, by simp⟩⟩
  | y :: xs, ps, i + 1, x, h, hx => by
    obtain ⟨p, qs, h1, h2, h3⟩ := h
    simp only [List.getElem?_cons_succ] at hx
    obtain ⟨pre, q, post, e1, e2, e3, e4⟩ := PRs_nth xs qs i x h3 hx
    refine ⟨p ++ pre, q, post, by simp [h1, e1], e2, ?_, fun x' p' h' => ?_⟩
    · simp only [AV.shapes, List.take_succ_cons, Shape.sizes, List.length_append, e3, PR_len y p h2]
    · obtain ⟨rs, f1, f2⟩ := e4 x' p' h'
      exact ⟨p :: rs, ⟨p, rs, rfl, h2, f1⟩, by simp [f2]⟩

theorem allSh.take {s : Shape} {xs : List AV} (h : allSh s xs) (i : Nat) : allSh s (xs.take i) := fun x hx => h x (List.mem_of_mem_take hx)
theorem allSh.drop {s : Shape} {xs : List AV} (h : allSh s xs) (i : Nat) : allSh s (xs.drop i) := fun x hx => h x (List.mem_of_mem_drop hx)
theorem allSh.append {s : Shape} {xs ys : List AV} (h : allSh s xs) (k : allSh s ys) : allSh s (xs ++ ys) := fun x hx => (List.mem_append.1 hx).elim (h x) (k x)
theorem allSh.at {s : Shape} {xs : List AV} (h : allSh s xs) {i : Nat} {x : AV} (hx : xs[i]? = some x) : x.shape = s ∧ x.pure = true := h x (List.mem_of_getElem? hx)
theorem allSh.set {s : Shape} {xs : List AV} (h : allSh s xs) {i : Nat} {x : AV} (hs : x.shape = s) (hp : x.pure = true) : allSh s (xs.set i x) := fun y hy => by
  rcases List.mem_or_eq_of_mem_set hy with hy | rfl
  · exact h y hy
  · exact ⟨hs, hp⟩

theorem sizes_split : ∀ (l : List Shape) (i : Nat) (s : Shape), l[i]? = some s → Shape.sizes (l.take i) + s.size ≤ Shape.sizes l
  | [], i, s, h => by simp at h
  | t :: l, 0, s, h => by simp at h; simp [Shape.sizes, h]
  | t :: l, i + 1, s, h => by
    simp only [List.getElem?_cons_succ] at h
    have := sizes_split l i s h
    simp only [List.take_succ_cons, Shape.sizes]
    omega

theorem cut_mid {α : Type} (pre p post : List α) (o k : Nat) (h : o + k ≤ p.length) : ((pre ++ p ++ post).drop (pre.length + o)).take k = (p.drop o).take k := by
  rw [List.append_assoc, List.drop_append, List.drop_of_length_le (by omega), List.nil_append, Nat.add_sub_cancel_left, List.drop_append, List.take_append_of_le_length (by simp; omega)]

theorem put_mid {α : Type} (pre p post vs : List α) (o k : Nat) (h : o + k ≤ p.length) :
    (pre ++ p ++ post).take (pre.length + o) ++ vs ++ (pre ++ p ++ post).drop (pre.length + o + k) = pre ++ (p.take o ++ vs ++ p.drop (o + k)) ++ post := by
  have e1 : (pre ++ p ++ post).take (pre.length + o) = pre ++ p.take o := by
    rw [List.append_assoc, List.take_append, List.take_of_length_le (by omega), Nat.add_sub_cancel_left, List.take_append_of_le_length (by omega)]
  have e2 : (pre ++ p ++ post).drop (pre.length + o + k) = p.drop (o + k) ++ post := by
    rw [List.append_assoc, List.drop_append, List.drop_of_length_le (by omega), List.nil_append, show pre.length + o + k - pre.length = o + k by omega, List.drop_append_of_le_length (by omega)]
  rw [e1, e2]
  simp

theorem pures_at {xs : List AV} (h : AV.pures xs = true) {i : Nat} {x : AV} (hx : xs[i]? = some x) : x.pure = true := by
  induction xs generalizing i with
  | nil => simp at hx
  | cons y xs ih =>
    simp only [AV.pures, Bool.and_eq_true] at h
    cases i with
    | zero => simp at hx; subst hx; exact h.1
    | succ i => exact ih h.2 (by simpa using hx)
theorem pures_set {xs : List AV} (h : AV.pures xs = true) {i : Nat} {x : AV} (hx : x.pure = true) : AV.pures (xs.set i x) = true := by
  induction xs generalizing i with
  | nil => simp [AV.pures]
  | cons y xs ih =>
    simp only [AV.pures, Bool.and_eq_true] at h
    cases i with
    | zero => simp [AV.pures, hx, h.2]
    | succ i => simp [AV.pures, h.1, ih h.2]

theorem sizes_take {s : Shape} {xs : List AV} (h : allSh s xs) {i : Nat} (hi : i ≤ xs.length) : Shape.sizes ((AV.shapes xs).take i) = i * s.size := by
  rw [shapes_take, sizes_all (h.take i), List.length_take, Nat.min_eq_left hi]

theorem rd_ok (E : Env) (shs : List Shape) : ∀ (p : List Nat) (c : AV) (cs : List Value) (K : AV → Prop), IR E shs c cs → rdK c p K → ∃ v o, K v ∧ offS c.shape p = some o ∧ shAt c.shape p = some v.shape ∧ o + v.shape.size ≤ c.shape.size ∧
    (c.pure = true → v.pure = true) ∧ IR E shs v ((cs.drop o).take v.shape.size)
  | [], c, cs, K, hc, h => by
    have h : K c := by cases c <;> exact h
    refine ⟨c, 0, h, by cases c <;> simp [offS], by cases c <;> simp [shAt], by omega, fun hp => hp, ?_⟩
    rw [List.drop_zero, List.take_of_length_le (by rw [IR_len c cs hc]; omega)]
    exact hc
  | i :: p, c, cs, K, hc, h => by
    cases c with
    | st xs =>
      simp only [rdK] at h
      cases hx : xs[i]? with
      | none => simp [hx] at h
      | some x =>
        simp only [hx] at h
        obtain ⟨ps, g1, g2⟩ := hc
        obtain ⟨pre, q, post, e1, e2, e3, _⟩ := IRs_nth xs ps i x g1 hx
        obtain ⟨v, o, h1, h2, h3, h4, hpu, h5⟩ := rd_ok E shs p x q K e2 h
        have hs := shapes_get xs i x hx
        refine ⟨v, Shape.sizes ((AV.shapes xs).take i) + o, h1, by simp [AV.shape, offS, hs, h2], by simp [AV.shape, shAt, hs, h3], ?_, fun hp => ?_, ?_⟩
        · have := sizes_split _ _ _ hs
          simp only [AV.shape, Shape.size]
          omega
        · simp only [AV.pure] at hp
          exact hpu (pures_at hp hx)
        · rw [g2, e1, ← e3, cut_mid _ _ _ _ _ (by rw [IR_len x q e2]; exact h4)]
          exact h5
    | ar n s xs =>
      simp only [rdK] at h
      obtain ⟨x, hx, h⟩ := h
      obtain ⟨g0, g3, ps, g1, g2⟩ := hc
      have hi : i < xs.length := (List.getElem?_eq_some_iff.1 hx).1
      obtain ⟨hxs, hxp⟩ := g3.at hx
      obtain ⟨pre, q, post, e1, e2, e3, _⟩ := PRs_nth xs ps i x g1 hx
      obtain ⟨v, o, h1, h2, h3, h4, hpu, h5⟩ := rd_ok E shs p x q K ((IR_pure x q hxp).2 e2) h
      rw [sizes_take g3 (by omega)] at e3
      refine ⟨v, i * s.size + o, h1, by simp [AV.shape, offS, ← g0, hi, ← hxs, h2], by simp [AV.shape, shAt, ← hxs, h3], ?_, fun _ => hpu hxp, ?_⟩
      · have : (i + 1) * s.size ≤ n * s.size := Nat.mul_le_mul_right _ (by omega)
        rw [Nat.add_mul] at this
        simp only [AV.shape, Shape.size]
        rw [hxs] at h4
        omega
      · rw [g2, e1, ← e3, cut_mid _ _ _ _ _ (by rw [PR_len x q e2]; exact h4)]
        exact h5
    | _ => simp [rdK] at h

theorem wr_ok (E : Env) (shs : List Shape) : ∀ (p : List Nat) (c v : AV) (cs vs : List Value) (K : AV → Prop), IR E shs c cs → IR E shs v vs → wrK c p v K → ∃ c' o, K c' ∧ c'.shape = c.shape ∧ offS c.shape p = some o ∧ o + vs.length ≤ c.shape.size ∧
    (c.pure = true → v.pure = true → c'.pure = true) ∧ IR E shs c' (cs.take o ++ vs ++ cs.drop (o + vs.length))
  | [], c, v, cs, vs, K, hc, hv, h => by
    have h : match Shape.eqb c.shape v.shape with | true => K v | false => False := by cases c <;> exact h
    cases he : Shape.eqb c.shape v.shape with
    | false => simp [he] at h
    | true =>
      simp only [he] at h
      have he := eqb_of _ _ he
      have l1 := IR_len c cs hc
      have l2 := IR_len v vs hv
      refine ⟨v, 0, h, he.symm, by cases c <;> simp [offS], by rw [l2, he]; omega, fun _ hp => hp, ?_⟩
      rw [List.take_zero, List.nil_append, List.drop_of_length_le (by rw [l1, l2, he]; omega), List.append_nil]
      exact hv
  | i :: p, c, v, cs, vs, K, hc, hv, h => by
    cases c with
    | st xs =>
      simp only [wrK] at h
      cases hx : xs[i]? with
      | none => simp [hx] at h
      | some x =>
        simp only [hx] at h
        obtain ⟨ps, g1, g2⟩ := hc
        obtain ⟨pre, q, post, e1, e2, e3, e4⟩ := IRs_nth xs ps i x g1 hx
        obtain ⟨x', o, h1, h2, h3, h4, hpu, h5⟩ := wr_ok E shs p x v q vs _ e2 hv h
        have hs := shapes_get xs i x hx
        have hsh : AV.shapes (xs.set i x') = AV.shapes xs := by
          clear h h1 h3 h4 h5 hpu g1 e1 e3 e4 hs
          induction xs generalizing i with
          | nil => rfl
          | cons y xs ih =>
            cases i with
            | zero => simp at hx; subst hx; simp [AV.shapes, h2]
            | succ i => simp only [List.set_cons_succ, AV.shapes]; rw [ih i (by simpa using hx)]
        refine ⟨_, Shape.sizes ((AV.shapes xs).take i) + o, h1, by simp only [AV.shape, hsh], by simp [AV.shape, offS, hs, h3], ?_, fun hp hvp => ?_, ?_⟩
        · have := sizes_split _ _ _ hs
          simp only [AV.shape, Shape.size]
          omega
        · simp only [AV.pure] at hp ⊢
          exact pures_set hp (hpu (pures_at hp hx) hvp)
        · rw [g2, e1, ← e3, put_mid _ _ _ _ _ _ (by rw [IR_len x q e2]; exact h4)]
          obtain ⟨qs, f1, f2⟩ := e4 _ _ h5
          exact ⟨qs, f1, f2.symm⟩
    | ar n s xs =>
      simp only [wrK] at h
      cases hvp : v.pure with
      | false => simp [hvp] at h
      | true =>
        simp only [hvp] at h
        obtain ⟨x, hx, h⟩ := h
        obtain ⟨g0, g3, ps, g1, g2⟩ := hc
        have hi : i < xs.length := (List.getElem?_eq_some_iff.1 hx).1
        obtain ⟨hxs, hxp⟩ := g3.at hx
        obtain ⟨pre, q, post, e1, e2, e3, e4⟩ := PRs_nth xs ps i x g1 hx
        obtain ⟨x', o, h1, h2, h3, h4, hpu, h5⟩ := wr_ok E shs p x v q vs _ ((IR_pure x q hxp).2 e2) hv h
        rw [sizes_take g3 (by omega)] at e3
        have hxp' := hpu hxp hvp
        refine ⟨_, i * s.size + o, h1, rfl, by simp [AV.shape, offS, ← g0, hi, ← hxs, h3], ?_, fun _ _ => rfl, ?_⟩
        · have : (i + 1) * s.size ≤ n * s.size := Nat.mul_le_mul_right _ (by omega)
          rw [Nat.add_mul] at this
          simp only [AV.shape, Shape.size]
          rw [hxs] at h4
          omega
        · rw [g2, e1, ← e3, put_mid _ _ _ _ _ _ (by rw [PR_len x q e2]; exact h4)]
          obtain ⟨qs, f1, f2⟩ := e4 _ _ ((IR_pure x' _ hxp').1 h5)
          exact ⟨by simp [g0], g3.set (h2.trans hxs) hxp', qs, f1, f2.symm⟩
    | _ => simp [wrK] at h
end Go.WL
namespace Go.WL

/-- The world with another block at a number. -/
def setBlk (w : World) (b : Nat) (o : Obj) : World := { w with heap := w.heap.setIfInBounds b o }
theorem setBlk_at {w : World} {b : Nat} {o : Obj} (h : b < w.heap.size) : (setBlk w b o).heap[b]? = some o := by
  simp [setBlk, h]
theorem setBlk_ne {w : World} {b c : Nat} {o : Obj} (h : c ≠ b) : (setBlk w b o).heap[c]? = w.heap[c]? := by
  simp [setBlk, Ne.symm h]
theorem setBlk_size {w : World} {b : Nat} {o : Obj} : (setBlk w b o).heap.size = w.heap.size := by simp [setBlk]
theorem setBlk_setBlk {w : World} {b : Nat} {o o' : Obj} : setBlk (setBlk w b o) b o' = setBlk w b o' := by
  simp only [setBlk, World.mk.injEq, and_true]
  apply Array.ext_getElem?
  intro i
  simp only [Array.getElem?_setIfInBounds, Array.size_setIfInBounds]
  split <;> simp_all
theorem setBlk_self {w : World} {b : Nat} {o : Obj} (h : w.heap[b]? = some o) : setBlk w b o = w := by
  have : w.heap.setIfInBounds b o = w.heap := by
    apply Array.ext_getElem?
    intro i
    simp only [Array.getElem?_setIfInBounds]
    split
    · rename_i e; subst e
      rw [h, if_pos (Array.getElem?_eq_some_iff.1 h).1]
    · rfl
  unfold setBlk
  rw [this]
theorem lt_of_blk {w : World} {b : Nat} {o : Obj} (h : w.heap[b]? = some o) : b < w.heap.size := (Array.getElem?_eq_some_iff.1 h).1

theorem cell_of {w : World} {b : Nat} {cs : Array Value} {ty : TypeId} {fz : Nat × Nat} (h : w.heap[b]? = some (.cells cs ty fz)) (o : Nat) : w.cell? ⟨b, o, none⟩ = cs[o]? := by
  simp [World.cell?, h]
theorem cell_congr {w w' : World} {b : Nat} (h : w'.heap[b]? = w.heap[b]?) (o : Nat) : w'.cell? ⟨b, o, none⟩ = w.cell? ⟨b, o, none⟩ := by
  simp [World.cell?, h]
theorem add_eq {a : Addr} (h : a.spot = none) (n : Nat) : a.add n = ⟨a.block, a.off + n, none⟩ := by
  unfold Addr.add
  split
  · rename_i h0; subst h0; cases a; simp_all
  · rfl

def putL (cs : Array Value) (o : Nat) : List Value → Array Value
  | [] => cs
  | v :: vs => putL (cs.setIfInBounds o v) (o + 1) vs
theorem putL_size : ∀ (vs : List Value) (cs : Array Value) (o : Nat), (putL cs o vs).size = cs.size
  | [], cs, o => rfl
  | v :: vs, cs, o => by rw [putL, putL_size vs]; simp
theorem putL_get : ∀ (vs : List Value) (cs : Array Value) (o i : Nat), o + vs.length ≤ cs.size → (putL cs o vs)[i]? = if i < o then cs[i]? else if i < o + vs.length then vs[i - o]? else cs[i]?
  | [], cs, o, i, h => by
    simp only [putL, List.length_nil, Nat.add_zero]
    by_cases h1 : i < o <;> simp [h1]
  | v :: vs, cs, o, i, h => by
    simp only [List.length_cons] at h
    rw [putL, putL_get vs _ _ _ (by simp; omega)]
    simp only [List.length_cons, Array.getElem?_setIfInBounds]
    by_cases h1 : i < o
    · simp [h1, show i < o + 1 by omega, show ¬ o = i by omega]
    · by_cases h2 : i = o
      · subst h2
        simp [show i < cs.size by omega]
      · by_cases h3 : i < o + 1 + vs.length
        · simp only [if_neg h1, if_neg (show ¬ i < o + 1 by omega), if_pos h3, if_pos (show i < o + (vs.length + 1) by omega)]
          rw [show i - o = (i - (o + 1)) + 1 by omega]
          simp
        · simp only [if_neg h1, if_neg (show ¬ i < o + 1 by omega), if_neg h3, if_neg (show ¬ i < o + (vs.length + 1) by omega), if_neg (show ¬ o = i by omega)]
theorem putL_list {cs : Array Value} {o : Nat} {vs : List Value} (h : o + vs.length ≤ cs.size) : (putL cs o vs).toList = cs.toList.take o ++ vs ++ cs.toList.drop (o + vs.length) := by
  apply List.ext_getElem?
  intro i
  rw [Array.getElem?_toList, putL_get vs cs o i h]
  have hl : (cs.toList.take o).length = o := by simp; omega
  by_cases h1 : i < o
  · rw [if_pos h1, List.append_assoc, List.getElem?_append_left (by omega)]
    simp [h1]
  · rw [if_neg h1]
    by_cases h2 : i < o + vs.length
    · rw [if_pos h2, List.getElem?_append_left (by simp; omega), List.getElem?_append_right (by omega), hl]
    · rw [if_neg h2, List.getElem?_append_right (by simp; omega)]
      simp only [List.length_append, hl, List.getElem?_drop]
      rw [show o + vs.length + (i - (o + vs.length)) = i by omega]
      simp

theorem setCell_blk {w : World} {b o : Nat} {v : Value} {cs : Array Value} {ty : TypeId} {fz : Nat × Nat} (h : w.heap[b]? = some (.cells cs ty fz)) :
    w.setCell ⟨b, o, none⟩ v = setBlk w b (.cells (cs.setIfInBounds o v) ty fz) := by
  simp only [World.setCell, setBlk, World.mk.injEq, and_true]
  apply Array.ext_getElem?
  intro i
  simp only [Array.getElem?_modify, Array.getElem?_setIfInBounds]
  split
  · rename_i e; subst e
    rw [h]
    simp [(Array.getElem?_eq_some_iff.1 h).1]
  · rfl

def fzOK (cs : Array Value) (fz : Nat × Nat) : Prop := cs.size < 0 ∨ fz.2 ≤ fz.1

theorem run_storeCells_blk {P : Program} {b : Nat} {ty : TypeId} {fz : Nat × Nat} {a : Addr} (ha : a.spot = none) (hb : a.block = b) : ∀ (vs : List Value) (i : Nat) (cs : Array Value) (w : World),
    w.heap[b]? = some (.cells cs ty fz) → fzOK cs fz → a.off + i + vs.length ≤ cs.size → (∀ v ∈ vs, v.oneCell' = true) →
    (storeCells a vs i).run P w = .ok () (setBlk w b (.cells (putL cs (a.off + i) vs) ty fz))
  | [], i, cs, w, h, _, _, _ => by simp [storeCells, putL, setBlk_self h]
  | v :: vs, i, cs, w, h, hf, hl, h1 => by
    simp only [List.length_cons] at hl
    have hb' := lt_of_blk h
    have hc : w.cell? (a.add i) = some (cs[a.off + i]'(by omega)) := by
      rw [add_eq ha, hb, cell_of h]
      simp
    have hfz : w.frozen? (a.add i) = false := by
      rw [add_eq ha, hb]
      simp only [World.frozen?, h]
      obtain ⟨lo, hi⟩ := fz
      rcases hf with hf | hf
      · omega
      · simp only at hf
        simp; intro; omega
    have e : w.setCell (a.add i) v = setBlk w b (.cells (cs.setIfInBounds (a.off + i) v) ty fz) := by
      rw [add_eq ha, hb, setCell_blk h]
    have hs : (store (a.add i) v).run P w = .ok () (setBlk w b (.cells (cs.setIfInBounds (a.off + i) v) ty fz)) := by
      have hv := h1 v (by simp)
      rw [run_store P w _ v _ hv]
      simp only [hc, hfz, e]
      rfl
    have ih := run_storeCells_blk (P := P) ha hb vs (i + 1) (cs.setIfInBounds (a.off + i) v) (setBlk w b (.cells (cs.setIfInBounds (a.off + i) v) ty fz)) (setBlk_at hb') (by unfold fzOK at hf ⊢; simpa using hf) (by simp; omega) (fun u hu => h1 u (by simp [hu]))
    have hbind : (storeCells a (v :: vs) i).run P w = (storeCells a vs (i + 1)).run P (setBlk w b (.cells (cs.setIfInBounds (a.off + i) v) ty fz)) := by
      rw [storeCells]
      simp [hs]
    rw [hbind, ih, setBlk_setBlk]
    simp [putL, Nat.add_assoc]

theorem run_loadCells_lies {P : Program} {w : World} {a : Addr} (ha : a.spot = none) : ∀ (n i : Nat) (acc : Array Value) (cs : List Value),
    cs.length = n → (∀ j u, cs[j]? = some u → w.cell? ⟨a.block, a.off + (i + j), none⟩ = some u) → (loadCellsFrom a i n acc).run P w = .ok (acc ++ cs.toArray) w
  | 0, i, acc, cs, hl, h => by
    obtain rfl : cs = [] := List.eq_nil_of_length_eq_zero hl
    simp [loadCellsFrom]
  | n + 1, i, acc, cs, hl, h => by
    match cs, hl with
    | c :: cs, hl =>
      have h0 := h 0 c rfl
      have ih := run_loadCells_lies (P := P) (w := w) ha n (i + 1) (acc.push c) cs (by simpa using hl) (fun j u hu => by
        have := h (j + 1) u (by simpa using hu)
        rw [show i + 1 + j = i + (j + 1) by omega]
        exact this)
      have e : (loadCellsFrom a i (n + 1) acc).run P w = (loadCellsFrom a (i + 1) n (acc.push c)).run P w := by
        rw [loadCellsFrom]
        simp only [Nat.add_zero] at h0
        simp [add_eq ha, h0]
      rw [e, ih]
      simp
end Go.WL
namespace Go.WL

def shsOf (bxs : List (AV × Bool)) : List Shape := bxs.map fun x => x.1.shape

def Rep0 (E : Env) (shs : List Shape) : AV → Value → Prop
  | .st xs, u => ∃ cs, u = .agg cs ∧ IR E shs (.st xs) cs.toList
  | .ar n s xs, u => ∃ cs, u = .agg cs ∧ IR E shs (.ar n s xs) cs.toList
  | v, u => IR E shs v [u]
def RepL (E : Env) (shs : List Shape) : List AV → List Value → Prop
  | [], us => us = []
  | x :: xs, us => ∃ u vs, us = u :: vs ∧ Rep0 E shs x u ∧ RepL E shs xs vs
def Rep (E : Env) (shs : List Shape) : AV → Value → Prop
  | .tup xs, u => ∃ us, u = .tuple us.toArray ∧ RepL E shs xs us
  | v, u => Rep0 E shs v u

/-- Of all boxes and rows, under the same names. -/
structure TrA (E E2 : Env) (shs shs2 : List Shape) : Prop where
  ext : Ext E.w E.lim E2.w E2.lim
  bx : ∀ (i b : Nat), E.bx[i]? = some b → E2.bx[i]? = some b
  sh : ∀ (i : Nat) (s : Shape), shs[i]? = some s → shs2[i]? = some s
  row : ∀ r, r < E.nx → r < E2.nx ∧ (E2.row r = .dead ∨ (E2.row r = E.row r ∧ ∀ b, E.row r = .grow b → 
    ∀ cs ty fz, E.w.heap[b]? = some (.cells cs ty fz) → E2.lim b = E.lim b ∧ ∃ cs' ty' fz', E2.w.heap[b]? = some (.cells cs' ty' fz') ∧ cs.size ≤ cs'.size))
theorem TrA.tr {E E2 : Env} {shs shs2 : List Shape} (h : TrA E E2 shs shs2) (ids rows : List Nat) : Tr E E2 shs shs2 (fun i => i) (fun i => i) ids rows :=
  ⟨h.ext, fun i _ => ⟨h.bx i, h.sh i⟩, fun r _ => h.row r⟩
theorem TrA.ir {E E2 : Env} {shs shs2 : List Shape} (h : TrA E E2 shs shs2) {v : AV} {cs : List Value} (k : IR E shs v cs) : IR E2 shs2 v cs := IR_keep v cs (h.tr _ _) k
theorem TrA.rep0 {E E2 : Env} {shs shs2 : List Shape} (h : TrA E E2 shs shs2) {v : AV} {u : Value} (k : Rep0 E shs v u) : Rep0 E2 shs2 v u := by
  cases v with
  | st xs => obtain ⟨cs, h1, h2⟩ := k; exact ⟨cs, h1, h.ir h2⟩
  | ar n s xs => obtain ⟨cs, h1, h2⟩ := k; exact ⟨cs, h1, h.ir h2⟩
  | _ => exact h.ir k
theorem TrA.repL {E E2 : Env} {shs shs2 : List Shape} (h : TrA E E2 shs shs2) : ∀ {xs : List AV} {us : List Value}, RepL E shs xs us → RepL E2 shs2 xs us
  | [], _, k => k
  | _ :: _, _, ⟨u, vs, h1, h2, h3⟩ => ⟨u, vs, h1, h.rep0 h2, h.repL h3⟩
theorem TrA.rep {E E2 : Env} {shs shs2 : List Shape} (h : TrA E E2 shs shs2) {v : AV} {u : Value} (k : Rep E shs v u) : Rep E2 shs2 v u := by
  cases v with
  | tup xs => obtain ⟨us, h1, h2⟩ := k; exact ⟨us, h1, h.repL h2⟩
  | _ => simp only [Rep] at k ⊢; exact h.rep0 k

def rsBlk : RowSt → Option Nat
  | .grow b => some b
  | _ => none
def rowBlk (E : Env) (r : Nat) : Option Nat := rsBlk (E.row r)
def claims (E : Env) (lv : List Nat) : List Nat := E.bx ++ lv.filterMap (rowBlk E)

def Plain (w : World) (b : Nat) : Prop := ∃ cs ty fz, w.heap[b]? = some (.cells cs ty fz) ∧ fzOK cs fz

structure MSim (D : Tabs) (E : Env) (bxs : List (AV × Bool)) (lv : List Nat) : Prop where
  bxl : E.bx.length = bxs.length
  box : ∀ (id : Nat) (c : AV) (f : Bool) (b : Nat), bxs[id]? = some (c, f) → E.bx[id]? = some b → ∃ cs ty fz, E.w.heap[b]? = some (.cells cs ty fz) ∧ fzOK cs fz ∧ IR E (shsOf bxs) c cs.toList ∧
    (f = true → c.pure = true ∧ E.lim b = cs.size) ∧ (f = false → E.lim b = 0)
  row : ∀ r ∈ lv, r < E.nx ∧ E.row r ≠ .dead ∧ ∀ b, E.row r = .grow b → Plain E.w b
  nodup : (claims E lv).Nodup
  lim : ∀ b o, o < E.lim b → ∃ u, E.w.cell? ⟨b, o, none⟩ = some u
  glob : ∀ g v, lookV D.gl g = some v → v.pure = true ∧ ∃ cs, PR E.w E.lim v cs ∧ Lies E.w E.lim ⟨g, 0, none⟩ cs

structure Base where
  w : World
  lim : Nat → Nat
  own : Nat → Prop
  bx : List Nat
  shs : List Shape

structure FrameB (B : Base) (E : Env) (cl : List Nat) : Prop where
  os : E.w.os = B.w.os
  tape : E.w.tape = B.w.tape
  output : E.w.output = B.w.output
  size : B.w.heap.size ≤ E.w.heap.size
  ext : Ext B.w B.lim E.w E.lim
  same : ∀ b, b < B.w.heap.size → ¬ B.own b → E.w.heap[b]? = B.w.heap[b]? ∧ E.lim b = B.lim b
  cl : ∀ b ∈ cl, b < B.w.heap.size → B.own b
  pre : B.bx <+: E.bx

structure Sim (D : Tabs) (B : Base) (E : Env) (σ : AS) (tmps : Array Value) : Prop where
  sz : tmps.size = σ.nt
  nx : E.nx = σ.m.nx
  m : MSim D E σ.m.bx σ.m.lv
  fb : FrameB B E (claims E σ.m.lv)
  tm : ∀ t v, lookV σ.tm t = some v → Rep E (shsOf σ.m.bx) v (tmps.getD t undef)
  shp : B.shs <+: shsOf σ.m.bx

theorem MSim.lt {D : Tabs} {E : Env} {bxs : List (AV × Bool)} {lv : List Nat} (h : MSim D E bxs lv) {b : Nat} (hb : b ∈ claims E lv) : Plain E.w b := by
  unfold claims at hb
  rcases List.mem_append.1 hb with hb | hb
  · obtain ⟨i, hi, he⟩ := List.getElem_of_mem hb
    have hi' : i < bxs.length := h.bxl ▸ hi
    obtain ⟨cs, ty, fz, h1, h2, _⟩ := h.box i bxs[i].1 bxs[i].2 b (by rw [List.getElem?_eq_getElem hi']) (by rw [List.getElem?_eq_getElem hi, he])
    exact ⟨cs, ty, fz, h1, h2⟩
  · obtain ⟨r, hr, he⟩ := List.mem_filterMap.1 hb
    refine (h.row r hr).2.2 b ?_
    unfold rowBlk at he
    cases e : E.row r with
    | grow b' => rw [e] at he; simp [rsBlk] at he; subst he; rfl
    | _ => rw [e] at he; simp [rsBlk] at he

theorem MSim.lim_lt {D : Tabs} {E : Env} {bxs : List (AV × Bool)} {lv : List Nat} (h : MSim D E bxs lv) {b : Nat} (hb : E.w.heap.size ≤ b) : E.lim b = 0 := by
  rcases Nat.eq_zero_or_pos (E.lim b) with h0 | h0
  · exact h0
  · obtain ⟨u, hu⟩ := h.lim b 0 h0
    simp [World.cell?, Array.getElem?_eq_none hb] at hu

theorem Plain.lt {w : World} {b : Nat} (h : Plain w b) : b < w.heap.size := by
  obtain ⟨cs, ty, fz, h1, _⟩ := h
  exact lt_of_blk h1

/-- From one state to another: what the slots say lives on. -/
theorem Sim.move {D : Tabs} {B : Base} {E E' : Env} {nt : Nat} {tm : List (Nat × AV)} {m m' : Mem} {tmps : Array Value} (h : Sim D B E ⟨nt, tm, m⟩ tmps)
    (t : TrA E E' (shsOf m.bx) (shsOf m'.bx)) (hm : MSim D E' m'.bx m'.lv) (hf : FrameB B E' (claims E' m'.lv)) (hn : E'.nx = m'.nx) (hp : B.shs <+: shsOf m'.bx) : Sim D B E' ⟨nt, tm, m'⟩ tmps :=
  ⟨h.sz, hn, hm, hf, fun t' v hv => t.rep (h.tm t' v hv), hp⟩

def upd {α : Type} (f : Nat → α) (i : Nat) (x : α) : Nat → α := fun j => if j = i then x else f j
theorem upd_at {α : Type} {f : Nat → α} {i : Nat} {x : α} : upd f i x i = x := by simp [upd]
theorem upd_ne {α : Type} {f : Nat → α} {i j : Nat} {x : α} (h : j ≠ i) : upd f i x j = f j := by simp [upd, h]

/-! ### A block more, that nobody claims -/
def Env.alloc (E : Env) (cs : Array Value) (ty : TypeId) (fz : Nat × Nat) (k : Nat) : Env :=
  { E with w := { E.w with heap := E.w.heap.push (.cells cs ty fz) }, lim := upd E.lim E.w.heap.size k }
theorem Env.alloc_old {E : Env} {cs : Array Value} {ty : TypeId} {fz : Nat × Nat} {k b : Nat} (h : b < E.w.heap.size) : (E.alloc cs ty fz k).w.heap[b]? = E.w.heap[b]? := by
  show (E.w.heap.push _)[b]? = _
  rw [Array.getElem?_push, if_neg (Nat.ne_of_lt h)]
theorem Env.alloc_new {E : Env} {cs : Array Value} {ty : TypeId} {fz : Nat × Nat} {k : Nat} : (E.alloc cs ty fz k).w.heap[E.w.heap.size]? = some (.cells cs ty fz) := by
  show (E.w.heap.push _)[_]? = _
  rw [Array.getElem?_push, if_pos rfl]
theorem Env.alloc_lim {E : Env} {cs : Array Value} {ty : TypeId} {fz : Nat × Nat} {k b : Nat} (h : b < E.w.heap.size) : (E.alloc cs ty fz k).lim b = E.lim b := by
  simp [Env.alloc, upd_ne (Nat.ne_of_lt h)]
theorem Env.alloc_limN {E : Env} {cs : Array Value} {ty : TypeId} {fz : Nat × Nat} {k : Nat} : (E.alloc cs ty fz k).lim E.w.heap.size = k := by
  simp [Env.alloc, upd_at]

theorem lim_alloc {D : Tabs} {E : Env} {bxs : List (AV × Bool)} {lv : List Nat} (h : MSim D E bxs lv) (cs : Array Value) (ty : TypeId) (fz : Nat × Nat) (k : Nat) : Ext E.w E.lim (E.alloc cs ty fz k).w (E.alloc cs ty fz k).lim := by
  constructor
  · intro b o ho
    have hb : b < E.w.heap.size := by
      rcases Nat.lt_or_ge b E.w.heap.size with hb | hb
      · exact hb
      · have := h.lim_lt hb; omega
    exact cell_congr (Env.alloc_old hb) o
  · intro b
    by_cases hb : b = E.w.heap.size
    · subst hb; rw [h.lim_lt (Nat.le_refl _)]; exact Nat.zero_le _
    · simp [Env.alloc, upd_ne hb]

theorem tra_alloc {D : Tabs} {E : Env} {bxs : List (AV × Bool)} {lv : List Nat} (h : MSim D E bxs lv) (cs : Array Value) (ty : TypeId) (fz : Nat × Nat) (k : Nat) : TrA E (E.alloc cs ty fz k) (shsOf bxs) (shsOf bxs) := by
  refine ⟨lim_alloc h cs ty fz k, fun i b hb => hb, fun i s hs => hs, fun r hr => ⟨hr, ?_⟩⟩
  by_cases hd : E.row r = .dead
  · exact .inl hd
  · exact .inr ⟨rfl, fun b hb cs' ty' fz' hc => ⟨Env.alloc_lim (lt_of_blk hc), cs', ty', fz', (Env.alloc_old (lt_of_blk hc)).trans hc, Nat.le_refl _⟩⟩

theorem rowBlk_eq {E E' : Env} {r : Nat} (h : E'.row r = E.row r) : rowBlk E' r = rowBlk E r := by unfold rowBlk; rw [h]
theorem claims_eq {E E' : Env} {lv : List Nat} (hb : E'.bx = E.bx) (h : ∀ r ∈ lv, E'.row r = E.row r) : claims E' lv = claims E lv := by
  unfold claims
  rw [hb]
  congr 1
  induction lv with
  | nil => rfl
  | cons r lv ih => simp only [List.filterMap_cons, rowBlk_eq (h r (by simp)), ih fun r' hr => h r' (by simp [hr])]

/-- What of a memory's relation must be looked at anew where neither boxes nor live rows turn: their blocks. -/
theorem MSim.keep {D : Tabs} {E E' : Env} {bxs : List (AV × Bool)} {lv : List Nat} (h : MSim D E bxs lv) (t : TrA E E' (shsOf bxs) (shsOf bxs)) (hbx : E'.bx = E.bx) (hnx : E.nx ≤ E'.nx)
    (hrow : ∀ r ∈ lv, E'.row r = E.row r) (hblk : ∀ b ∈ claims E lv, E'.w.heap[b]? = E.w.heap[b]? ∧ E'.lim b = E.lim b) (hlim : ∀ b o, o < E'.lim b → ∃ u, E'.w.cell? ⟨b, o, none⟩ = some u) : MSim D E' bxs lv := by
  refine ⟨by rw [hbx]; exact h.bxl, fun id c f b hc hb => ?_, fun r hr => ?_, by rw [claims_eq hbx hrow]; exact h.nodup, hlim, fun g v hg => ?_⟩
  · rw [hbx] at hb
    obtain ⟨cs, ty, fz, h1, h2, h3, h4, h5⟩ := h.box id c f b hc hb
    obtain ⟨e1, e2⟩ := hblk b (List.mem_append_left _ (List.mem_of_getElem? hb))
    exact ⟨cs, ty, fz, e1.trans h1, h2, t.ir h3, by rw [e2]; exact h4, by rw [e2]; exact h5⟩
  · obtain ⟨h1, h2, h3⟩ := h.row r hr
    refine ⟨by omega, by rw [hrow r hr]; exact h2, fun b hb => ?_⟩
    rw [hrow r hr] at hb
    obtain ⟨cs, ty, fz, h4, h5⟩ := h3 b hb
    have e := (hblk b (List.mem_append_right _ (List.mem_filterMap.2 ⟨r, hr, by unfold rowBlk; rw [hb]; rfl⟩))).1
    exact ⟨cs, ty, fz, e.trans h4, h5⟩
  · obtain ⟨h1, cs, h2, h3⟩ := h.glob g v hg
    exact ⟨h1, cs, PR_ext t.ext _ _ h2, h3.ext t.ext⟩

theorem Sim.alloc {D : Tabs} {B : Base} {E : Env} {σ : AS} {tmps : Array Value} (h : Sim D B E σ tmps) (cs : Array Value) (ty : TypeId) (fz : Nat × Nat) (k : Nat) (hk : k ≤ cs.size) : Sim D B (E.alloc cs ty fz k) σ tmps := by
  obtain ⟨nt, tm, bx, lv, nx⟩ := σ
  have hlt : ∀ b ∈ claims E lv, b < E.w.heap.size := fun b hb => (h.m.lt hb).lt
  refine Sim.move (m := ⟨bx, lv, nx⟩) (m' := ⟨bx, lv, nx⟩) h (tra_alloc h.m cs ty fz k) ?_ ?_ h.nx h.shp
  · refine h.m.keep (tra_alloc h.m cs ty fz k) rfl (Nat.le_refl _) (fun r _ => rfl) (fun b hb => ⟨Env.alloc_old (hlt b hb), Env.alloc_lim (hlt b hb)⟩) (fun b o ho => ?_)
    by_cases hb : b = E.w.heap.size
    · subst hb
      rw [Env.alloc_limN] at ho
      rw [cell_of Env.alloc_new]
      exact ⟨_, Array.getElem?_eq_getElem (by omega)⟩
    · have ho' : o < E.lim b := by simpa [Env.alloc, upd_ne hb] using ho
      obtain ⟨u, hu⟩ := h.m.lim b o ho'
      exact ⟨u, ((lim_alloc h.m cs ty fz k).cell b o ho').trans hu⟩
  · refine ⟨h.fb.os, h.fb.tape, h.fb.output, by have := h.fb.size; simp [Env.alloc]; omega, h.fb.ext.trans (lim_alloc h.m cs ty fz k), fun b hb ho => ?_, h.fb.cl, h.fb.pre⟩
    have := h.fb.size
    exact ⟨(Env.alloc_old (by omega)).trans (h.fb.same b hb ho).1, (Env.alloc_lim (by omega)).trans (h.fb.same b hb ho).2⟩

/-- An order, or a capacity, was drawn. -/
def Env.drew (E : Env) : Env := { E with w := { E.w with drawn := E.w.drawn + 1 } }
theorem Sim.drew {D : Tabs} {B : Base} {E : Env} {σ : AS} {tmps : Array Value} (h : Sim D B E σ tmps) : Sim D B E.drew σ tmps := by
  have t : TrA E E.drew (shsOf σ.m.bx) (shsOf σ.m.bx) := ⟨⟨fun _ _ _ => rfl, fun _ => Nat.le_refl _⟩, fun _ _ h => h, fun _ _ h => h, fun r hr => ⟨hr, .inr ⟨rfl, fun b hb cs ty fz hc => ⟨rfl, cs, ty, fz, hc, Nat.le_refl _⟩⟩⟩⟩
  obtain ⟨nt, tm, bx, lv, nx⟩ := σ
  exact Sim.move (m := ⟨bx, lv, nx⟩) (m' := ⟨bx, lv, nx⟩) h t (h.m.keep t rfl (Nat.le_refl _) (fun _ _ => rfl) (fun _ _ => ⟨rfl, rfl⟩) h.m.lim)
    ⟨h.fb.os, h.fb.tape, h.fb.output, h.fb.size, h.fb.ext.trans ⟨fun _ _ _ => rfl, fun _ => Nat.le_refl _⟩, h.fb.same, h.fb.cl, h.fb.pre⟩ h.nx h.shp

/-! ### Rows claimed and given up -/
def Env.claim (E : Env) (s : RowSt) : Env := { E with row := upd E.row E.nx s, nx := E.nx + 1 }
theorem tra_claim {E : Env} {shs : List Shape} (s : RowSt) : TrA E (E.claim s) shs shs := by
  refine ⟨⟨fun _ _ _ => rfl, fun _ => Nat.le_refl _⟩, fun _ _ h => h, fun _ _ h => h, fun r hr => ⟨by simp only [Env.claim]; omega, .inr ⟨?_, fun b hb cs ty fz hc => ⟨rfl, cs, ty, fz, hc, Nat.le_refl _⟩⟩⟩⟩
  simp [Env.claim, upd_ne (Nat.ne_of_lt hr)]
theorem Sim.claim {D : Tabs} {B : Base} {E : Env} {nt : Nat} {tm : List (Nat × AV)} {bx : List (AV × Bool)} {lv : List Nat} {nx : Nat} {tmps : Array Value} (h : Sim D B E ⟨nt, tm, ⟨bx, lv, nx⟩⟩ tmps) (s : RowSt) (hs : s ≠ .dead)
    (hb : ∀ b, s = .grow b → Plain E.w b ∧ b ∉ claims E lv ∧ (b < B.w.heap.size → B.own b)) : Sim D B (E.claim s) ⟨nt, tm, ⟨bx, nx :: lv, nx + 1⟩⟩ tmps := by
  have hnx : E.nx = nx := h.nx
  have hlt : ∀ r ∈ lv, r < E.nx := fun r hr => (h.m.row r hr).1
  have hold : ∀ r ∈ lv, (E.claim s).row r = E.row r := fun r hr => by simp [Env.claim, upd_ne (Nat.ne_of_lt (hlt r hr))]
  have hnew : (E.claim s).row nx = s := by simp [Env.claim, ← hnx, upd_at]
  have e' : lv.filterMap (rowBlk (E.claim s)) = lv.filterMap (rowBlk E) := List.append_cancel_left (claims_eq (E := E) (E' := E.claim s) rfl hold)
  have hrb : rowBlk (E.claim s) nx = rsBlk s := by unfold rowBlk; rw [hnew]
  have hcl : ∀ b, b ∈ claims (E.claim s) (nx :: lv) ↔ (s = .grow b ∨ b ∈ claims E lv) := by
    intro b
    unfold claims
    rw [List.filterMap_cons, hrb, e']
    cases s with
    | dead => exact absurd rfl hs
    | exact => simp [Env.claim, rsBlk]
    | grow b' =>
      simp only [rsBlk, List.mem_append, List.mem_cons, RowSt.grow.injEq, Env.claim]
      constructor
      · rintro (h | h | h)
        · exact .inr (.inl h)
        · exact .inl h.symm
        · exact .inr (.inr h)
      · rintro (h | h | h)
        · exact .inr (.inl h.symm)
        · exact .inl h
        · exact .inr (.inr h)
  refine Sim.move (m := ⟨bx, lv, nx⟩) (m' := ⟨bx, nx :: lv, nx + 1⟩) h (tra_claim s) ?_ ?_ (by simp [Env.claim, hnx]) h.shp
  · refine ⟨h.m.bxl, fun id c f b hc hbx => ?_, fun r hr => ?_, ?_, h.m.lim, h.m.glob⟩
    · obtain ⟨cs, ty, fz, h1, h2, h3, h4, h5⟩ := h.m.box id c f b hc hbx
      exact ⟨cs, ty, fz, h1, h2, (tra_claim s).ir h3, h4, h5⟩
    · rcases List.mem_cons.1 hr with rfl | hr
      · refine ⟨by simp [Env.claim, hnx], by rw [hnew]; exact hs, fun b hbb => ?_⟩
        rw [hnew] at hbb
        exact (hb b hbb).1
      · obtain ⟨h1, h2, h3⟩ := h.m.row r hr
        refine ⟨by simp only [Env.claim]; omega, by rw [hold r hr]; exact h2, fun b hbb => ?_⟩
        rw [hold r hr] at hbb
        exact h3 b hbb
    · have hn := h.m.nodup
      unfold claims at hn ⊢
      rw [List.filterMap_cons, hrb, e']
      cases s with
      | dead => exact absurd rfl hs
      | exact => exact hn
      | grow b =>
        have hnot := (hb b rfl).2.1
        unfold claims at hnot
        simp only [List.mem_append, not_or] at hnot
        show (E.bx ++ b :: List.filterMap (rowBlk E) lv).Nodup
        rw [List.nodup_append] at hn ⊢
        refine ⟨hn.1, List.nodup_cons.2 ⟨hnot.2, hn.2.1⟩, fun x hx y hy => ?_⟩
        rcases List.mem_cons.1 hy with rfl | hy
        · rintro rfl; exact hnot.1 hx
        · exact hn.2.2 x hx y hy
  · refine ⟨h.fb.os, h.fb.tape, h.fb.output, h.fb.size, h.fb.ext, h.fb.same, fun b hbb hl => ?_, h.fb.pre⟩
    rcases (hcl b).1 hbb with hbb | hbb
    · exact (hb b hbb).2.2 hl
    · exact h.fb.cl b hbb hl

theorem mem_rem : ∀ (l : List Nat) (y x : Nat), x ∈ rem l y ↔ x ∈ l ∧ x ≠ y
  | [], y, x => by simp [rem]
  | z :: l, y, x => by
    unfold rem
    split
    · rename_i h
      have := Nat.eq_of_beq_eq_true h
      subst this
      rw [mem_rem l z x]
      simp only [List.mem_cons]
      constructor
      · rintro ⟨h1, h2⟩; exact ⟨.inr h1, h2⟩
      · rintro ⟨h1 | h1, h2⟩
        · exact absurd h1 h2
        · exact ⟨h1, h2⟩
    · rename_i h
      have hz : z ≠ y := fun e => by subst e; simp at h
      simp only [List.mem_cons, mem_rem l y x]
      constructor
      · rintro (h1 | h1)
        · exact ⟨.inl h1, h1 ▸ hz⟩
        · exact ⟨.inr h1.1, h1.2⟩
      · rintro ⟨h1 | h1, h2⟩
        · exact .inl h1
        · exact .inr ⟨h1, h2⟩
theorem rem_sub (l : List Nat) (y : Nat) : (rem l y).Sublist l := by
  induction l with
  | nil => simp [rem]
  | cons z l ih =>
    unfold rem
    split
    · exact ih.cons _
    · exact ih.cons_cons _

/-- Rows are given up: all that are not kept. -/
def Env.bury (E : Env) (lv : List Nat) : Env := { E with row := fun r => if r ∈ lv then E.row r else .dead }
theorem tra_bury {E : Env} {shs : List Shape} (lv : List Nat) : TrA E (E.bury lv) shs shs := by
  refine ⟨⟨fun _ _ _ => rfl, fun _ => Nat.le_refl _⟩, fun _ _ h => h, fun _ _ h => h, fun r hr => ⟨hr, ?_⟩⟩
  by_cases h : r ∈ lv
  · exact .inr ⟨by simp [Env.bury, h], fun b hb cs ty fz hc => ⟨rfl, cs, ty, fz, hc, Nat.le_refl _⟩⟩
  · exact .inl (by simp [Env.bury, h])
theorem claims_bury {E : Env} {lv : List Nat} : claims (E.bury lv) lv = claims E lv := claims_eq rfl fun r hr => by simp [Env.bury, hr]
theorem Sim.bury {D : Tabs} {B : Base} {E : Env} {nt : Nat} {tm : List (Nat × AV)} {bx : List (AV × Bool)} {lv lv' : List Nat} {nx : Nat} {tmps : Array Value} (h : Sim D B E ⟨nt, tm, ⟨bx, lv, nx⟩⟩ tmps) (hs : lv'.Sublist lv) : Sim D B (E.bury lv') ⟨nt, tm, ⟨bx, lv', nx⟩⟩ tmps := by
  have hsub : (claims E lv').Sublist (claims E lv) := (List.Sublist.refl _).append (hs.filterMap _)
  refine Sim.move (m := ⟨bx, lv, nx⟩) (m' := ⟨bx, lv', nx⟩) h (tra_bury lv') ?_ ?_ h.nx h.shp
  · refine ⟨h.m.bxl, fun id c f b hc hb => ?_, fun r hr => ?_, ?_, h.m.lim, h.m.glob⟩
    · obtain ⟨cs, ty, fz, h1, h2, h3, h4, h5⟩ := h.m.box id c f b hc hb
      exact ⟨cs, ty, fz, h1, h2, (tra_bury lv').ir h3, h4, h5⟩
    · obtain ⟨h1, h2, h3⟩ := h.m.row r (hs.subset hr)
      have e : (E.bury lv').row r = E.row r := by simp [Env.bury, hr]
      refine ⟨h1, by rw [e]; exact h2, fun b hb => ?_⟩
      rw [e] at hb
      exact h3 b hb
    · rw [claims_bury]
      exact h.m.nodup.sublist hsub
  · refine ⟨h.fb.os, h.fb.tape, h.fb.output, h.fb.size, h.fb.ext, h.fb.same, fun b hb hl => ?_, h.fb.pre⟩
    rw [claims_bury] at hb
    exact h.fb.cl b (hsub.subset hb) hl
end Go.WL
namespace Go.WL

theorem Sim.put {D : Tabs} {B : Base} {E : Env} {nt : Nat} {tm : List (Nat × AV)} {m : Mem} {a : Act} {d : Option Nat} {v : AV} {u : Value} {K : AS → Prop} (h : Sim D B E ⟨nt, tm, m⟩ a.tmps)
    (hr : Rep E (shsOf m.bx) v u) (hk : AS.put ⟨nt, tm, m⟩ d v K) : ∃ σ', K σ' ∧ Sim D B E σ' (a.put d u).tmps := by
  cases d with
  | none => exact ⟨_, hk, h⟩
  | some d =>
    simp only [AS.put] at hk
    cases hd : Nat.blt d nt with
    | false => simp [hd] at hk
    | true =>
      simp only [hd] at hk
      refine ⟨_, hk, ?_, h.nx, h.m, h.fb, fun t v' hv => ?_, h.shp⟩
      · simp only [Act.put, Array.size_setIfInBounds]; exact h.sz
      · have hlt : d < a.tmps.size := by
          rw [h.sz]
          simpa [Nat.blt_eq] using hd
        simp only [lookV] at hv
        cases e : Nat.beq d t with
        | true =>
          simp only [e, Option.some.injEq] at hv
          subst hv
          have := Nat.eq_of_beq_eq_true e
          subst this
          simpa [Act.put, Array.getD_eq_getD_getElem?, hlt] using hr
        | false =>
          simp only [e] at hv
          have hne : d ≠ t := fun e' => by subst e'; simp at e
          have := h.tm t v' hv
          simpa [Act.put, Array.getD_eq_getD_getElem?, Array.getElem?_setIfInBounds, hne] using this
theorem Act.put_defers (a : Act) (d : Option Nat) (u : Value) : (a.put d u).defers = a.defers := by cases d <;> rfl

theorem lookV_dropV : ∀ (tm : List (Nat × AV)) (d t : Nat) (v : AV), lookV (dropV tm d) t = some v → t ≠ d ∧ lookV tm t = some v
  | [], d, t, v, h => by simp [dropV, lookV] at h
  | (k, x) :: r, d, t, v, h => by
    unfold dropV at h
    split at h
    · rename_i e
      have e := Nat.eq_of_beq_eq_true e
      obtain ⟨h1, h2⟩ := lookV_dropV r d t v h
      refine ⟨h1, ?_⟩
      have : Nat.beq k t = false := by
        subst e
        cases hh : Nat.beq k t with
        | false => rfl
        | true => exact absurd (Nat.eq_of_beq_eq_true hh).symm h1
      simp [lookV, this, h2]
    · rename_i e
      unfold lookV at h ⊢
      split at h
      · rename_i e'
        have e' := Nat.eq_of_beq_eq_true e'
        subst e'
        refine ⟨fun e'' => by subst e''; simp at e, h⟩
      · exact lookV_dropV r d t v h
theorem Sim.drop {D : Tabs} {B : Base} {E : Env} {σ : AS} {a : Act} {d : Option Nat} (h : Sim D B E σ a.tmps) : Sim D B E (σ.drop d) (a.put d undef).tmps := by
  obtain ⟨nt, tm, m⟩ := σ
  cases d with
  | none => exact h
  | some d =>
    refine ⟨by simp only [Act.put, Array.size_setIfInBounds, AS.drop]; exact h.sz, h.nx, h.m, h.fb, fun t v hv => ?_, h.shp⟩
    simp only [AS.drop, lookV] at hv
    split at hv
    · rename_i e
      have e := Nat.eq_of_beq_eq_true e
      subst e
      simp only [Option.some.injEq] at hv
      subst hv
      show Rep E (shsOf m.bx) (.tup []) _
      refine ⟨[], ?_, rfl⟩
      simp only [Act.put, Array.getD_eq_getD_getElem?, Array.getElem?_setIfInBounds]
      by_cases hd : d < a.tmps.size
      · simp [hd, undef]
      · simp [hd, undef]
    · rename_i e
      have hne : d ≠ t := fun e2 => by subst e2; simp at e
      have := h.tm t v hv
      show Rep E (shsOf m.bx) v _
      simpa [Act.put, Array.getD_eq_getD_getElem?, Array.getElem?_setIfInBounds, hne] using this

/-! ### A box more -/
def Env.box (E : Env) (b : Nat) : Env := { E with bx := E.bx ++ [b] }
theorem shsOf_append (l : List (AV × Bool)) (c : AV) (f : Bool) : shsOf (l ++ [(c, f)]) = shsOf l ++ [c.shape] := by simp [shsOf]
theorem tra_box {E : Env} {shs : List Shape} (b : Nat) (s : Shape) : TrA E (E.box b) shs (shs ++ [s]) := by
  refine ⟨⟨fun _ _ _ => rfl, fun _ => Nat.le_refl _⟩, fun i b' h => ?_, fun i s' h => ?_, fun r hr => ⟨hr, .inr ⟨rfl, fun b hb cs ty fz hc => ⟨rfl, cs, ty, fz, hc, Nat.le_refl _⟩⟩⟩⟩
  · simp only [Env.box]
    rw [List.getElem?_append_left (List.getElem?_eq_some_iff.1 h).1]
    exact h
  · rw [List.getElem?_append_left (List.getElem?_eq_some_iff.1 h).1]
    exact h
theorem Sim.box {D : Tabs} {B : Base} {E : Env} {nt : Nat} {tm : List (Nat × AV)} {bx : List (AV × Bool)} {lv : List Nat} {nx : Nat} {tmps : Array Value} (h : Sim D B E ⟨nt, tm, ⟨bx, lv, nx⟩⟩ tmps)
    {b : Nat} {c : AV} {cs : Array Value} {ty : TypeId} {fz : Nat × Nat} (hb : E.w.heap[b]? = some (.cells cs ty fz)) (hf : fzOK cs fz) (hl : E.lim b = 0) (hc : IR E (shsOf bx) c cs.toList) (hn : b ∉ claims E lv) (hB : B.w.heap.size ≤ b) :
    Sim D B (E.box b) ⟨nt, tm, ⟨bx ++ [(c, false)], lv, nx⟩⟩ tmps := by
  have t : TrA E (E.box b) (shsOf bx) (shsOf (bx ++ [(c, false)])) := by rw [shsOf_append]; exact tra_box b _
  have hcl : ∀ x, x ∈ claims (E.box b) lv ↔ x = b ∨ x ∈ claims E lv := by
    intro x
    simp only [claims, Env.box, List.mem_append, List.mem_singleton]
    have : (fun r => rowBlk { E with bx := E.bx ++ [b] } r) = rowBlk E := rfl
    constructor
    · rintro ((h | h) | h)
      · exact .inr (.inl h)
      · exact .inl h
      · exact .inr (.inr h)
    · rintro (h | h | h)
      · exact .inl (.inr h)
      · exact .inl (.inl h)
      · exact .inr h
  refine Sim.move (m := ⟨bx, lv, nx⟩) (m' := ⟨bx ++ [(c, false)], lv, nx⟩) h t ?_ ?_ h.nx (by rw [shsOf_append]; exact h.shp.trans (List.prefix_append _ _))
  · refine ⟨by simp [Env.box, h.m.bxl], fun id c' f b' h1 h2 => ?_, h.m.row, ?_, h.m.lim, h.m.glob⟩
    · have hbl : E.bx.length = bx.length := h.m.bxl
      by_cases hid : id < bx.length
      · simp only at h1
        rw [List.getElem?_append_left hid] at h1
        simp only [Env.box] at h2
        rw [List.getElem?_append_left (by omega)] at h2
        obtain ⟨cs', ty', fz', k1, k2, k3, k4⟩ := h.m.box id c' f b' h1 h2
        exact ⟨cs', ty', fz', k1, k2, t.ir k3, k4⟩
      · simp only at h1
        rw [List.getElem?_append_right (by omega)] at h1
        simp only [Env.box] at h2
        rw [List.getElem?_append_right (by omega)] at h2
        have e1 := List.getElem?_eq_some_iff.1 h1
        have e2 := List.getElem?_eq_some_iff.1 h2
        simp only [List.getElem_singleton, Prod.mk.injEq] at e1 e2
        obtain ⟨_, rfl, rfl⟩ := e1
        obtain ⟨_, rfl⟩ := e2
        exact ⟨cs, ty, fz, hb, hf, t.ir hc, fun h => by simp at h, fun _ => hl⟩
    · have hn' := h.m.nodup
      unfold claims at hn hn' ⊢
      simp only [Env.box]
      have e : lv.filterMap (rowBlk { w := E.w, lim := E.lim, bx := E.bx ++ [b], row := E.row, nx := E.nx }) = lv.filterMap (rowBlk E) := rfl
      rw [e]
      simp only [List.mem_append, not_or] at hn
      rw [List.append_assoc, List.nodup_append] 
      rw [List.nodup_append] at hn'
      refine ⟨hn'.1, List.nodup_cons.2 ⟨hn.2, hn'.2.1⟩, fun x hx y hy => ?_⟩
      rcases List.mem_cons.1 hy with rfl | hy
      · rintro rfl; exact hn.1 hx
      · exact hn'.2.2 x hx y hy
  · refine ⟨h.fb.os, h.fb.tape, h.fb.output, h.fb.size, h.fb.ext, h.fb.same, fun x hx hl => ?_, h.fb.pre.trans (List.prefix_append _ _)⟩
    rcases (hcl x).1 hx with rfl | hx
    · omega
    · exact h.fb.cl x hx hl

/-! ### A box written, or closed -/
theorem shsOf_set {bx : List (AV × Bool)} {id : Nat} {c c' : AV} {f f' : Bool} (h : bx[id]? = some (c, f)) (hs : c'.shape = c.shape) : shsOf (bx.set id (c', f')) = shsOf bx := by
  unfold shsOf
  rw [List.map_set]
  apply List.ext_getElem?
  intro i
  by_cases hi : id = i
  · subst hi
    have hlt := (List.getElem?_eq_some_iff.1 h).1
    rw [List.getElem?_set_self (by simpa using hlt), List.getElem?_map, h]
    simp [hs]
  · rw [List.getElem?_set_ne hi]

def Env.setBlk (E : Env) (b : Nat) (cs : Array Value) (ty : TypeId) (fz : Nat × Nat) (l : Nat) : Env := { E with w := WL.setBlk E.w b (.cells cs ty fz), lim := upd E.lim b l }

theorem ext_setBlk {E : Env} {b l : Nat} {cs cs' : Array Value} {ty : TypeId} {fz : Nat × Nat} (hb : E.w.heap[b]? = some (.cells cs ty fz)) (hl : E.lim b ≤ l) (hc : ∀ o, o < E.lim b → cs'[o]? = cs[o]?) :
    Ext E.w E.lim (E.setBlk b cs' ty fz l).w (E.setBlk b cs' ty fz l).lim := by
  constructor
  · intro b' o ho
    by_cases e : b' = b
    · subst e
      rw [show (E.setBlk b' cs' ty fz l).w = WL.setBlk E.w b' (.cells cs' ty fz) from rfl, cell_of (setBlk_at (lt_of_blk hb)), cell_of hb]
      exact hc o ho
    · exact cell_congr (setBlk_ne e) o
  · intro b'
    by_cases e : b' = b
    · subst e; simp only [Env.setBlk, upd_at]; exact hl
    · simp only [Env.setBlk, upd_ne e]; exact Nat.le_refl _

theorem tra_setBlk {E : Env} {shs : List Shape} {b l : Nat} {cs cs' : Array Value} {ty : TypeId} {fz : Nat × Nat} (hb : E.w.heap[b]? = some (.cells cs ty fz)) (hl : E.lim b ≤ l) (hc : ∀ o, o < E.lim b → cs'[o]? = cs[o]?)
    (hz : cs'.size = cs.size) (hrow : ∀ r, E.row r = .grow b → l = E.lim b) : TrA E (E.setBlk b cs' ty fz l) shs shs := by
  refine ⟨ext_setBlk hb hl hc, fun _ _ h => h, fun _ _ h => h, fun r hr => ⟨hr, ?_⟩⟩
  by_cases hd : E.row r = .dead
  · exact .inl hd
  · refine .inr ⟨rfl, fun b' hb' cs0 ty0 fz0 h0 => ?_⟩
    by_cases e : b' = b
    · subst e
      refine ⟨by simp only [Env.setBlk, upd_at]; exact hrow r hb', cs', ty, fz, setBlk_at (lt_of_blk hb), ?_⟩
      rw [hb] at h0
      simp only [Option.some.injEq, Obj.cells.injEq] at h0
      rw [hz, h0.1]
      exact Nat.le_refl _
    · exact ⟨by simp only [Env.setBlk, upd_ne e], cs0, ty0, fz0, (setBlk_ne e).trans h0, Nat.le_refl _⟩

theorem lim_setBlk {D : Tabs} {E : Env} {bxs : List (AV × Bool)} {lv : List Nat} (h : MSim D E bxs lv) {b l : Nat} {cs cs' : Array Value} {ty : TypeId} {fz : Nat × Nat} (hb : E.w.heap[b]? = some (.cells cs ty fz)) (hl : l ≤ cs'.size) :
    ∀ b' o, o < (E.setBlk b cs' ty fz l).lim b' → ∃ u, (E.setBlk b cs' ty fz l).w.cell? ⟨b', o, none⟩ = some u := by
  intro b' o ho
  by_cases e : b' = b
  · subst e
    simp only [Env.setBlk, upd_at] at ho
    exact ⟨cs'[o]'(by omega), by rw [show (E.setBlk b' cs' ty fz l).w = WL.setBlk E.w b' (.cells cs' ty fz) from rfl, cell_of (setBlk_at (lt_of_blk hb))]; exact Array.getElem?_eq_getElem _⟩
  · simp only [Env.setBlk, upd_ne e] at ho
    obtain ⟨u, hu⟩ := h.lim b' o ho
    exact ⟨u, (cell_congr (setBlk_ne e) o).trans hu⟩

theorem fb_setBlk {D : Tabs} {B : Base} {E : Env} {σ : AS} {tmps : Array Value} (h : Sim D B E σ tmps) {b l : Nat} {cs cs' : Array Value} {ty : TypeId} {fz : Nat × Nat} (hb : E.w.heap[b]? = some (.cells cs ty fz)) (hl : E.lim b ≤ l) (hc : ∀ o, o < E.lim b → cs'[o]? = cs[o]?)
    (ho : b < B.w.heap.size → B.own b) : FrameB B (E.setBlk b cs' ty fz l) (claims E σ.m.lv) := by
  refine ⟨h.fb.os, h.fb.tape, h.fb.output, by rw [show (E.setBlk b cs' ty fz l).w.heap.size = E.w.heap.size from setBlk_size]; exact h.fb.size, h.fb.ext.trans (ext_setBlk hb hl hc), fun b' hb' hn => ?_, h.fb.cl, h.fb.pre⟩
  have e : b' ≠ b := by rintro rfl; exact hn (ho hb')
  have := h.fb.same b' hb' hn
  exact ⟨(setBlk_ne e).trans this.1, by simp only [Env.setBlk, upd_ne e]; exact this.2⟩

/-- A block that nobody claims is written beyond what lies for good. -/
theorem Sim.blk {D : Tabs} {B : Base} {E : Env} {σ : AS} {tmps : Array Value} (h : Sim D B E σ tmps) {b l : Nat} {cs cs' : Array Value} {ty : TypeId} {fz : Nat × Nat} (hb : E.w.heap[b]? = some (.cells cs ty fz)) (hl : E.lim b ≤ l) (hc : ∀ o, o < E.lim b → cs'[o]? = cs[o]?)
    (hz : cs'.size = cs.size) (hl' : l ≤ cs.size) (hrow : ∀ r, E.row r ≠ .grow b) (hcl : b ∉ claims E σ.m.lv) (ho : b < B.w.heap.size → B.own b) : Sim D B (E.setBlk b cs' ty fz l) σ tmps := by
  obtain ⟨nt, tm, bx, lv, nx⟩ := σ
  have t : TrA E (E.setBlk b cs' ty fz l) (shsOf bx) (shsOf bx) := tra_setBlk hb hl hc hz fun r hr => absurd hr (hrow r)
  refine Sim.move (m := ⟨bx, lv, nx⟩) (m' := ⟨bx, lv, nx⟩) h t ?_ ?_ h.nx h.shp
  · refine h.m.keep t rfl (Nat.le_refl _) (fun _ _ => rfl) (fun b' hb' => ?_) (lim_setBlk h.m hb (by omega))
    have e : b' ≠ b := by rintro rfl; exact hcl hb'
    exact ⟨setBlk_ne e, by simp only [Env.setBlk, upd_ne e]⟩
  · exact fb_setBlk h hb hl hc ho

/-- A box's content is another; or it is closed. -/
theorem Sim.boxset {D : Tabs} {B : Base} {E : Env} {nt : Nat} {tm : List (Nat × AV)} {bx : List (AV × Bool)} {lv : List Nat} {nx : Nat} {tmps : Array Value} (h : Sim D B E ⟨nt, tm, ⟨bx, lv, nx⟩⟩ tmps)
    {id b l : Nat} {c c' : AV} {f f' : Bool} {cs cs' : Array Value} {ty : TypeId} {fz : Nat × Nat} (hc : bx[id]? = some (c, f)) (hbx : E.bx[id]? = some b) (hb : E.w.heap[b]? = some (.cells cs ty fz)) (hz : cs'.size = cs.size)
    (hsame : ∀ o, o < E.lim b → cs'[o]? = cs[o]?) (hl : E.lim b ≤ l) (hs : c'.shape = c.shape) (hdead : ∀ r, E.row r ≠ .grow b)
    (hir : IR (E.setBlk b cs' ty fz l) (shsOf bx) c' cs'.toList) (hf : f' = true → c'.pure = true ∧ l = cs'.size) (hg : f' = false → l = 0) : Sim D B (E.setBlk b cs' ty fz l) ⟨nt, tm, ⟨bx.set id (c', f'), lv, nx⟩⟩ tmps := by
  have hcb : b ∈ claims E lv := List.mem_append_left _ (List.mem_of_getElem? hbx)
  have hle : l ≤ cs'.size := by cases f' with | true => exact Nat.le_of_eq (hf rfl).2 | false => rw [hg rfl]; exact Nat.zero_le _
  have t0 : TrA E (E.setBlk b cs' ty fz l) (shsOf bx) (shsOf bx) := tra_setBlk hb hl hsame hz fun r hr => absurd hr (hdead r)
  have t : TrA E (E.setBlk b cs' ty fz l) (shsOf bx) (shsOf (bx.set id (c', f'))) := by rw [shsOf_set hc hs]; exact t0
  have hnd := h.m.nodup
  refine Sim.move (m := ⟨bx, lv, nx⟩) (m' := ⟨bx.set id (c', f'), lv, nx⟩) h t ?_ ?_ h.nx (by rw [shsOf_set hc hs]; exact h.shp)
  · refine ⟨by simp [Env.setBlk, h.m.bxl], fun id' c'' f'' b' h1 h2 => ?_, fun r hr => ?_, h.m.nodup, lim_setBlk h.m hb hle, fun g v hg => ?_⟩
    · simp only at h1
      have h2 : E.bx[id']? = some b' := h2
      rw [shsOf_set hc hs]
      by_cases e : id = id'
      · subst e
        rw [List.getElem?_set_self (List.getElem?_eq_some_iff.1 hc).1] at h1
        simp only [Option.some.injEq, Prod.mk.injEq] at h1
        obtain ⟨rfl, rfl⟩ := h1
        rw [hbx] at h2
        simp only [Option.some.injEq] at h2
        subst h2
        obtain ⟨cs0, ty0, fz0, k1, k2, _⟩ := h.m.box id c f b hc hbx
        rw [hb] at k1
        simp only [Option.some.injEq, Obj.cells.injEq] at k1
        obtain ⟨rfl, rfl, rfl⟩ := k1
        refine ⟨cs', ty, fz, setBlk_at (lt_of_blk hb), by unfold fzOK at k2 ⊢; rw [hz]; exact k2, hir, fun h => ?_, fun h => ?_⟩
        · exact ⟨(hf h).1, by simp only [Env.setBlk, upd_at]; exact (hf h).2⟩
        · simp only [Env.setBlk, upd_at]; exact hg h
      · rw [List.getElem?_set_ne e] at h1
        obtain ⟨cs0, ty0, fz0, k1, k2, k3, k4, k5⟩ := h.m.box id' c'' f'' b' h1 h2
        have hne : b' ≠ b := by
          rintro rfl
          have hnd' : E.bx.Nodup := (List.nodup_append.1 hnd).1
          have hi := (List.getElem?_eq_some_iff.1 hbx)
          have hj := (List.getElem?_eq_some_iff.1 h2)
          obtain ⟨hi1, hi2⟩ := hi
          obtain ⟨hj1, hj2⟩ := hj
          exact e ((List.getElem_inj hnd').1 (hi2.trans hj2.symm))
        have el : (E.setBlk b cs' ty fz l).lim b' = E.lim b' := by simp only [Env.setBlk, upd_ne hne]
        exact ⟨cs0, ty0, fz0, (setBlk_ne hne).trans k1, k2, t0.ir k3, by rw [el]; exact k4, by rw [el]; exact k5⟩
    · obtain ⟨h1, h2, h3⟩ := h.m.row r hr
      refine ⟨h1, h2, fun b' hb' => ?_⟩
      obtain ⟨cs0, ty0, fz0, k1, k2⟩ := h3 b' hb'
      have hne : b' ≠ b := by rintro rfl; exact hdead r hb'
      exact ⟨cs0, ty0, fz0, (setBlk_ne hne).trans k1, k2⟩
    · obtain ⟨h1, cs0, h2, h3⟩ := h.m.glob g v hg
      exact ⟨h1, cs0, PR_ext t0.ext _ _ h2, h3.ext t0.ext⟩
  · exact fb_setBlk h hb hl hsame (h.fb.cl b hcb)

theorem Sim.tidy {D : Tabs} {B : Base} {E : Env} {nt : Nat} {tm : List (Nat × AV)} {bx : List (AV × Bool)} {lv : List Nat} {nx : Nat} {tmps : Array Value} (h : Sim D B E ⟨nt, tm, ⟨bx, lv, nx⟩⟩ tmps) : Sim D B (E.bury lv) ⟨nt, tm, ⟨bx, lv, nx⟩⟩ tmps := h.bury (List.Sublist.refl _)
theorem bury_row {E : Env} {lv : List Nat} {r b : Nat} (h : (E.bury lv).row r = .grow b) : r ∈ lv ∧ E.row r = .grow b := by
  simp only [Env.bury] at h
  split at h
  · rename_i hr; exact ⟨hr, h⟩
  · simp at h
/-- Where the rows that are not live are buried, none lies in a box. -/
theorem Sim.box_dead {D : Tabs} {B : Base} {E : Env} {σ : AS} {tmps : Array Value} (h : Sim D B (E.bury σ.m.lv) σ tmps) {id b : Nat} (hb : E.bx[id]? = some b) (r : Nat) : (E.bury σ.m.lv).row r ≠ .grow b := by
  intro hr
  obtain ⟨h1, h2⟩ := bury_row hr
  have hn := (List.nodup_append.1 h.m.nodup).2.2 b (List.mem_of_getElem? (show (E.bury σ.m.lv).bx[id]? = some b from hb)) b (List.mem_filterMap.2 ⟨r, h1, by unfold rowBlk; rw [hr]; rfl⟩)
  exact hn rfl
end Go.WL
namespace Go.WL

def KindOK (D : Tabs) : TK → Shape → TypeDesc → Prop
  | .int k, sh, d => sh = .lf ∧ d = .int k
  | .bool, sh, d => sh = .lf ∧ d = .bool
  | .str, sh, d => sh = .lf ∧ d = .string
  | .ptr e, sh, d => sh = .lf ∧ d = .pointer e
  | .slice e, sh, d => sh = .lf ∧ d = .slice e
  | .map k v, sh, d => sh = .lf ∧ d = .map k v
  | .func, sh, d => sh = .lf ∧ ∃ a b c, d = .func a b c
  | .arr n e, sh, d => d = .array n e ∧ ∃ j, lookT D.ty e = some j ∧ sh = .ar n j.sh
  | .strct fs, sh, d => ∃ (fields : Array Field) (shs : List Shape), d = .struct fields ∧ sh = .nd shs ∧ fields.size = shs.length ∧ fs.length = shs.length ∧
      ∀ (i : Nat) (f : Field), fields[i]? = some f → ∃ j : TI, lookT D.ty f.type = some j ∧ fs[i]? = some (f.type, f.offset) ∧ shs[i]? = some j.sh ∧ f.offset = Shape.sizes (shs.take i) ∧ j.sh.size ≠ 0 ∧ f.name ≠ "_"
  | .tup, _, _ => False

structure TyOK (P : Program) (D : Tabs) (t : Nat) (ti : TI) : Prop where
  fact : ∃ (d : TypeDesc) (i : TypeInfo) (z : Value), P.underlying t = some d ∧ P.info? t = some i ∧ i.size = ti.sh.size ∧ i.bytes = ti.bytes ∧ KindOK D ti.k ti.sh d ∧ i.zero = some z ∧
    ti.zero.shape = ti.sh ∧ ti.zero.pure = true ∧ ∀ E shs, Rep0 E shs ti.zero z
  dep : ti.sh.depth < 1000
  guard : P.eqGuardType P.depth t = false
  stood : P.stoodInHeld t = false
def TabOK (P : Program) (D : Tabs) : Prop := ∀ t ti, lookT D.ty t = some ti → TyOK P D t ti

section
variable {P : Program} {w : World} {t : Nat}
theorem run_underlying' {d : TypeDesc} (h : P.underlying t = some d) : (underlying t).run P w = .ok d w := by simp [underlying, h]
theorem run_typeInfo' {i : TypeInfo} (h : P.info? t = some i) : (typeInfo t).run P w = .ok i w := by simp [typeInfo, h]
theorem run_sizeOf' {i : TypeInfo} (h : P.info? t = some i) : (sizeOf t).run P w = .ok i.size w := by simp [sizeOf, run_typeInfo' h]
theorem run_zeroValue' {i : TypeInfo} {z : Value} (h : P.info? t = some i) (hz : i.zero = some z) : (zeroValue t).run P w = .ok z w := by simp [zeroValue, run_typeInfo' h, hz]
end

-- each cell is one value
mutual
theorem PR_one {w : World} {lim : Nat → Nat} : ∀ (v : AV) (cs : List Value), PR w lim v cs → ∀ u ∈ cs, u.oneCell' = true
  | .sc v, cs, h => by
    obtain ⟨rfl, hs⟩ := h
    intro u hu
    simp only [List.mem_singleton] at hu
    subst hu
    cases u <;> first | rfl | simp [simple] at hs
  | .st xs, cs, h => by
    obtain ⟨ps, h1, rfl⟩ := h
    exact PRs_one xs ps h1
  | .ar n s xs, cs, h => by
    obtain ⟨_, _, ps, h1, rfl⟩ := h
    exact PRs_one xs ps h1
  | .sl s xs m, cs, h => by
    obtain ⟨a, c, rfl, _⟩ := h
    intro u hu
    simp only [List.mem_singleton] at hu
    subst hu; rfl
  | .rp v, cs, h => by
    obtain ⟨ad, ds, rfl, _⟩ := h
    intro u hu
    simp only [List.mem_singleton] at hu
    subst hu; rfl
  | .tup xs, cs, h => h.elim
  | .pt _ _, cs, h => h.elim
  | .bs _ _ _ _ _ _, cs, h => h.elim
  | .fn _ _, cs, h => h.elim
theorem PRs_one {w : World} {lim : Nat → Nat} : ∀ (xs : List AV) (ps : List (List Value)), PRs w lim xs ps → ∀ u ∈ ps.flatten, u.oneCell' = true
  | [], ps, h => by
    have h : ps = [] := h
    simp [h]
  | x :: xs, ps, h => by
    obtain ⟨p, qs, rfl, h2, h3⟩ := h
    intro u hu
    simp only [List.flatten_cons, List.mem_append] at hu
    exact hu.elim (PR_one x p h2 u) (PRs_one xs qs h3 u)
end
mutual
theorem IR_one {E : Env} {shs : List Shape} : ∀ (v : AV) (cs : List Value), IR E shs v cs → ∀ u ∈ cs, u.oneCell' = true
  | .st xs, cs, h => by
    obtain ⟨ps, h1, rfl⟩ := h
    exact IRs_one xs ps h1
  | .sl s xs m, cs, h => PR_one _ _ h.1
  | .pt id p, cs, h => by
    obtain ⟨b, s, o, _, _, _, rfl⟩ := h
    intro u hu
    simp only [List.mem_singleton] at hu
    subst hu; rfl
  | .bs id p s off len cap, cs, h => by
    obtain ⟨b, t, o, n, o', _, _, _, _, _, _, _, rfl⟩ := h
    intro u hu
    simp only [List.mem_singleton] at hu
    subst hu; rfl
  | .fn f caps, cs, h => by
    obtain ⟨us, _, rfl⟩ := h
    intro u hu
    simp only [List.mem_singleton] at hu
    subst hu; rfl
  | .sc v, cs, h => PR_one (w := E.w) (lim := E.lim) (.sc v) cs h
  | .ar n s xs, cs, h => PR_one (w := E.w) (lim := E.lim) (.ar n s xs) cs h
  | .rp v, cs, h => PR_one (w := E.w) (lim := E.lim) (.rp v) cs h
  | .tup xs, cs, h => h.elim
theorem IRs_one {E : Env} {shs : List Shape} : ∀ (xs : List AV) (ps : List (List Value)), IRs E shs xs ps → ∀ u ∈ ps.flatten, u.oneCell' = true
  | [], ps, h => by
    have h : ps = [] := h
    simp [h]
  | x :: xs, ps, h => by
    obtain ⟨p, qs, rfl, h2, h3⟩ := h
    intro u hu
    simp only [List.flatten_cons, List.mem_append] at hu
    exact hu.elim (IR_one x p h2 u) (IRs_one xs qs h3 u)
end

theorem rep0_lf {E : Env} {shs : List Shape} {v : AV} {u : Value} (hs : v.shape = .lf) : Rep0 E shs v u ↔ IR E shs v [u] := by
  cases v with
  | st xs => simp [AV.shape] at hs
  | ar n s xs => simp [AV.shape] at hs
  | _ => rfl
theorem rep0_ag {E : Env} {shs : List Shape} {v : AV} {u : Value} (hs : v.shape ≠ .lf) : Rep0 E shs v u ↔ ∃ cs, u = .agg cs ∧ IR E shs v cs.toList := by
  cases v with
  | st xs => rfl
  | ar n s xs => rfl
  | _ => simp [AV.shape] at hs
theorem cells_one {u : Value} (h : u.oneCell' = true) : u.cells = #[u] := by cases u <;> first | rfl | simp [Value.oneCell'] at h
theorem rep0_cells {E : Env} {shs : List Shape} {v : AV} {u : Value} (h : Rep0 E shs v u) : IR E shs v u.cells.toList := by
  by_cases hs : v.shape = .lf
  · have h := (rep0_lf hs).1 h
    rw [cells_one (IR_one v _ h u (by simp))]
    exact h
  · obtain ⟨cs, rfl, h'⟩ := (rep0_ag hs).1 h
    exact h'
/-- One word for a value out of its cells. -/
def pack (v : AV) (cs : List Value) : Value := match v.shape with
  | .lf => cs.headD undef
  | _ => .agg cs.toArray
theorem rep0_pack {E : Env} {shs : List Shape} {v : AV} {cs : List Value} (h : IR E shs v cs) : Rep0 E shs v (pack v cs) := by
  have hl := IR_len v cs h
  unfold pack
  cases hs : v.shape with
  | lf =>
    rw [rep0_lf hs]
    rw [hs] at hl
    match cs, hl with
    | [c], _ => exact h
  | nd l => rw [rep0_ag (by simp [hs])]; exact ⟨_, rfl, by simpa using h⟩
  | ar n s => rw [rep0_ag (by simp [hs])]; exact ⟨_, rfl, by simpa using h⟩

theorem run_isAgg {P : Program} {D : Tabs} {w : World} {t : Nat} {ti : TI} {d : TypeDesc} (hd : P.underlying t = some d) (hk : KindOK D ti.k ti.sh d) : (isAgg t).run P w = .ok (match ti.sh with | .lf => false | _ => true) w := by
  obtain ⟨k, sh, b, z⟩ := ti
  cases k <;> simp only [KindOK] at hk
  case arr n e => obtain ⟨rfl, j, _, rfl⟩ := hk; simp [isAgg, run_underlying' hd]
  case strct fs => obtain ⟨fl, shs, rfl, rfl, _⟩ := hk; simp [isAgg, run_underlying' hd]
  case func => obtain ⟨rfl, a, b, c, rfl⟩ := hk; simp [isAgg, run_underlying' hd]
  all_goals (obtain ⟨rfl, rfl⟩ := hk; simp [isAgg, run_underlying' hd])

theorem run_loadVar {P : Program} {D : Tabs} {E : Env} {shs : List Shape} {t : Nat} {ti : TI} {v : AV} {cs : List Value} {a : Addr} (hT : TyOK P D t ti) (ha : a.spot = none) (hs : v.shape = ti.sh) (hv : IR E shs v cs)
    (hc : ∀ i u, cs[i]? = some u → E.w.cell? ⟨a.block, a.off + i, none⟩ = some u) : (loadVar t a).run P E.w = .ok (pack v cs) E.w := by
  obtain ⟨d, i, z, h1, h2, h3, _, h4, _⟩ := hT.fact
  have hl := IR_len v cs hv
  have hag := run_isAgg (P := P) (D := D) (w := E.w) (ti := ti) h1 h4
  unfold loadVar pack
  rw [hs]
  cases hsh : ti.sh with
  | lf =>
    rw [hs, hsh] at hl
    match cs, hl with
    | [c], _ =>
      have h0 := hc 0 c rfl
      simp only [Nat.add_zero] at h0
      have ea : a = ⟨a.block, a.off, none⟩ := by cases a; simp_all
      rw [← ea] at h0
      simp [hag, hsh, h0]
  | nd l =>
    have := run_loadCells_lies (P := P) (w := E.w) ha cs.length 0 #[] cs rfl (by simpa using hc)
    have hz : i.size = cs.length := by rw [h3, hl, hs]
    simp [hag, hsh, run_sizeOf' h2, loadCells, hz, this]
  | ar n s =>
    have := run_loadCells_lies (P := P) (w := E.w) ha cs.length 0 #[] cs rfl (by simpa using hc)
    have hz : i.size = cs.length := by rw [h3, hl, hs]
    simp [hag, hsh, run_sizeOf' h2, loadCells, hz, this]

theorem run_storeVar {P : Program} {D : Tabs} {E : Env} {shs : List Shape} {t : Nat} {ti : TI} {v : AV} {u : Value} {b o : Nat} {cs : Array Value} {ty : TypeId} {fz : Nat × Nat} (hT : TyOK P D t ti) (hs : v.shape = ti.sh) (hv : Rep0 E shs v u)
    (hb : E.w.heap[b]? = some (.cells cs ty fz)) (hf : fzOK cs fz) (hl : o + u.cells.size ≤ cs.size) : (storeVar t ⟨b, o, none⟩ u).run P E.w = .ok () (setBlk E.w b (.cells (putL cs o u.cells.toList) ty fz)) := by
  obtain ⟨d, i, z, h1, h2, h3, _⟩ := hT.fact
  have hi := rep0_cells hv
  have hlen := IR_len v _ hi
  have hsz : u.cells.size = i.size := by rw [h3, ← hs, ← hlen]; simp
  have := run_storeCells_blk (P := P) (a := ⟨b, o, none⟩) rfl rfl u.cells.toList 0 cs E.w hb hf (by simpa using hl) (IR_one v _ hi)
  unfold storeVar
  simp [run_sizeOf' h2, hsz, this]
end Go.WL
namespace Go.WL

section
variable {P : Program} {D : Tabs} {B : Base}

theorem eval_ok (hT : TabOK P D) {E : Env} {nt : Nat} {tm : List (Nat × AV)} {m : Mem} {a : Act} (h : Sim D B E ⟨nt, tm, m⟩ a.tmps) {t : Nat} {x : Operand} {v : AV} (he : evalO D tm t x = some v) : Rep E (shsOf m.bx) v (a.eval x) := by
  cases x with
  | tmp i => exact h.tm i v he
  | const c =>
    simp only [evalO] at he
    have hsc : ∀ c, simple c = true → Rep E (shsOf m.bx) (.sc c) c := fun c hc => ⟨rfl, hc⟩
    unfold constAV at he
    split at he <;> first | (simp only [Option.some.injEq] at he; subst he; exact hsc _ rfl) | skip
    · unfold Tabs.zeroSlice at he
      split at he
      · split at he
        · simp only [Option.some.injEq] at he
          subst he
          exact ⟨⟨none, 0, rfl, Nat.le_refl _, fun _ => rfl, by simp [allSh], fun _ => rfl, .inl rfl⟩, fun r hr => by simp at hr⟩
        · simp at he
      · simp at he
    · simp at he
  | global g =>
    simp only [evalO] at he
    cases hg : lookV D.gl g with
    | none => simp [hg] at he
    | some v' =>
      simp only [hg, Option.some.injEq] at he
      subst he
      obtain ⟨h1, cs, h2, h3⟩ := h.m.glob g v' hg
      exact ⟨⟨g, 0, none⟩, cs, rfl, h1, h2, h3⟩
  | func f =>
    simp only [evalO, Option.some.injEq] at he
    subst he
    exact ⟨[], rfl, rfl⟩

theorem rep_sc {E : Env} {shs : List Shape} {v u : Value} : Rep E shs (.sc v) u ↔ u = v ∧ simple v = true := by
  simp only [Rep, Rep0, IR, PR, List.cons.injEq, and_true]
theorem rep_rp {E : Env} {shs : List Shape} {v : AV} {u : Value} (h : Rep E shs (.rp v) u) : ∃ ad ds, u = .pointer (some ad) ∧ v.pure = true ∧ PR E.w E.lim v ds ∧ Lies E.w E.lim ad ds := by
  obtain ⟨ad, ds, h1, h2⟩ := h
  simp only [List.cons.injEq, and_true] at h1
  exact ⟨ad, ds, h1, h2⟩
theorem rep_pt {E : Env} {shs : List Shape} {id : Nat} {p : List Nat} {u : Value} (h : Rep E shs (.pt id p) u) : ∃ b s o, E.bx[id]? = some b ∧ shs[id]? = some s ∧ offS s p = some o ∧ u = .pointer (some ⟨b, o, none⟩) := by
  obtain ⟨b, s, o, h1, h2, h3, h4⟩ := h
  simp only [List.cons.injEq, and_true] at h4
  exact ⟨b, s, o, h1, h2, h3, h4⟩
theorem rep_sl {E : Env} {shs : List Shape} {s : Shape} {xs : List AV} {m : Mark} {u : Value} (h : Rep E shs (.sl s xs m) u) : ∃ a c, u = .slice a xs.length c ∧ xs.length ≤ c ∧ (m = .ex → c = xs.length) ∧ allSh s xs ∧ (a = none → c = 0) ∧
    (xs = [] ∨ ∃ ad ps, a = some ad ∧ PRs E.w E.lim xs ps ∧ Lies E.w E.lim ad ps.flatten) ∧ (∀ r, m = .own r → r < E.nx ∧ rowOK E s xs.length a c (E.row r)) := by
  obtain ⟨⟨a, c, h1, h2, h3, h4, h5, h6⟩, h7⟩ := h
  simp only [List.cons.injEq, and_true] at h1
  subst h1
  exact ⟨a, c, rfl, h2, h3, h4, h5, h6, fun r hr => ⟨(h7 r hr).1, (h7 r hr).2 a _ c rfl⟩⟩

/-- What must be shown behind an operation. -/
def NextOK (D : Tabs) (B : Base) (a : Act) (next : Act → World → Prop) (K : AS → Prop) : Prop :=
  ∀ E' σ' a', Sim D B E' σ' a'.tmps → a'.defers = a.defers → K σ' → next a' E'.w

theorem fin_val {o : Oper} {a : Act} {E E' : Env} {nt : Nat} {tm : List (Nat × AV)} {m : Mem} {v : AV} {u : Value} {K : AS → Prop} {next : Act → World → Prop} {Q : Exit → Act → World → Prop}
    (hrun : (execOp a.eval o).run P E.w = .ok (.value u) E'.w) (h : Sim D B E' ⟨nt, tm, m⟩ a.tmps) (hr : Rep E' (shsOf m.bx) v u) (hk : AS.put ⟨nt, tm, m⟩ o.dst v K) (hn : NextOK D B a next K) : o.wp P a E.w next Q := by
  unfold Oper.wp
  rw [hrun]
  obtain ⟨σ', h1, h2⟩ := Sim.put h hr hk
  exact hn E' σ' _ h2 (Act.put_defers _ _ _) h1

/-- A slot's value alone: the world stands. -/
theorem fin_same {o : Oper} {a : Act} {E : Env} {nt : Nat} {tm : List (Nat × AV)} {m : Mem} {v : AV} {u : Value} {K : AS → Prop} {next : Act → World → Prop} {Q : Exit → Act → World → Prop} {s : Sem Value}
    (he : execOp a.eval o = (do pure (Next.value (← s)))) (hrun : s.run P E.w = .ok u E.w) (h : Sim D B E ⟨nt, tm, m⟩ a.tmps) (hr : Rep E (shsOf m.bx) v u) (hk : AS.put ⟨nt, tm, m⟩ o.dst v K) (hn : NextOK D B a next K) : o.wp P a E.w next Q := by
  refine fin_val (E' := E) ?_ h hr hk hn
  rw [he]
  simp [hrun]

theorem binI_ok {op : BinOp} {k : IntKind} {x y : Int} {K : Value → Prop} (h : binI op k x y K) (t : TypeId) (w : World) : ∃ u, (binOp op t (.int k x) (.int k y)).run P w = .ok u w ∧ simple u = true ∧ K u := by
  cases op <;> simp only [binI] at h
  case add => exact ⟨_, by simp [binOp, Op.intArith], rfl, h⟩
  case sub => exact ⟨_, by simp [binOp, Op.intArith], rfl, h⟩
  case mul => exact ⟨_, by simp [binOp, Op.intArith], rfl, h⟩
  case quo => exact ⟨_, by simp [binOp, Op.intDiv, h.1], rfl, h.2⟩
  case rem => exact ⟨_, by simp [binOp, Op.intDiv, h.1], rfl, h.2⟩
  case and => exact ⟨_, by simp [binOp, Op.intBits], rfl, h⟩
  case or => exact ⟨_, by simp [binOp, Op.intBits], rfl, h⟩
  case xor => exact ⟨_, by simp [binOp, Op.intBits], rfl, h⟩
  case andNot => exact ⟨_, by simp [binOp, Op.intBits], rfl, h⟩
  case eql => exact ⟨_, by simp [binOp, Op.intCmp], rfl, h⟩
  case neq => exact ⟨_, by simp [binOp, Op.intCmp], rfl, h⟩
  case lss => exact ⟨_, by simp [binOp, Op.intCmp], rfl, h⟩
  case leq => exact ⟨_, by simp [binOp, Op.intCmp], rfl, h⟩
  case gtr => exact ⟨_, by simp [binOp, Op.intCmp], rfl, h⟩
  case geq => exact ⟨_, by simp [binOp, Op.intCmp], rfl, h⟩
theorem shiftI_ok {op : BinOp} {k k' : IntKind} {x y : Int} {K : Value → Prop} (h : shiftI op k x y K) (t : TypeId) (w : World) : ∃ u, (binOp op t (.int k x) (.int k' y)).run P w = .ok u w ∧ simple u = true ∧ K u := by
  cases op <;> simp only [shiftI] at h
  case shl => exact ⟨_, by simp [binOp, Op.shift, Int.not_lt.2 h.1], rfl, h.2⟩
  case shr => exact ⟨_, by simp [binOp, Op.shift, Int.not_lt.2 h.1], rfl, h.2⟩
theorem eqK_of {k k' : IntKind} (h : eqK k k' = true) : k = k' := by cases k <;> cases k' <;> first | rfl | simp [eqK] at h
theorem binS_ok {op : BinOp} {x y : ByteArray} {K : Value → Prop} (h : binS op x y K) (t : TypeId) (w : World) : ∃ u, (binOp op t (.string x) (.string y)).run P w = .ok u w ∧ simple u = true ∧ K u := by
  cases op <;> simp only [binS] at h
  case add =>
    refine ⟨_, ?_, rfl, h.2⟩
    have : ¬ (((x.size + y.size : Nat) : Int) > IntKind.i64.max) := by
      have h1 := h.1
      simp only [IntKind.max, IntKind.signed, IntKind.bits]
      simp
      omega
    simp only [binOp, Op.stringOp, if_neg this]
    rfl
  case eql => exact ⟨_, by simp [binOp, Op.stringOp], rfl, h⟩
  case neq => exact ⟨_, by simp [binOp, Op.stringOp], rfl, h⟩
  case lss => exact ⟨_, by simp [binOp, Op.stringOp], rfl, h⟩
  case leq => exact ⟨_, by simp [binOp, Op.stringOp], rfl, h⟩
  case gtr => exact ⟨_, by simp [binOp, Op.stringOp], rfl, h⟩
  case geq => exact ⟨_, by simp [binOp, Op.stringOp], rfl, h⟩
end
end Go.WL
namespace Go.WL

theorem run_part {P : Program} {D : Tabs} {E : Env} {shs : List Shape} {w : World} {t : Nat} {ti : TI} {v : AV} {cs : Array Value} {pre p post : List Value} {off : Nat} (hT : TyOK P D t ti) (hs : v.shape = ti.sh) (hv : IR E shs v p)
    (hc : cs.toList = pre ++ p ++ post) (ho : off = pre.length) : (part t cs off).run P w = .ok (pack v p) w := by
  subst ho
  obtain ⟨d, i, z, h1, h2, h3, _, h4, _⟩ := hT.fact
  have hl := IR_len v p hv
  have hag := run_isAgg (P := P) (D := D) (w := w) (ti := ti) h1 h4
  unfold part pack
  rw [hs]
  have hz : i.size = p.length := by rw [h3, hl, hs]
  have hex : cs.extract pre.length (pre.length + p.length) = p.toArray := by
    apply Array.ext'
    rw [Array.toList_extract]
    simp [List.extract, hc]
  cases hsh : ti.sh with
  | lf =>
    rw [hs, hsh] at hl
    match p, hl with
    | [c], _ =>
      have h0 : cs[pre.length]? = some c := by
        rw [← Array.getElem?_toList, hc]
        simp
      simp [hag, hsh, h0]
  | nd l => simp [hag, hsh, run_sizeOf' h2, hz, hex]
  | ar n s => simp [hag, hsh, run_sizeOf' h2, hz, hex]

theorem by8_get (bs : List UInt8) (i : Nat) : (by8 bs)[i]? = bs[i]?.map fun b => .sc (.int .u8 b.toNat) := by simp [by8]

theorem PRs_ints {w : World} {lim : Nat → Nat} (k : IntKind) : ∀ (as : List Int) (ps : List (List Value)), PRs w lim (as.map fun n => .sc (.int k n)) ps → ps.flatten = as.map fun n => .int k n
  | [], ps, h => by
    have h : ps = [] := h
    simp [h]
  | a :: as, ps, h => by
    obtain ⟨p, qs, rfl, ⟨rfl, _⟩, h3⟩ := h
    simp [PRs_ints k as qs h3]

theorem depths_at : ∀ (l : List Shape) (i : Nat) (s : Shape), l[i]? = some s → s.depth ≤ Shape.depths l
  | [], i, s, h => by simp at h
  | t :: l, 0, s, h => by
    simp only [List.getElem?_cons_zero, Option.some.injEq] at h
    subst h
    simp only [Shape.depths]
    omega
  | t :: l, i + 1, s, h => by
    have := depths_at l i s (by simpa using h)
    simp only [Shape.depths]
    omega

section
variable {P : Program} {D : Tabs}

theorem eqItems_ints {e : Nat} {k k' : IntKind} {w : World} {d : Nat} {i : TypeInfo} (hu : P.underlying e = some (.int k')) (hi : P.info? e = some i) (hz : i.size = 1) (as bs : List Int) (hl : as.length = bs.length) : ∀ (l : List Nat), (∀ j ∈ l, j < as.length) →
    (Op.eqItems (d + 1) e (P.cellsOf e) (as.map fun n => Value.int k n).toArray (bs.map fun n => Value.int k n).toArray l).run P w = .ok (l.all fun j => as[j]? == bs[j]?) w
  | [], _ => by simp [Op.eqItems]
  | j :: l, h => by
    have hj := h j (by simp)
    have hc : P.cellsOf e = 1 := by simp [Program.cellsOf, hi, hz]
    have hag : (isAgg e).run P w = .ok false w := by simp [isAgg, run_underlying' hu]
    have hpa : ∀ (xs : List Int), j < xs.length → (part e (xs.map fun n => Value.int k n).toArray (j * 1)).run P w = .ok (.int k (xs.getD j 0)) w := by
      intro xs hx
      simp [part, hag, List.getElem?_map, List.getElem?_eq_getElem hx, List.getD_eq_getElem?_getD]
    have ih := eqItems_ints (w := w) (d := d) (k := k) hu hi hz as bs hl l fun j hj => h j (by simp [hj])
    rw [hc] at ih ⊢
    simp only [Op.eqItems, Sem.run_bind, hpa as hj, hpa bs (by omega), Result.andThen_ok, run_equalIn_int w d e k k' _ _ hu]
    have e1 : (as.getD j 0 == bs.getD j 0) = (as[j]? == bs[j]?) := by
      rw [List.getD_eq_getElem?_getD, List.getD_eq_getElem?_getD, List.getElem?_eq_getElem hj, List.getElem?_eq_getElem (by omega)]
      simp
    rw [e1]
    cases hb : (as[j]? == bs[j]?) with
    | false => simp [hb]
    | true =>
      simp only [Bool.not_true, Bool.false_eq_true, if_false, ih]
      simp [hb]

theorem all_eq {α : Type} [BEq α] [LawfulBEq α] {as bs : List α} (hl : as.length = bs.length) : ((List.range as.length).all fun j => as[j]? == bs[j]?) = (as == bs) := by
  rw [Bool.eq_iff_iff]
  simp only [List.all_eq_true, List.mem_range, beq_iff_eq]
  constructor
  · intro h
    apply List.ext_getElem? 
    intro i
    by_cases hi : i < as.length
    · exact h i hi
    · rw [List.getElem?_eq_none (by omega), List.getElem?_eq_none (by omega)]
  · rintro rfl j _; rfl

theorem by8_ints (bs : List UInt8) : by8 bs = (bs.map fun b => (b.toNat : Int)).map fun n => AV.sc (.int .u8 n) := by simp [by8]
theorem u8_ints_inj {as bs : List UInt8} : ((as.map fun b => (b.toNat : Int)) == (bs.map fun b => (b.toNat : Int))) = (as == bs) := by
  rw [Bool.eq_iff_iff]
  simp only [beq_iff_eq]
  constructor
  · intro h
    have hinj : Function.Injective (fun b : UInt8 => (b.toNat : Int)) := fun a b hab => UInt8.toNat_inj.1 (Int.ofNat.inj hab)
    exact List.map_inj_right (f := fun b : UInt8 => (b.toNat : Int)) (fun a b hab => hinj hab) |>.1 h
  · rintro rfl; rfl

theorem eq_arr {E : Env} {shs : List Shape} (hT : TabOK P D) {t e n0 : Nat} {ti ei : TI} {k : IntKind} {n n' : Nat} {s s' : Shape} {as bs : List Int} {x' y' : Value} {d : Nat} {w : World} (ht : lookT D.ty t = some ti) (hk : ti.k = .arr n0 e) (he : lookT D.ty e = some ei) (hek : ei.k = .int k)
    (hs : Shape.ar n s = ti.sh) (hs' : Shape.ar n' s' = ti.sh) (hn0 : n = n0) (hx : Rep0 E shs (.ar n s (as.map fun n => .sc (.int k n))) x') (hy : Rep0 E shs (.ar n' s' (bs.map fun n => .sc (.int k n))) y') :
    (Op.equalIn (d + 2) t x' y').run P w = .ok (as == bs) w := by
  obtain ⟨dd, i, z, h1, h2, h3, _, h4, _⟩ := (hT t ti ht).fact
  rw [hk] at h4
  obtain ⟨rfl, j, hj, hsh⟩ := h4
  obtain ⟨d2, i2, z2, g1, g2, g3, _, g4, _⟩ := (hT e ei he).fact
  rw [hek] at g4
  obtain ⟨g5, rfl⟩ := g4
  obtain ⟨cs, rfl, l1, _, ps, hp, hcs⟩ := hx
  obtain ⟨cs', rfl, l2, _, ps', hp', hcs'⟩ := hy
  rw [PRs_ints k as ps hp] at hcs
  rw [PRs_ints k bs ps' hp'] at hcs'
  have hnn : n = n' := by
    have := hs.trans hs'.symm
    simp only [Shape.ar.injEq] at this
    exact this.1
  simp only [List.length_map] at l1 l2
  have ec : cs = (as.map fun n => Value.int k n).toArray := by rw [← hcs]
  have ec' : cs' = (bs.map fun n => Value.int k n).toArray := by rw [← hcs']
  rw [run_equalIn_array w (d + 1) cs cs' h1 g2, ec, ec', ← hn0, ← l1]
  rw [eqItems_ints g1 g2 (by rw [g3, g5]; rfl) as bs (by omega) _ (by simp), all_eq (by omega)]

mutual
theorem wEq_ok (hT : TabOK P D) {E : Env} {shs : List Shape} : ∀ (v y : AV) (t : Nat) (K : Bool → Prop) (x' y' : Value) (d : Nat) (w : World), wEq D t v y K → Rep0 E shs v x' → Rep0 E shs y y' → (∀ ti, lookT D.ty t = some ti → ti.sh.depth ≤ d) →
    ∃ b, (Op.equalIn (d + 1) t x' y').run P w = .ok b w ∧ K b
  | .sc v, y, t, K, x', y', d, w, h, hx, hy, hd => by
    simp only [wEq] at h
    obtain ⟨rfl, hsv⟩ := rep_sc.1 (show Rep E shs (.sc v) x' from hx)
    split at h
    · rename_i k _ _ _ ht
      split at h
      · rename_i ka a kb b
        obtain ⟨rfl, _⟩ := rep_sc.1 (show Rep E shs (.sc (.int kb b)) y' from hy)
        cases hk : eqK ka kb with
        | false => simp [hk] at h
        | true =>
          simp only [hk] at h
          have := eqK_of hk
          subst this
          obtain ⟨dd, i, z, h1, _, _, _, h4, _⟩ := (hT t _ ht).fact
          obtain ⟨_, rfl⟩ := h4
          exact ⟨_, run_equalIn_int w d t ka _ a b h1, h⟩
      · exact h.elim
    · rename_i _ _ _ ht
      split at h
      · rename_i a b
        obtain ⟨rfl, _⟩ := rep_sc.1 (show Rep E shs (.sc (.bool b)) y' from hy)
        obtain ⟨dd, i, z, h1, _, _, _, h4, _⟩ := (hT t _ ht).fact
        obtain ⟨_, rfl⟩ := h4
        exact ⟨_, run_equalIn_bool' w d t a b h1, h⟩
      · exact h.elim
    · rename_i _ _ _ ht
      split at h
      · rename_i a b
        obtain ⟨rfl, _⟩ := rep_sc.1 (show Rep E shs (.sc (.string b)) y' from hy)
        obtain ⟨dd, i, z, h1, _, _, _, h4, _⟩ := (hT t _ ht).fact
        obtain ⟨_, rfl⟩ := h4
        exact ⟨_, run_equalIn_string w d t a b h1, h⟩
      · exact h.elim
    · exact h.elim
  | .ar n s xs, y, t, K, x', y', d, w, h, hx, hy, hd => by
    simp only [wEq] at h
    split at h
    · rename_i n0 e sh _ _ ht
      split at h
      · rename_i n' s' ys
        cases hq : (Shape.eqb (.ar n s) sh && Shape.eqb (.ar n' s') sh && Nat.beq n n0) with
        | false => simp [hq] at h
        | true =>
          simp only [hq] at h
          simp only [Bool.and_eq_true] at hq
          have q1 := eqb_of _ _ hq.1.1
          have q2 := eqb_of _ _ hq.1.2
          have q3 := Nat.eq_of_beq_eq_true hq.2
          have hd1 : 1 ≤ d := by
            have := hd _ ht
            simp only [← q1, Shape.depth] at this
            omega
          obtain ⟨d, rfl⟩ : ∃ m, d = m + 1 := ⟨d - 1, by omega⟩
          split at h
          · rename_i he
            obtain ⟨as, bs, rfl, rfl, h⟩ := h
            rw [by8_ints] at hx hy
            refine ⟨_, eq_arr hT ht rfl he rfl q1 q2 q3 hx hy, ?_⟩
            rw [u8_ints_inj]
            exact h
          · rename_i he
            obtain ⟨as, bs, rfl, rfl, h⟩ := h
            exact ⟨_, eq_arr hT ht rfl he rfl q1 q2 q3 hx hy, h⟩
          · exact h.elim
      · exact h.elim
    · exact h.elim
  | .st xs, y, t, K, x', y', d, w, h, hx, hy, hd => by
    simp only [wEq] at h
    split at h
    · rename_i fs sh _ _ ht
      split at h
      · rename_i ys
        cases hq : (Shape.eqb (.nd (AV.shapes xs)) sh && Shape.eqb (.nd (AV.shapes ys)) sh) with
        | false => simp [hq] at h
        | true =>
          simp only [hq] at h
          simp only [Bool.and_eq_true] at hq
          have q1 := eqb_of _ _ hq.1
          have q2 := eqb_of _ _ hq.2
          obtain ⟨cs, rfl, ps, hp, hcs⟩ := hx
          obtain ⟨cs', rfl, ps', hp', hcs'⟩ := hy
          obtain ⟨dd, ii, z, h1, hzz, hzz', hzz'', h4, hzz'''⟩ := (hT t _ ht).fact
          obtain ⟨fields, shl, rfl, rfl, l1, l2, hfl⟩ := h4
          simp only [Shape.nd.injEq] at q1 q2
          have hst := (hT t _ ht).stood
          have hd1 := hd _ ht
          simp only [Shape.depth] at hd1
          obtain ⟨d, rfl⟩ : ∃ m, d = m + 1 := ⟨d - 1, by omega⟩
          have hfo : P.fieldsOf t = fields := by simp [Program.fieldsOf, h1]
          rw [run_equalIn_struct w (d + 1) t cs cs' (by rw [hfo]; exact h1) hst, hfo]
          refine wEqs_ok hT xs ys fs K fields.toList d w cs cs' ps ps' [] [] [] h hp hp' (by simpa using hcs) (by simpa using hcs') rfl (by simpa using l2.trans l1.symm) ?_
          intro i f hf
          obtain ⟨j, e1, e2, e3, e4, e5, e6⟩ := hfl i f (by simpa using hf)
          refine ⟨j, e1, e2, by rw [q1]; exact e3, by rw [q2]; exact e3, by rw [q1]; simpa using e4, e6, ?_⟩
          have := depths_at shl i _ e3
          omega
      · exact h.elim
    · exact h.elim
  | .sl _ _ _, y, t, K, x', y', d, w, h, hx, hy, hd => by simp [wEq] at h
  | .rp _, y, t, K, x', y', d, w, h, hx, hy, hd => by simp [wEq] at h
  | .pt _ _, y, t, K, x', y', d, w, h, hx, hy, hd => by simp [wEq] at h
  | .bs _ _ _ _ _ _, y, t, K, x', y', d, w, h, hx, hy, hd => by simp [wEq] at h
  | .fn _ _, y, t, K, x', y', d, w, h, hx, hy, hd => by simp [wEq] at h
  | .tup _, y, t, K, x', y', d, w, h, hx, hy, hd => by simp [wEq] at h
theorem wEqs_ok (hT : TabOK P D) {E : Env} {shs : List Shape} : ∀ (xs ys : List AV) (fs : List (Nat × Nat)) (K : Bool → Prop) (fields : List Field) (d : Nat) (w : World) (cs cs' : Array Value) (ps ps' : List (List Value)) (pre pre' : List Value) (hd : List Shape),
    wEqs D fs xs ys K → IRs E shs xs ps → IRs E shs ys ps' → cs.toList = pre ++ ps.flatten → cs'.toList = pre' ++ ps'.flatten → pre.length = pre'.length → fs.length = fields.length →
    (∀ (i : Nat) (f : Field), fields[i]? = some f → ∃ j : TI, lookT D.ty f.type = some j ∧ fs[i]? = some (f.type, f.offset) ∧ (AV.shapes xs)[i]? = some j.sh ∧ (AV.shapes ys)[i]? = some j.sh ∧ f.offset = pre.length + Shape.sizes ((AV.shapes xs).take i) ∧ f.name ≠ "_" ∧ j.sh.depth ≤ d) →
    ∃ b, (Op.eqFields (d + 1) cs cs' fields).run P w = .ok b w ∧ K b
  | [], ys, fs, K, fields, d, w, cs, cs', ps, ps', pre, pre', _, h, _, _, _, _, _, hl, _ => by
    simp only [wEqs] at h
    split at h
    · match fields, hl with
      | [], _ => exact ⟨true, by simp [Op.eqFields], h⟩
    · exact h.elim
  | x :: xs, ys, fs, K, fields, d, w, cs, cs', ps, ps', pre, pre', _, h, hp, hp', hc, hc', hpl, hl, hf => by
    simp only [wEqs] at h
    split at h
    · rename_i t o fs' y ys'
      match fields, hl with
      | f :: fields, hl =>
        obtain ⟨j, e1, e2, e3, e4, e5, e6, e7⟩ := hf 0 f rfl
        simp only [List.getElem?_cons_zero, Option.some.injEq, Prod.mk.injEq] at e2
        obtain ⟨rfl, rfl⟩ := e2
        obtain ⟨p, qs, rfl, k1, k2⟩ := hp
        obtain ⟨p', qs', rfl, k1', k2'⟩ := hp'
        simp only [AV.shapes, List.getElem?_cons_zero, Option.some.injEq] at e3 e4
        simp only [List.take_zero, Shape.sizes, Nat.add_zero] at e5
        have a1 := run_part (P := P) (w := w) (hT _ _ e1) e3 k1 (cs := cs) (pre := pre) (post := qs.flatten) (off := f.offset) (by simp [hc]) e5
        have a2 := run_part (P := P) (w := w) (hT _ _ e1) e4 k1' (cs := cs') (pre := pre') (post := qs'.flatten) (off := f.offset) (by simp [hc']) (by omega)
        obtain ⟨b, hb, h⟩ := wEq_ok hT x y f.type _ (pack x p) (pack y p') d w h (rep0_pack k1) (rep0_pack k1') (fun ti hti => by rw [e1] at hti; cases hti; exact e7)
        have lp := IR_len x p k1
        have lp' := IR_len y p' k1'
        obtain ⟨c, hcc, h⟩ := wEqs_ok hT xs ys' fs' _ fields d w cs cs' qs qs' (pre ++ p) (pre' ++ p') [] h k2 k2' (by simp [hc]) (by simp [hc']) (by simp [hpl, lp, lp', e3, e4]) (by simpa using hl) (fun i g hg => by
          obtain ⟨j', d1, d2, d3, d4, d5, d6, d7⟩ := hf (i + 1) g (by simpa using hg)
          refine ⟨j', d1, by simpa using d2, by simpa [AV.shapes] using d3, by simpa [AV.shapes] using d4, ?_, d6, d7⟩
          simp only [AV.shapes, List.take_succ_cons, Shape.sizes] at d5
          simp only [List.length_append, lp]
          omega)
        refine ⟨b && c, ?_, h⟩
        simp only [Op.eqFields, e6, ne_eq, not_false_eq_true, if_true, Sem.run_bind, a1, a2, hb, Result.andThen_ok]
        cases b
        · simp
        · simp [hcc]
    · exact h.elim
end
end
end Go.WL
namespace Go.WL
section
variable {P : Program} {D : Tabs} {B : Base}

theorem branch_ite {b : Bool} {p q : Prop} (h : Branch b p q) : if b then p else q := by cases b <;> exact h

theorem equal_ptr {t e : Nat} (d : Nat) (h : P.underlying t = some (.pointer e)) (p : Option Addr) (w : World) : (Op.equalIn (d + 1) t (.pointer p) (.pointer none)).run P w = .ok p.isNone w ∧ (Op.equalIn (d + 1) t (.pointer none) (.pointer p)).run P w = .ok p.isNone w := by
  cases p <;> simp [Op.equalIn, run_underlying' h]
theorem equal_slc {t e : Nat} (d : Nat) (h : P.underlying t = some (.slice e)) (p : Option Addr) (n k : Nat) (w : World) : (Op.equalIn (d + 1) t (.slice p n k) (.slice none 0 0)).run P w = .ok p.isNone w ∧ (Op.equalIn (d + 1) t (.slice none 0 0) (.slice p n k)).run P w = .ok p.isNone w := by
  cases p <;> simp [Op.equalIn, run_underlying' h]
theorem guard_none {t : Nat} {op : BinOp} {o1 o2 : Operand} {u v : Value} (hn : ¬ (u = .nilIface ∧ v = .nilIface)) (ha : ¬ (∃ a b, u = .agg a ∧ v = .agg b)) (w : World) : (eqGuard op t o1 o2 u v).run P w = .ok () w := by
  unfold eqGuard
  cases op <;> first | rfl | skip
  all_goals
    simp only [Bool.not_true, Bool.false_eq_true, if_false]
    split
    · exact absurd ⟨rfl, rfl⟩ hn
    · exact absurd ⟨_, _, rfl, rfl⟩ ha
    · rfl

theorem binOp_eql {t : TypeId} {u v : Value} {b : Bool} {w : World} (h : (Op.equalIn (9999 + 1) t u v).run P w = .ok b w) (h1 : ∀ k k' a b', ¬ (u = .int k a ∧ v = .int k' b')) (h2 : ∀ a b', ¬ (u = .string a ∧ v = .string b')) (h3 : ∀ k k' a b', ¬ (u = .float k a ∧ v = .float k' b'))
    (h4 : ∀ k k' a b' c d', ¬ (u = .complex k a c ∧ v = .complex k' b' d')) : (binOp .eql t u v).run P w = .ok (.bool b) w ∧ (binOp .neq t u v).run P w = .ok (.bool (!b)) w := by
  have he : (Op.equal t u v).run P w = .ok b w := h
  constructor
  · unfold binOp
    split
    all_goals first
      | (rename_i e1 _ _; exact absurd ⟨rfl, rfl⟩ (h1 _ _ _ _))
      | exact absurd ⟨rfl, rfl⟩ (h1 _ _ _ _)
      | exact absurd ⟨rfl, rfl⟩ (h2 _ _)
      | exact absurd ⟨rfl, rfl⟩ (h3 _ _ _ _)
      | exact absurd ⟨rfl, rfl⟩ (h4 _ _ _ _ _ _)
      | (simp only [Sem.run_bind, he, Result.andThen_ok, Sem.run_pure]; done)
      | simp_all
  · unfold binOp
    split
    all_goals first
      | exact absurd ⟨rfl, rfl⟩ (h1 _ _ _ _)
      | exact absurd ⟨rfl, rfl⟩ (h2 _ _)
      | exact absurd ⟨rfl, rfl⟩ (h3 _ _ _ _)
      | exact absurd ⟨rfl, rfl⟩ (h4 _ _ _ _ _ _)
      | (simp only [Sem.run_bind, he, Result.andThen_ok, Sem.run_pure]; done)
      | simp_all

theorem nilRes_ok {t : Nat} {op : BinOp} {u v : Value} {b : Bool} {K : Value → Prop} (h : nilRes op b K) {w : World} (he : (Op.equalIn (9999 + 1) t u v).run P w = .ok b w) (hs : (∃ p q, u = .pointer p ∧ v = .pointer q) ∨ (∃ a b c d e f, u = .slice a b c ∧ v = .slice d e f)) (o1 o2 : Operand) :
    ∃ r, ((do eqGuard op t o1 o2 u v; binOp op t u v : Sem Value)).run P w = .ok r w ∧ simple r = true ∧ K r := by
  have hg : (eqGuard op t o1 o2 u v).run P w = .ok () w := by
    apply guard_none
    · rintro ⟨rfl, rfl⟩; rcases hs with ⟨p, q, h1, _⟩ | ⟨_, _, _, _, _, _, h1, _⟩ <;> simp at h1
    · rintro ⟨a, b, rfl, rfl⟩; rcases hs with ⟨p, q, h1, _⟩ | ⟨_, _, _, _, _, _, h1, _⟩ <;> simp at h1
  have hb := binOp_eql he (fun k k' a b' hh => by rcases hs with ⟨p, q, h1, _⟩ | ⟨_, _, _, _, _, _, h1, _⟩ <;> simp [h1] at hh) (fun a b' hh => by rcases hs with ⟨p, q, h1, _⟩ | ⟨_, _, _, _, _, _, h1, _⟩ <;> simp [h1] at hh)
    (fun k k' a b' hh => by rcases hs with ⟨p, q, h1, _⟩ | ⟨_, _, _, _, _, _, h1, _⟩ <;> simp [h1] at hh) (fun k k' a b' c d hh => by rcases hs with ⟨p, q, h1, _⟩ | ⟨_, _, _, _, _, _, h1, _⟩ <;> simp [h1] at hh)
  cases op <;> simp only [nilRes] at h
  · exact ⟨_, by simp only [Sem.run_bind, hg, Result.andThen_ok, hb.1], rfl, h⟩
  · exact ⟨_, by simp only [Sem.run_bind, hg, Result.andThen_ok, hb.2], rfl, h⟩

theorem nilTest_ok (hT : TabOK P D) {E : Env} {shs : List Shape} {t : Nat} {sl : Bool} {x : AV} {u : Value} {op : BinOp} {K : Value → Prop} (h : nilTest D t sl x op K) (hr : Rep E shs x u) (c : Value) (hc : c = if sl then .slice none 0 0 else .pointer none) (w : World) (o1 o2 : Operand) :
    (∃ r, ((do eqGuard op t o1 o2 u c; binOp op t u c : Sem Value)).run P w = .ok r w ∧ simple r = true ∧ K r) ∧ (∃ r, ((do eqGuard op t o1 o2 c u; binOp op t c u : Sem Value)).run P w = .ok r w ∧ simple r = true ∧ K r) := by
  unfold nilTest at h
  split at h
  · rename_i e _ _ _ ht
    obtain ⟨dd, i, z, h1, _, _, _, h4, _⟩ := (hT t _ ht).fact
    obtain ⟨_, rfl⟩ := h4
    cases sl with
    | true => exact h.elim
    | false =>
      simp only at h hc
      subst hc
      have key : ∀ (p : Option Addr), nilRes op p.isNone K → _ := fun p hp => And.intro (nilRes_ok (P := P) (t := t) (o1 := o1) (o2 := o2) hp (equal_ptr 9999 h1 p w).1 (.inl ⟨p, none, rfl, rfl⟩)) (nilRes_ok (P := P) (t := t) (o1 := o1) (o2 := o2) hp (equal_ptr 9999 h1 p w).2 (.inl ⟨none, p, rfl, rfl⟩))
      split at h
      · obtain ⟨rfl, _⟩ := rep_sc.1 hr
        exact key none h
      · obtain ⟨b, s, o, _, _, _, rfl⟩ := rep_pt hr
        exact key _ h
      · obtain ⟨ad, ds, rfl, _⟩ := rep_rp hr
        exact key _ h
      · exact h.elim
  · rename_i e _ _ _ ht
    obtain ⟨dd, i, z, h1, _, _, _, h4, _⟩ := (hT t _ ht).fact
    obtain ⟨_, rfl⟩ := h4
    cases sl with
    | false => exact h.elim
    | true =>
      simp only at h hc
      subst hc
      have key : ∀ (p : Option Addr) (n k : Nat), nilRes op p.isNone K → _ := fun p n k hp => And.intro (nilRes_ok (P := P) (t := t) (o1 := o1) (o2 := o2) hp (equal_slc 9999 h1 p n k w).1 (.inr ⟨p, n, k, none, 0, 0, rfl, rfl⟩)) (nilRes_ok (P := P) (t := t) (o1 := o1) (o2 := o2) hp (equal_slc 9999 h1 p n k w).2 (.inr ⟨none, 0, 0, p, n, k, rfl, rfl⟩))
      split at h
      · rename_i xs _
        obtain ⟨a, k, rfl, _, _, _, _, h6, _⟩ := rep_sl hr
        refine key _ _ _ (h a.isNone fun hne => ?_)
        rcases h6 with h6 | ⟨ad, ps, rfl, _⟩
        · exact absurd h6 hne
        · rfl
      · obtain ⟨b, u', o, n, o', _, _, _, _, _, _, _, hcs⟩ := hr
        simp only [List.cons.injEq, and_true] at hcs
        subst hcs
        exact key _ _ _ h
      · exact h.elim
  · exact h.elim

theorem guard_ok (hT : TabOK P D) {t : Nat} {ti : TI} (ht : lookT D.ty t = some ti) {op : BinOp} {o1 o2 : Operand} {u v : Value} (hn : u ≠ .nilIface) (w : World) : (eqGuard op t o1 o2 u v).run P w = .ok () w := by
  have hg := (hT t ti ht).guard
  unfold eqGuard
  cases op <;> first | rfl | skip
  all_goals
    simp only [Bool.not_true, Bool.false_eq_true, if_false]
    split
    · exact absurd rfl hn
    · simp [hg]
    · rfl

theorem rep_niface {E : Env} {shs : List Shape} {v : AV} {t : Nat} {y : AV} {K : Bool → Prop} (h : wEq D t v y K) {u : Value} (hr : Rep0 E shs v u) : u ≠ .nilIface ∧ (∃ ti, lookT D.ty t = some ti) := by
  cases v <;> simp only [wEq] at h
  case sc c =>
    obtain ⟨rfl, _⟩ := rep_sc.1 (show Rep E shs (.sc c) u from hr)
    split at h
    · rename_i ht
      split at h
      · exact ⟨by simp, _, ht⟩
      · exact h.elim
    · rename_i ht
      split at h
      · exact ⟨by simp, _, ht⟩
      · exact h.elim
    · rename_i ht
      split at h
      · exact ⟨by simp, _, ht⟩
      · exact h.elim
    · exact h.elim
  case st xs =>
    obtain ⟨cs, rfl, _⟩ := hr
    split at h
    · rename_i ht; exact ⟨by simp, _, ht⟩
    · exact h.elim
  case ar n s xs =>
    obtain ⟨cs, rfl, _⟩ := hr
    split at h
    · rename_i ht; exact ⟨by simp, _, ht⟩
    · exact h.elim

theorem rep_plain {E : Env} {shs : List Shape} {x : AV} {u : Value} (h : Rep E shs x u) (hu : (∃ k a, u = .int k a) ∨ (∃ a, u = .string a)) : x = .sc u := by
  cases x with
  | sc c => rw [(rep_sc.1 h).1]
  | st xs => obtain ⟨cs, rfl, _⟩ := h; rcases hu with ⟨_, _, hu⟩ | ⟨_, hu⟩ <;> simp at hu
  | ar n s xs => obtain ⟨cs, rfl, _⟩ := h; rcases hu with ⟨_, _, hu⟩ | ⟨_, hu⟩ <;> simp at hu
  | tup xs => obtain ⟨us, rfl, _⟩ := h; rcases hu with ⟨_, _, hu⟩ | ⟨_, hu⟩ <;> simp at hu
  | sl s xs m => obtain ⟨a, c, rfl, _⟩ := rep_sl h; rcases hu with ⟨_, _, hu⟩ | ⟨_, hu⟩ <;> simp at hu
  | rp v => obtain ⟨ad, ds, rfl, _⟩ := rep_rp h; rcases hu with ⟨_, _, hu⟩ | ⟨_, hu⟩ <;> simp at hu
  | pt id p => obtain ⟨b, s, o, _, _, _, rfl⟩ := rep_pt h; rcases hu with ⟨_, _, hu⟩ | ⟨_, hu⟩ <;> simp at hu
  | bs id p s off len cap =>
    obtain ⟨b, u', o, n, o', _, _, _, _, _, _, _, hcs⟩ := h
    simp only [List.cons.injEq, and_true] at hcs
    subst hcs
    rcases hu with ⟨_, _, hu⟩ | ⟨_, hu⟩ <;> simp at hu
  | fn f caps =>
    obtain ⟨us, _, hcs⟩ := h
    simp only [List.cons.injEq, and_true] at hcs
    subst hcs
    rcases hu with ⟨_, _, hu⟩ | ⟨_, hu⟩ <;> simp at hu

theorem wBin_ok (hT : TabOK P D) {E : Env} {shs : List Shape} {op : BinOp} {t : Nat} {x y : AV} {u v : Value} {K : Value → Prop} (h : wBin D op t x y K) (hx : Rep E shs x u) (hy : Rep E shs y v) (o1 o2 : Operand) (w : World) :
    ∃ r, ((do eqGuard op t o1 o2 u v; binOp op t u v : Sem Value)).run P w = .ok r w ∧ simple r = true ∧ K r := by
  have geq : ∀ {op : BinOp}, (op = .eql ∨ op = .neq) → wEq D t x y (fun b => K (.bool (if op = .eql then b else !b))) → (∀ k k' a b', ¬ (u = .int k a ∧ v = .int k' b')) → (∀ a b', ¬ (u = .string a ∧ v = .string b')) →
      ∃ r, ((do eqGuard op t o1 o2 u v; binOp op t u v : Sem Value)).run P w = .ok r w ∧ simple r = true ∧ K r := by
    intro op ho hw n1 n2
    have hx0 : Rep0 E shs x u := by cases x <;> first | exact hx | simp [wEq] at hw
    have hy0 : Rep0 E shs y v := by
      cases y <;> first | exact hy | skip
      exfalso
      cases x <;> simp only [wEq] at hw
      · split at hw <;> first | exact hw | (split at hw <;> first | exact hw | simp_all)
      · split at hw <;> exact hw
      · split at hw <;> exact hw
    obtain ⟨hn, ti, ht⟩ := rep_niface hw hx0
    obtain ⟨b, hb, hk⟩ := wEq_ok hT x y t _ u v 9999 w hw hx0 hy0 (fun ti hti => by have := (hT t ti hti).dep; omega)
    have n3 : ∀ k k' a b', ¬ (u = .float k a ∧ v = .float k' b') := by
      rintro k k' a b' ⟨rfl, _⟩
      have := IR_one x _ (rep0_cells hx0)
      cases x <;> first | (simp [wEq] at hw; done) | skip
      · obtain ⟨e, hs⟩ := rep_sc.1 hx; rw [← e] at hs; simp [simple] at hs
      · obtain ⟨_, e, _⟩ := hx0; simp at e
      · obtain ⟨_, e, _⟩ := hx0; simp at e
    have n4 : ∀ k k' a b' c d', ¬ (u = .complex k a c ∧ v = .complex k' b' d') := by
      rintro k k' a b' c d' ⟨rfl, _⟩
      cases x <;> first | (simp [wEq] at hw; done) | skip
      · obtain ⟨e, hs⟩ := rep_sc.1 hx; rw [← e] at hs; simp [simple] at hs
      · obtain ⟨_, e, _⟩ := hx0; simp at e
      · obtain ⟨_, e, _⟩ := hx0; simp at e
    have := binOp_eql (P := P) hb n1 n2 n3 n4
    rcases ho with rfl | rfl
    · exact ⟨.bool b, by simp [guard_ok hT ht hn, this.1], rfl, by simpa using hk⟩
    · exact ⟨.bool (!b), by simp [guard_ok hT ht hn, this.2], rfl, by simpa using hk⟩
  unfold wBin at h
  split at h
  · rename_i k a k' b
    obtain ⟨rfl, _⟩ := rep_sc.1 hx
    obtain ⟨rfl, _⟩ := rep_sc.1 hy
    have hg : ∀ op, (eqGuard op t o1 o2 (.int k a) (.int k' b)).run P w = .ok () w := by intro op; cases op <;> rfl
    split at h
    · obtain ⟨r, h1, h2⟩ := shiftI_ok (P := P) (k' := k') h t w; exact ⟨r, by simp [hg, h1], h2⟩
    · obtain ⟨r, h1, h2⟩ := shiftI_ok (P := P) (k' := k') h t w; exact ⟨r, by simp [hg, h1], h2⟩
    · cases hk : eqK k k' with
      | false => simp [hk] at h
      | true =>
        simp only [hk] at h
        have := eqK_of hk
        subst this
        obtain ⟨r, h1, h2⟩ := binI_ok (P := P) h t w
        exact ⟨r, by simp [hg, h1], h2⟩
  · rename_i a b
    obtain ⟨rfl, _⟩ := rep_sc.1 hx
    obtain ⟨rfl, _⟩ := rep_sc.1 hy
    have hg : ∀ op, (eqGuard op t o1 o2 (.string a) (.string b)).run P w = .ok () w := by intro op; cases op <;> rfl
    obtain ⟨r, h1, h2⟩ := binS_ok (P := P) h t w
    exact ⟨r, by simp [hg, h1], h2⟩
  · rename_i n1 n2
    have m1 : ∀ k k' a b', ¬ (u = .int k a ∧ v = .int k' b') := by
      rintro k k' a b' ⟨rfl, rfl⟩
      exact n1 _ _ _ _ (rep_plain hx (.inl ⟨_, _, rfl⟩)) (rep_plain hy (.inl ⟨_, _, rfl⟩))
    have m2 : ∀ a b', ¬ (u = .string a ∧ v = .string b') := by
      rintro a b' ⟨rfl, rfl⟩
      exact n2 _ _ (rep_plain hx (.inr ⟨_, rfl⟩)) (rep_plain hy (.inr ⟨_, rfl⟩))
    split at h
    · exact geq (.inl rfl) (by simpa using h) m1 m2
    · exact geq (.inr rfl) (by simpa using h) m1 m2
    · exact h.elim
end
end Go.WL
namespace Go.WL
section
variable {P : Program} {D : Tabs} {B : Base}

theorem wUn_ok {E : Env} {shs : List Shape} {op : UnOp} {x : AV} {u : Value} {K : Value → Prop} (h : wUn op x K) (hx : Rep E shs x u) (w : World) : ∃ r, (Op.unary op u).run P w = .ok r w ∧ simple r = true ∧ K r := by
  unfold wUn at h
  split at h
  · obtain ⟨rfl, _⟩ := rep_sc.1 hx; exact ⟨_, rfl, rfl, h⟩
  · obtain ⟨rfl, _⟩ := rep_sc.1 hx; exact ⟨_, rfl, rfl, h⟩
  · obtain ⟨rfl, _⟩ := rep_sc.1 hx; exact ⟨_, rfl, rfl, h⟩
  · exact h.elim

theorem rep_of {E : Env} {shs : List Shape} {v : AV} {cs : List Value} {u : Value} (h : IR E shs v cs) (k : Rep0 E shs v u) : Rep E shs v u := by
  cases v <;> first | exact k | exact h.elim

theorem offS_append : ∀ (p q : List Nat) (s s' : Shape) (o o' : Nat), offS s p = some o → shAt s p = some s' → offS s' q = some o' → offS s (p ++ q) = some (o + o')
  | [], q, s, s', o, o', h1, h2, h3 => by
    have e1 : o = 0 := by cases s <;> simp [offS] at h1 <;> exact h1.symm
    have e2 : s' = s := by cases s <;> simp [shAt] at h2 <;> exact h2.symm
    subst e1; subst e2
    simpa using h3
  | i :: p, q, s, s', o, o', h1, h2, h3 => by
    cases s with
    | lf => simp [offS] at h1
    | nd l =>
      simp only [offS, shAt, List.cons_append] at h1 h2 ⊢
      cases hi : l[i]? with
      | none => simp [hi] at h1
      | some t =>
        simp only [hi] at h1 h2 ⊢
        cases ho : offS t p with
        | none => simp [ho] at h1
        | some k =>
          simp only [ho, Option.some.injEq] at h1
          rw [offS_append p q t s' k o' ho h2 h3]
          simp only [Option.some.injEq]
          omega
    | ar n t =>
      simp only [offS, shAt, List.cons_append] at h1 h2 ⊢
      split at h1
      · rename_i hi
        rw [if_pos hi]
        cases ho : offS t p with
        | none => simp [ho] at h1
        | some k =>
          simp only [ho, Option.some.injEq] at h1
          rw [offS_append p q t s' k o' ho h2 h3]
          simp only [Option.some.injEq]
          omega
      · simp at h1

/-- A box, found: its block, and what it reads. -/
theorem box_at {E : Env} {nt : Nat} {tm : List (Nat × AV)} {bx : List (AV × Bool)} {lv : List Nat} {nx : Nat} {tmps : Array Value} (h : Sim D B E ⟨nt, tm, ⟨bx, lv, nx⟩⟩ tmps) {id b : Nat} {s : Shape} (hb : E.bx[id]? = some b) (hs : (shsOf bx)[id]? = some s) {K : AV → Bool → Prop} (hk : boxK bx id K) :
    ∃ c f cs ty fz, bx[id]? = some (c, f) ∧ K c f ∧ c.shape = s ∧ E.w.heap[b]? = some (.cells cs ty fz) ∧ fzOK cs fz ∧ IR E (shsOf bx) c cs.toList ∧ (f = true → c.pure = true ∧ E.lim b = cs.size) ∧ (f = false → E.lim b = 0) := by
  unfold boxK at hk
  cases hc : bx[id]? with
  | none => simp [hc] at hk
  | some x =>
    obtain ⟨c, f⟩ := x
    simp only [hc] at hk
    obtain ⟨cs, ty, fz, h1, h2, h3, h4⟩ := h.m.box id c f b hc hb
    refine ⟨c, f, cs, ty, fz, rfl, hk, ?_, h1, h2, h3, h4⟩
    simp only [shsOf, List.getElem?_map, hc, Option.map_some, Option.some.injEq] at hs
    exact hs

theorem offS_le : ∀ (p : List Nat) (s s' : Shape) (o : Nat), offS s p = some o → shAt s p = some s' → o + s'.size ≤ s.size
  | [], s, s', o, h1, h2 => by
    have e1 : o = 0 := by cases s <;> simp [offS] at h1 <;> exact h1.symm
    have e2 : s' = s := by cases s <;> simp [shAt] at h2 <;> exact h2.symm
    subst e1; subst e2; omega
  | i :: p, s, s', o, h1, h2 => by
    cases s with
    | lf => simp [offS] at h1
    | nd l =>
      simp only [offS, shAt] at h1 h2
      cases hi : l[i]? with
      | none => simp [hi] at h1
      | some t =>
        simp only [hi] at h1 h2
        cases ho : offS t p with
        | none => simp [ho] at h1
        | some k =>
          simp only [ho, Option.some.injEq] at h1
          have := offS_le p t s' k ho h2
          have := sizes_split l i t hi
          simp only [Shape.size]
          omega
    | ar n t =>
      simp only [offS, shAt] at h1 h2
      split at h1
      · rename_i hi
        cases ho : offS t p with
        | none => simp [ho] at h1
        | some k =>
          simp only [ho, Option.some.injEq] at h1
          have := offS_le p t s' k ho h2
          have : (i + 1) * t.size ≤ n * t.size := Nat.mul_le_mul_right _ (by omega)
          rw [Nat.add_mul] at this
          simp only [Shape.size]
          omega
      · simp at h1

theorem wLoad_ok (hT : TabOK P D) {E : Env} {nt : Nat} {tm : List (Nat × AV)} {bx : List (AV × Bool)} {lv : List Nat} {nx : Nat} {tmps : Array Value} (h : Sim D B E ⟨nt, tm, ⟨bx, lv, nx⟩⟩ tmps) {t : Nat} {a : AV} {u : Value} {K : AV → Prop} (ha : Rep E (shsOf bx) a u) (hk : wLoad D bx t a K) :
    ∃ v r, K v ∧ Rep E (shsOf bx) v r ∧ (Instr.loadAt t u).run P E.w = .ok r E.w := by
  unfold wLoad at hk
  split at hk
  · rename_i k sh by_ z ht
    split at hk
    · rename_i v
      obtain ⟨ad, ds, rfl, h1, h2, h3⟩ := rep_rp ha
      cases he : Shape.eqb sh v.shape with
      | false => simp [he] at hk
      | true =>
        simp only [he] at hk
        have he := (eqb_of _ _ he).symm
        have hir : IR E (shsOf bx) v ds := (IR_pure v ds h1).2 h2
        have hr := rep0_pack hir
        refine ⟨v, pack v ds, hk, rep_of hir hr, ?_⟩
        have := run_loadVar (P := P) (hT t _ ht) h3.1 he hir h3.2.1
        simp [Instr.loadAt, Instr.sureAddr, this]
    · rename_i id p
      obtain ⟨b, s, o, h1, h2, h3, rfl⟩ := rep_pt ha
      obtain ⟨c, f, cs, ty, fz, _, g2, g3, g4, g5, g6, _⟩ := box_at h h1 h2 hk
      obtain ⟨v, o', k1, k2, k3, k4, _, k6⟩ := rd_ok E (shsOf bx) p c cs.toList _ g6 g2
      rw [g3, h3] at k2
      simp only [Option.some.injEq] at k2
      subst k2
      cases he : Shape.eqb sh v.shape with
      | false => simp [he] at k1
      | true =>
        simp only [he] at k1
        have he := (eqb_of _ _ he).symm
        have hr := rep0_pack k6
        refine ⟨v, pack v _, k1, rep_of k6 hr, ?_⟩
        have := run_loadVar (P := P) (a := ⟨b, o, none⟩) (hT t _ ht) rfl he k6 (fun i u hu => by
          rw [cell_of g4, ← Array.getElem?_toList]
          rw [List.getElem?_take, List.getElem?_drop] at hu
          split at hu
          · exact hu
          · simp at hu)
        simp [Instr.loadAt, Instr.sureAddr, this]
    · exact hk.elim
  · exact hk.elim

theorem strct_fact (hT : TabOK P D) {t : Nat} {fs : List (Nat × Nat)} {sh : Shape} {by_ : Nat} {z : AV} (ht : lookT D.ty t = some ⟨.strct fs, sh, by_, z⟩) {f : Nat} {s : Shape} {shl : List Shape} (hsh : sh = .nd shl) (hs : shl[f]? = some s) :
    ∃ (fields : Array Field) (fd : Field) (i : TypeInfo), P.underlying t = some (.struct fields) ∧ fields[f]? = some fd ∧ fd.offset = Shape.sizes (shl.take f) ∧ P.info? fd.type = some i ∧ i.size ≠ 0 ∧ lookT D.ty fd.type = some ⟨(lookT D.ty fd.type).get!.k, s, (lookT D.ty fd.type).get!.bytes, (lookT D.ty fd.type).get!.zero⟩ := by
  obtain ⟨dd, i, z', h1, _, _, _, h4, _⟩ := (hT t _ ht).fact
  obtain ⟨fields, shs, rfl, h5, h6, h7, h8⟩ := h4
  simp only [hsh, Shape.nd.injEq] at h5
  subst h5
  have hf : f < fields.size := by rw [h6]; exact (List.getElem?_eq_some_iff.1 hs).1
  obtain ⟨j, e1, e2, e3, e4, e5, e6⟩ := h8 f fields[f] (Array.getElem?_eq_getElem hf)
  obtain ⟨d2, i2, z2, g1, g2, g3, _⟩ := (hT _ _ e1).fact
  rw [hs] at e3
  simp only [Option.some.injEq] at e3
  refine ⟨fields, fields[f], i2, h1, Array.getElem?_eq_getElem hf, e4, g2, by rw [g3]; exact e5, ?_⟩
  rw [e1, e3]
  rfl

theorem run_fieldAt {t f : Nat} {fields : Array Field} {fd : Field} {i : TypeInfo} (h1 : P.underlying t = some (.struct fields)) (h2 : fields[f]? = some fd) (h3 : P.info? fd.type = some i) (h4 : i.size ≠ 0) {a : Addr} (ha : a.spot = none) (w : World) :
    (Instr.fieldAt t (.pointer (some a)) f).run P w = .ok (.pointer (some ⟨a.block, a.off + fd.offset, none⟩)) w := by
  simp [Instr.fieldAt, run_underlying' h1, h2, Instr.sureAddr, fieldPlace, run_sizeOf' h3, h4, add_eq ha]

theorem lies_sub {w : World} {lim : Nat → Nat} {a : Addr} {pre p post : List Value} (h : Lies w lim a (pre ++ p ++ post)) : Lies w lim ⟨a.block, a.off + pre.length, none⟩ p := by
  refine ⟨rfl, fun i u hu => ?_, fun hn => ?_⟩
  · have hi := (List.getElem?_eq_some_iff.1 hu).1
    have := h.2.1 (pre.length + i) u (by
      rw [List.append_assoc, List.getElem?_append_right (by omega), Nat.add_sub_cancel_left, List.getElem?_append_left hi]
      exact hu)
    rw [Nat.add_assoc]
    exact this
  · have := h.2.2 (by cases p with | nil => exact absurd rfl hn | cons x p => simp)
    simp only [List.length_append] at this
    simp only
    omega

theorem wFieldAddr_ok (hT : TabOK P D) {E : Env} {nt : Nat} {tm : List (Nat × AV)} {bx : List (AV × Bool)} {lv : List Nat} {nx : Nat} {tmps : Array Value} (h : Sim D B E ⟨nt, tm, ⟨bx, lv, nx⟩⟩ tmps) {t f : Nat} {a : AV} {u : Value} {K : AV → Prop} (ha : Rep E (shsOf bx) a u) (hk : wFieldAddr D bx t a f K) :
    ∃ v r, K v ∧ Rep E (shsOf bx) v r ∧ (Instr.fieldAt t u f).run P E.w = .ok r E.w := by
  unfold wFieldAddr at hk
  split at hk
  · rename_i fs sh by_ z ht
    split at hk
    · rename_i xs
      obtain ⟨ad, ds, rfl, h1, h2, h3⟩ := rep_rp ha
      cases he : Shape.eqb sh (AV.shape (.st xs)) with
      | false => simp [he] at hk
      | true =>
        simp only [he] at hk
        have he := eqb_of _ _ he
        cases hx : xs[f]? with
        | none => simp [hx] at hk
        | some y =>
          simp only [hx] at hk
          obtain ⟨fields, fd, i, e1, e2, e3, e4, e5, _⟩ := strct_fact hT ht he (shapes_get xs f y hx)
          obtain ⟨ps, g1, g2⟩ := h2
          obtain ⟨pre, p, post, k1, k2, k3, _⟩ := PRs_nth xs ps f y g1 hx
          rw [g2, k1] at h3
          refine ⟨.rp y, _, hk, ?_, run_fieldAt e1 e2 e4 e5 h3.1 E.w⟩
          have hl := lies_sub h3
          rw [k3, ← e3] at hl
          exact ⟨_, p, rfl, pures_at (by simpa [AV.pure] using h1) hx, k2, hl⟩
    · rename_i id p
      obtain ⟨b, s, o, h1, h2, h3, rfl⟩ := rep_pt ha
      obtain ⟨c, f', cs, ty, fz, _, g2, g3, g4, g5, g6, _⟩ := box_at h h1 h2 hk
      split at g2
      · rename_i l hs'
        cases he : Shape.eqb sh (.nd l) with
        | false => simp [he] at g2
        | true =>
          simp only [he] at g2
          have he := eqb_of _ _ he
          cases hl : l[f]? with
          | none => simp [hl] at g2
          | some s' =>
            simp only [hl] at g2
            obtain ⟨fields, fd, i, e1, e2, e3, e4, e5, _⟩ := strct_fact hT ht he hl
            refine ⟨_, _, g2, ?_, run_fieldAt e1 e2 e4 e5 rfl E.w⟩
            rw [g3] at hs'
            have := offS_append p [f] s (.nd l) o (Shape.sizes (l.take f)) h3 hs' (by simp [offS, hl])
            exact ⟨b, s, _, h1, h2, this, by rw [e3]⟩
      · exact g2.elim
    · exact hk.elim
  · exact hk.elim

theorem slc_fact (hT : TabOK P D) {t : Nat} {K : Nat → Shape → Nat → Prop} (hk : elemSh D t K) :
    ∃ (e : Nat) (sh : Shape) (by_ : Nat) (i : TypeInfo) (z : Value), K e sh by_ ∧ P.underlying t = some (.slice e) ∧ P.info? e = some i ∧ i.size = sh.size ∧ i.bytes = by_ ∧ i.zero = some z ∧ ∃ k zv, lookT D.ty e = some ⟨k, sh, by_, zv⟩ := by
  unfold elemSh at hk
  split at hk
  · rename_i e _ _ _ ht
    split at hk
    · rename_i k sh by_ zv he
      obtain ⟨dd, i, z, h1, _, _, _, h4, _⟩ := (hT t _ ht).fact
      obtain ⟨_, rfl⟩ := h4
      obtain ⟨d2, i2, z2, _, g2, g3, g4, _, g6, _⟩ := (hT e _ he).fact
      exact ⟨e, sh, by_, i2, z2, hk, h1, g2, g3, g4, g6, k, zv, he⟩
    · exact hk.elim
  · exact hk.elim
theorem ar_fact (hT : TabOK P D) {t : Nat} {K : Nat → Shape → Prop} (hk : elemAr D t K) :
    ∃ (n : Nat) (sh : Shape) (e : Nat) (i : TypeInfo), K n sh ∧ P.underlying t = some (.array n e) ∧ P.info? e = some i ∧ i.size = sh.size ∧ ∃ ti, lookT D.ty e = some ti ∧ ti.sh = sh := by
  unfold elemAr at hk
  split at hk
  · rename_i n0 e n sh _ _ ht
    obtain ⟨dd, i, z, h1, _, _, _, h4, _⟩ := (hT t _ ht).fact
    obtain ⟨rfl, j, hj, hsh⟩ := h4
    simp only [Shape.ar.injEq] at hsh
    obtain ⟨rfl, rfl⟩ := hsh
    obtain ⟨d2, i2, z2, _, g2, g3, _⟩ := (hT e _ hj).fact
    exact ⟨n, j.sh, e, i2, hk, h1, g2, g3, j, hj, rfl⟩
  · exact hk.elim
end
end Go.WL
namespace Go.WL
section
variable {P : Program} {D : Tabs} {B : Base}

theorem run_indexAt_slice {t e : Nat} {i : TypeInfo} (h : P.underlying t = some (.slice e)) (hi : P.info? e = some i) {ad : Addr} (ha : ad.spot = none) {n c : Nat} {k : IntKind} {x : Int} (h0 : 0 ≤ x) (hx : x < n) (w : World) :
    (Instr.indexAt t (.slice (some ad) n c) (.int k x)).run P w = .ok (.pointer (some ⟨ad.block, ad.off + x.toNat * i.size, none⟩)) w := by
  simp [Instr.indexAt, asIntOf, run_underlying' h, h0, hx, run_sizeOf' hi, add_eq ha]
theorem run_indexAt_array {t e n : Nat} {i : TypeInfo} (h : P.underlying t = some (.array n e)) (hi : P.info? e = some i) {ad : Addr} (ha : ad.spot = none) {k : IntKind} {x : Int} (h0 : 0 ≤ x) (hx : x < n) (w : World) :
    (Instr.indexAt t (.pointer (some ad)) (.int k x)).run P w = .ok (.pointer (some ⟨ad.block, ad.off + x.toNat * i.size, none⟩)) w := by
  simp [Instr.indexAt, asIntOf, run_underlying' h, Instr.sureAddr, h0, hx, run_sizeOf' hi, add_eq ha]

theorem rep_int {E : Env} {shs : List Shape} {k : IntKind} {n : Int} {u : Value} (h : Rep E shs (.sc (.int k n)) u) : u = .int k n := (rep_sc.1 h).1

theorem lies_nth {w : World} {lim : Nat → Nat} {a : Addr} {xs : List AV} {ps : List (List Value)} {s : Shape} {j : Nat} {v : AV} (hp : PRs w lim xs ps) (hl : Lies w lim a ps.flatten) (hs : allSh s xs) (hv : xs[j]? = some v) :
    ∃ p, PR w lim v p ∧ Lies w lim ⟨a.block, a.off + j * s.size, none⟩ p := by
  obtain ⟨pre, p, post, k1, k2, k3, _⟩ := PRs_nth xs ps j v hp hv
  rw [k1] at hl
  have := lies_sub hl
  rw [k3, sizes_take hs (Nat.le_of_lt (List.getElem?_eq_some_iff.1 hv).1)] at this
  exact ⟨p, k2, this⟩

theorem rep_bs {E : Env} {shs : List Shape} {id : Nat} {p : List Nat} {s : Shape} {off len cap : Nat} {u : Value} (h : Rep E shs (.bs id p s off len cap) u) : ∃ b t o n o', E.bx[id]? = some b ∧ shs[id]? = some t ∧ offS t p = some o ∧ shAt t p = some (.ar n s) ∧ off + cap ≤ n ∧ len ≤ cap ∧ (cap ≠ 0 → o' = o + off * s.size) ∧ u = .slice (some ⟨b, o', none⟩) len cap := by
  obtain ⟨b, t, o, n, o', h1, h2, h3, h4, h5, h6, h7, h8⟩ := h
  simp only [List.cons.injEq, and_true] at h8
  exact ⟨b, t, o, n, o', h1, h2, h3, h4, h5, h6, h7, h8⟩

theorem wIndexAddr_ok (hT : TabOK P D) {E : Env} {nt : Nat} {tm : List (Nat × AV)} {bx : List (AV × Bool)} {lv : List Nat} {nx : Nat} {tmps : Array Value} (h : Sim D B E ⟨nt, tm, ⟨bx, lv, nx⟩⟩ tmps) {t : Nat} {a ix : AV} {u ui : Value} {K : AV → Prop} (ha : Rep E (shsOf bx) a u) (hix : Rep E (shsOf bx) ix ui) (hk : wIndexAddr D bx t a ix K) :
    ∃ v r, K v ∧ Rep E (shsOf bx) v r ∧ (Instr.indexAt t u ui).run P E.w = .ok r E.w := by
  unfold wIndexAddr at hk
  split at hk
  · rename_i k i
    obtain rfl := rep_int hix
    split at hk
    · rename_i s xs m
      obtain ⟨a, c, rfl, h1, h2, h3, h4, h5, _⟩ := rep_sl ha
      obtain ⟨e, sh, by_, inf, z, hk, e5, e1, e2, _⟩ := slc_fact hT hk
      cases he : Shape.eqb s sh with
      | false => simp [he] at hk
      | true =>
        simp only [he] at hk
        have he := eqb_of _ _ he
        subst he
        obtain ⟨h0, v, hv, hk⟩ := hk
        have hlt := (List.getElem?_eq_some_iff.1 hv).1
        rcases h5 with rfl | ⟨ad, ps, rfl, hp, hl⟩
        · simp at hlt
        · obtain ⟨p, g1, g2⟩ := lies_nth hp hl h3 hv
          exact ⟨.rp v, _, hk, ⟨_, p, rfl, (h3.at hv).2, g1, g2⟩, by rw [run_indexAt_slice e5 e1 hl.1 h0 (by omega), e2]⟩
    · rename_i n s xs
      obtain ⟨ad, ds, rfl, h1, h2, h3⟩ := rep_rp ha
      obtain ⟨n0, sh, e, inf, hk, e5, e1, e2, _⟩ := ar_fact hT hk
      cases he : (Shape.eqb s sh && Nat.beq n n0) with
      | false => simp [he] at hk
      | true =>
        simp only [he] at hk
        simp only [Bool.and_eq_true] at he
        obtain rfl := eqb_of _ _ he.1
        obtain rfl := Nat.eq_of_beq_eq_true he.2
        obtain ⟨h0, v, hv, hk⟩ := hk
        have hlt := (List.getElem?_eq_some_iff.1 hv).1
        obtain ⟨l1, l2, ps, hp, rfl⟩ := h2
        obtain ⟨p, g1, g2⟩ := lies_nth hp h3 l2 hv
        exact ⟨.rp v, _, hk, ⟨_, p, rfl, (l2.at hv).2, g1, g2⟩, by rw [run_indexAt_array e5 e1 h3.1 h0 (by omega), e2]⟩
    · rename_i id p
      obtain ⟨b, s, o, h1, h2, h3, rfl⟩ := rep_pt ha
      obtain ⟨c, f', cs, ty, fz, _, g2, g3, g4, g5, g6, _⟩ := box_at h h1 h2 hk
      split at g2
      · rename_i n s' hs'
        obtain ⟨n0, sh, e, inf, hk, e5, e1, e2, _⟩ := ar_fact hT g2
        cases he : (Shape.eqb s' sh && Nat.beq n n0) with
        | false => simp [he] at hk
        | true =>
          simp only [he] at hk
          simp only [Bool.and_eq_true] at he
          obtain rfl := eqb_of _ _ he.1
          obtain rfl := Nat.eq_of_beq_eq_true he.2
          obtain ⟨h0, hlt, hk⟩ := hk
          rw [g3] at hs'
          have := offS_append p [i.toNat] s (.ar n s') o (i.toNat * s'.size) h3 hs' (by simp [offS]; omega)
          exact ⟨_, _, hk, ⟨b, s, _, h1, h2, this, rfl⟩, by rw [run_indexAt_array e5 e1 rfl h0 hlt, e2]⟩
      · exact g2.elim
    · rename_i id p s off len cap
      obtain ⟨b, t', o, n, o', h1, h2, h3, h4, h5, h6, h7, rfl⟩ := rep_bs ha
      obtain ⟨e, sh, by_, inf, z, hk, e5, e1, e2, _⟩ := slc_fact hT hk
      cases he : Shape.eqb s sh with
      | false => simp [he] at hk
      | true =>
        simp only [he] at hk
        obtain rfl := eqb_of _ _ he
        obtain ⟨h0, hlt, hk⟩ := hk
        have := offS_append p [off + i.toNat] t' (.ar n s) o ((off + i.toNat) * s.size) h3 h4 (by simp [offS]; omega)
        refine ⟨_, _, hk, ⟨b, t', _, h1, h2, this, rfl⟩, ?_⟩
        rw [run_indexAt_slice e5 e1 rfl h0 hlt, e2, h7 (by omega), Nat.add_mul, Nat.add_assoc]
    · exact hk.elim
  · exact hk.elim

theorem wIndex_ok (hT : TabOK P D) {E : Env} {shs : List Shape} {t : Nat} {a ix : AV} {u ui : Value} {K : AV → Prop} (ha : Rep E shs a u) (hix : Rep E shs ix ui) (hk : wIndex D t a ix K) :
    ∃ v r, K v ∧ Rep E shs v r ∧ (Instr.index t u ui).run P E.w = .ok r E.w := by
  unfold wIndex at hk
  split at hk
  · rename_i k i
    obtain rfl := rep_int hix
    split at hk
    · rename_i n s xs
      obtain ⟨cs, rfl, l1, l2, ps, hp, hcs⟩ := ha
      obtain ⟨n0, sh, e, inf, hk, e5, e1, e2, ti, hti, hsh⟩ := ar_fact hT hk
      cases he : (Shape.eqb s sh && Nat.beq n n0) with
      | false => simp [he] at hk
      | true =>
        simp only [he] at hk
        simp only [Bool.and_eq_true] at he
        obtain rfl := eqb_of _ _ he.1
        obtain rfl := Nat.eq_of_beq_eq_true he.2
        obtain ⟨h0, v, hv, hk⟩ := hk
        have hlt := (List.getElem?_eq_some_iff.1 hv).1
        obtain ⟨pre, p, post, k1, k2, k3, _⟩ := PRs_nth xs ps _ v hp hv
        rw [sizes_take l2 (Nat.le_of_lt hlt)] at k3
        have hpu := l2.at hv
        have hir : IR E shs v p := (IR_pure v p hpu.2).2 k2
        refine ⟨v, pack v p, hk, rep_of hir (rep0_pack hir), ?_⟩
        have := run_part (P := P) (w := E.w) (hT e ti hti) (hpu.1.trans hsh.symm) hir (cs := cs) (pre := pre) (post := post) (off := i.toNat * inf.size) (by rw [hcs, k1]) (by rw [k3, e2])
        simp [Instr.index, asIntOf, run_underlying' e5, h0, show i < (n : Int) by omega, run_sizeOf' e1, this]
    · rename_i b
      obtain ⟨rfl, _⟩ := rep_sc.1 ha
      split at hk
      · rename_i ht
        obtain ⟨dd, ii, z, hd, _, _, _, h4, _⟩ := (hT t _ ht).fact
        obtain ⟨_, rfl⟩ := h4
        obtain ⟨h0, c, hc, hk⟩ := hk
        refine ⟨_, _, hk, rep_sc.2 ⟨rfl, rfl⟩, ?_⟩
        have hb : b[i.toNat]? = some c := by
          rw [ByteArray.toList_eq] at hc
          have hlt := (List.getElem?_eq_some_iff.1 hc).1
          have hlt' : i.toNat < b.size := by simpa using hlt
          rw [getElem?_pos b i.toNat hlt']
          rw [← hc, List.getElem?_eq_getElem hlt]
          rfl
        simp [Instr.index, asIntOf, run_underlying' hd, h0, hb]
      · exact hk.elim
    · exact hk.elim
  · exact hk.elim

theorem wField_ok (hT : TabOK P D) {E : Env} {shs : List Shape} {t f : Nat} {a : AV} {u : Value} {K : AV → Prop} (ha : Rep E shs a u) (hk : wField D t a f K) :
    ∃ v r, K v ∧ Rep E shs v r ∧ (Instr.field t u f).run P E.w = .ok r E.w := by
  unfold wField at hk
  split at hk
  · rename_i fs sh by_ z ht
    split at hk
    · rename_i xs
      obtain ⟨cs, rfl, ps, hp, hcs⟩ := ha
      cases he : Shape.eqb sh (AV.shape (.st xs)) with
      | false => simp [he] at hk
      | true =>
        simp only [he] at hk
        have he := eqb_of _ _ he
        cases hx : xs[f]? with
        | none => simp [hx] at hk
        | some y =>
          simp only [hx] at hk
          obtain ⟨fields, fd, i, e1, e2, e3, e4, e5, e6⟩ := strct_fact hT ht he (shapes_get xs f y hx)
          obtain ⟨pre, p, post, k1, k2, k3, _⟩ := IRs_nth xs ps f y hp hx
          refine ⟨y, pack y p, hk, rep_of k2 (rep0_pack k2), ?_⟩
          have := run_part (P := P) (w := E.w) (hT _ _ e6) rfl k2 (cs := cs) (pre := pre) (post := post) (off := fd.offset) (by rw [hcs, k1]) (by rw [k3, ← e3])
          simp [Instr.field, run_underlying' e1, e2, asAgg, this]
    · exact hk.elim
  · exact hk.elim
end
end Go.WL
namespace Go.WL
section
variable {P : Program} {D : Tabs} {B : Base}

theorem PRs_append {w : World} {lim : Nat → Nat} : ∀ (xs ys : List AV) (ps : List (List Value)), PRs w lim (xs ++ ys) ps ↔ ∃ p q, ps = p ++ q ∧ PRs w lim xs p ∧ PRs w lim ys q
  | [], ys, ps => by
    simp only [List.nil_append, PRs]
    exact ⟨fun h => ⟨[], ps, rfl, rfl, h⟩, fun ⟨p, q, h1, h2, h3⟩ => by rw [h1, h2]; exact h3⟩
  | x :: xs, ys, ps => by
    simp only [List.cons_append, PRs]
    constructor
    · rintro ⟨p, qs, h1, h2, h3⟩
      obtain ⟨a, b, e1, e2, e3⟩ := (PRs_append xs ys qs).1 h3
      exact ⟨p :: a, b, by rw [h1, e1]; rfl, ⟨p, a, rfl, h2, e2⟩, e3⟩
    · rintro ⟨p, q, h1, ⟨a, b, h2, h3, h4⟩, h5⟩
      exact ⟨a, b ++ q, by rw [h1, h2]; rfl, h3, (PRs_append xs ys _).2 ⟨b, q, rfl, h4, h5⟩⟩

/-- A piece of what lies for good lies for good. -/
theorem lies_cut {w : World} {lim : Nat → Nat} {a : Addr} {xs : List AV} {ps : List (List Value)} {s : Shape} (hp : PRs w lim xs ps) (hl : Lies w lim a ps.flatten) (hs : allSh s xs) {l k : Nat} (hlk : l + k ≤ xs.length) :
    ∃ qs, PRs w lim ((xs.drop l).take k) qs ∧ Lies w lim ⟨a.block, a.off + l * s.size, none⟩ qs.flatten := by
  have e : xs = xs.take l ++ ((xs.drop l).take k ++ (xs.drop l).drop k) := by rw [List.take_append_drop, List.take_append_drop]
  rw [e] at hp
  obtain ⟨p1, q1, rfl, h1, h2⟩ := (PRs_append _ _ _).1 hp
  obtain ⟨p2, q2, rfl, h3, _⟩ := (PRs_append _ _ _).1 h2
  refine ⟨p2, h3, ?_⟩
  rw [List.flatten_append, List.flatten_append, ← List.append_assoc] at hl
  have := lies_sub hl
  rwa [PRs_len _ _ h1, sizes_all (hs.take l), List.length_take, Nat.min_eq_left (by omega)] at this

def optRep (E : Env) (shs : List Shape) : Option AV → Option Value → Prop
  | none, v => v = none
  | some x, v => ∃ u, v = some u ∧ Rep E shs x u

theorem bnd_ok {E : Env} {shs : List Shape} {x : Option AV} {v : Option Value} {dflt : Nat} {K : Nat → Prop} (hr : optRep E shs x v) (h : bnd x dflt K) :
    ∃ l : Nat, K l ∧ ((x = none ∧ v = none ∧ l = dflt) ∨ ∃ k n, v = some (.int k n) ∧ 0 ≤ n ∧ l = n.toNat) := by
  unfold bnd at h
  split at h
  · exact ⟨_, h, .inl ⟨rfl, hr, rfl⟩⟩
  · obtain ⟨u, rfl, hu⟩ := hr
    obtain rfl := rep_int hu
    exact ⟨_, h.2, .inr ⟨_, _, rfl, h.1, rfl⟩⟩
  · exact h.elim

theorem run_sliceBounds {sl : Bool} {len cap : Nat} {lo hi : Option Value} {l h : Nat} (hl : (lo = none ∧ l = 0) ∨ ∃ k n, lo = some (.int k n) ∧ 0 ≤ n ∧ l = n.toNat) (hh : (hi = none ∧ h = len) ∨ ∃ k n, hi = some (.int k n) ∧ 0 ≤ n ∧ h = n.toNat)
    (h1 : l ≤ h) (h2 : h ≤ cap) (w : World) : (Instr.sliceBounds sl len cap lo hi none).run P w = .ok (l, h, cap) w := by
  unfold Instr.sliceBounds
  rcases hl with ⟨rfl, rfl⟩ | ⟨k, n, rfl, hn, rfl⟩ <;> rcases hh with ⟨rfl, rfl⟩ | ⟨k', m, rfl, hm, rfl⟩
  · simp
  · simp [Instr.sliceBound, asIntOf, hm, show m ≤ (cap : Int) by omega]
  · simp [Instr.sliceBound, asIntOf, hn, show n ≤ (h : Int) by omega]
  · simp [Instr.sliceBound, asIntOf, hn, hm, show m ≤ (cap : Int) by omega, show n ≤ max m 0 by omega]
theorem run_sliceBounds3 {len cap : Nat} {lo hi : Option Value} {l h c : Nat} {k2 : IntKind} {m2 : Int} (hl : (lo = none ∧ l = 0) ∨ ∃ k n, lo = some (.int k n) ∧ 0 ≤ n ∧ l = n.toNat) (hh : ∃ k n, hi = some (.int k n) ∧ 0 ≤ n ∧ h = n.toNat)
    (hm2 : 0 ≤ m2) (hc : c = m2.toNat) (h1 : l ≤ h) (h2 : h ≤ c) (h3 : c ≤ cap) (w : World) : (Instr.sliceBounds true len cap lo hi (some (.int k2 m2))).run P w = .ok (l, h, c) w := by
  subst hc
  unfold Instr.sliceBounds
  obtain ⟨k', m, rfl, hm, rfl⟩ := hh
  rcases hl with ⟨rfl, rfl⟩ | ⟨k, n, rfl, hn, rfl⟩
  · simp [Instr.sliceBound, asIntOf, hm, hm2, show m ≤ max m2 0 by omega, show m2 ≤ (cap : Int) by omega]
  · simp [Instr.sliceBound, asIntOf, hn, hm, hm2, show m ≤ max m2 0 by omega, show m2 ≤ (cap : Int) by omega, show n ≤ max m 0 by omega]

theorem cut_rep {E : Env} {shs : List Shape} {s : Shape} {xs : List AV} {a : Option Addr} {c m l h : Nat} {mk : Mark} (h2 : xs.length ≤ c) (h4 : allSh s xs) (h5 : a = none → c = 0) (h6 : xs = [] ∨ ∃ ad ps, a = some ad ∧ PRs E.w E.lim xs ps ∧ Lies E.w E.lim ad ps.flatten)
    (hlh : l ≤ h) (hh : h ≤ xs.length) (hm : h ≤ m) (hmc : m ≤ c) (hmk : mk = .ro ∨ (mk = .ex ∧ m = h)) :
    Rep E shs (.sl s ((xs.drop l).take (h - l)) mk) (.slice (if m = l then a else a.map (·.add (l * s.size))) (h - l) (m - l)) := by
  have hlen : ((xs.drop l).take (h - l)).length = h - l := by simp; omega
  refine ⟨⟨_, m - l, by rw [hlen], by omega, fun he => ?_, (h4.drop l).take _, fun hn => ?_, ?_⟩, fun r hr => ?_⟩
  · rcases hmk with rfl | ⟨_, rfl⟩
    · simp at he
    · omega
  · split at hn
    · omega
    · cases a with
      | none => have := h5 rfl; omega
      | some ad => simp at hn
  · by_cases he : h = l
    · left; subst he; simp
    · right
      rcases h6 with rfl | ⟨ad, ps, rfl, hp, hl⟩
      · simp at hh; omega
      · obtain ⟨qs, g1, g2⟩ := lies_cut hp hl h4 (l := l) (k := h - l) (by omega)
        refine ⟨_, qs, ?_, g1, g2⟩
        rw [if_neg (by omega)]
        simp [add_eq hl.1]
  · rcases hmk with rfl | ⟨rfl, _⟩ <;> simp at hr

theorem wSlice_ok (hT : TabOK P D) {E : Env} {nt : Nat} {tm : List (Nat × AV)} {bx : List (AV × Bool)} {lv : List Nat} {nx : Nat} {tmps : Array Value} (h : Sim D B E ⟨nt, tm, ⟨bx, lv, nx⟩⟩ tmps) {t : Nat} {a : AV} {lo hi mx : Option AV} {u : Value} {lo' hi' mx' : Option Value} {K : AV → Prop}
    (ha : Rep E (shsOf bx) a u) (hlo : optRep E (shsOf bx) lo lo') (hhi : optRep E (shsOf bx) hi hi') (hmx : optRep E (shsOf bx) mx mx') (hk : wSlice D bx t a lo hi mx K) :
    ∃ v r, K v ∧ Rep E (shsOf bx) v r ∧ (Instr.sliceAt t u lo' hi' mx').run P E.w = .ok r E.w := by
  have opt : ∀ {x : Option AV} {v : Option Value} {l dflt : Nat}, ((x = none ∧ v = none ∧ l = dflt) ∨ ∃ k n, v = some (.int k n) ∧ 0 ≤ n ∧ l = n.toNat) → ((v = none ∧ l = dflt) ∨ ∃ k n, v = some (.int k n) ∧ 0 ≤ n ∧ l = n.toNat) := by
    intro x v l dflt hh
    exact hh.imp (fun h => ⟨h.2.1, h.2.2⟩) id
  unfold wSlice at hk
  split at hk
  · rename_i s
    obtain ⟨rfl, _⟩ := rep_sc.1 ha
    split at hk
    · obtain rfl : mx' = none := hmx
      split at hk
      · rename_i ht
        obtain ⟨dd, ii, z, hd, _, _, _, h4, _⟩ := (hT t _ ht).fact
        obtain ⟨_, rfl⟩ := h4
        obtain ⟨l, hk, b1⟩ := bnd_ok hlo hk
        obtain ⟨hh, hk, b2⟩ := bnd_ok hhi hk
        obtain ⟨c1, c2, hk⟩ := hk
        refine ⟨_, _, hk, rep_sc.2 ⟨rfl, rfl⟩, ?_⟩
        simp [Instr.sliceAt, run_underlying' hd, Instr.slice, run_sliceBounds (P := P) (sl := false) (opt b1) (opt b2) c1 c2]
      · exact hk.elim
    · exact hk.elim
  · rename_i s xs mk
    obtain ⟨a, c, rfl, h2, h3, h4, h5, h6, _⟩ := rep_sl ha
    obtain ⟨e, sh, by_, inf, z, hk, e5, e1, e2, _⟩ := slc_fact hT hk
    cases he : Shape.eqb s sh with
    | false => simp [he] at hk
    | true =>
      simp only [he] at hk
      obtain rfl := eqb_of _ _ he
      obtain ⟨l, hk, b1⟩ := bnd_ok hlo hk
      obtain ⟨hh, hk, b2⟩ := bnd_ok hhi hk
      obtain ⟨c1, c2, hk⟩ := hk
      cases mx with
      | none =>
        obtain rfl : mx' = none := hmx
        have hrun : (Instr.sliceAt t (.slice a xs.length c) lo' hi' none).run P E.w = .ok (.slice (if c = l then a else a.map (·.add (l * s.size))) (hh - l) (c - l)) E.w := by
          simp [Instr.sliceAt, run_underlying' e5, Instr.slice, run_sliceBounds (P := P) (sl := true) (opt b1) (opt b2) c1 (by omega : hh ≤ c), run_sizeOf' e1, e2]
        have fin : ∀ mk', (mk' = .ro ∨ (mk' = .ex ∧ c = hh)) → K (.sl s ((xs.drop l).take (hh - l)) mk') → ∃ v r, K v ∧ Rep E (shsOf bx) v r ∧ (Instr.sliceAt t (.slice a xs.length c) lo' hi' none).run P E.w = .ok r E.w :=
          fun mk' hmk hk => ⟨_, _, hk, cut_rep h2 h4 h5 h6 c1 c2 (by omega) (Nat.le_refl _) hmk, hrun⟩
        simp only at hk
        cases hi with
        | none =>
          simp only at hk
          split at hk
          · refine fin .ex (.inr ⟨rfl, ?_⟩) hk
            rcases b2 with ⟨_, _, rfl⟩ | ⟨k, n, hn, _⟩
            · exact h3 rfl
            · rw [show hi' = none from hhi] at hn; simp at hn
          · exact fin .ro (.inl rfl) hk
        | some hv =>
          simp only at hk
          split at hk
          · split at hk
            · refine fin .ex (.inr ⟨rfl, ?_⟩) (by simpa using hk)
              have := h3 rfl
              simp at this c2
              omega
            · exact fin .ro (.inl rfl) hk
          · exact fin .ro (.inl rfl) hk
      | some a' =>
        simp only at hk
        cases hi with
        | none => exact hk.elim
        | some hv =>
          obtain ⟨um, rfl, hum⟩ := hmx
          obtain ⟨c', hk, b3⟩ := bnd_ok (x := some a') (v := some um) ⟨um, rfl, hum⟩ hk
          obtain ⟨rfl, hk⟩ := hk
          rcases b3 with ⟨e', _⟩ | ⟨k3, m3, e3, hm3, hc3⟩
          · simp at e'
          · simp only [Option.some.injEq] at e3
            subst e3
            refine ⟨_, _, hk, cut_rep (m := c') h2 h4 h5 h6 c1 c2 (Nat.le_refl _) (by omega) (.inr ⟨rfl, rfl⟩), ?_⟩
            rcases b2 with ⟨e', _⟩ | b2
            · simp at e'
            · simp [Instr.sliceAt, run_underlying' e5, Instr.slice, run_sliceBounds3 (P := P) (opt b1) b2 hm3 hc3 c1 (Nat.le_refl _) (by omega : c' ≤ c), run_sizeOf' e1, e2]
  · rename_i id p
    obtain ⟨b, s0, o, h1, h2, h3, rfl⟩ := rep_pt ha
    cases mx with
    | some _ => exact hk.elim
    | none =>
      obtain rfl : mx' = none := hmx
      obtain ⟨c, f', cs, ty, fz, _, g2, g3, g4, g5, g6, _⟩ := box_at h h1 h2 hk
      split at g2
      · rename_i n s' hs'
        obtain ⟨n0, sh, e, inf, hk, e5, e1, e2, _⟩ := ar_fact hT g2
        cases he : (Shape.eqb s' sh && Nat.beq n n0) with
        | false => simp [he] at hk
        | true =>
          simp only [he] at hk
          simp only [Bool.and_eq_true] at he
          obtain rfl := eqb_of _ _ he.1
          obtain rfl := Nat.eq_of_beq_eq_true he.2
          obtain ⟨l, hk, b1⟩ := bnd_ok hlo hk
          obtain ⟨hh, hk, b2⟩ := bnd_ok hhi hk
          obtain ⟨c1, c2, hk⟩ := hk
          rw [g3] at hs'
          refine ⟨_, .slice (some ⟨b, if n = l then o else o + l * s'.size, none⟩) (hh - l) (n - l), hk, ⟨b, s0, o, n, _, h1, h2, h3, hs', by omega, by omega, fun hne => ?_, rfl⟩, ?_⟩
          · rw [if_neg (by omega)]
          · have : (if n = l then (⟨b, o, none⟩ : Addr) else Addr.add ⟨b, o, none⟩ (l * s'.size)) = ⟨b, if n = l then o else o + l * s'.size, none⟩ := by
              split
              · rfl
              · rw [add_eq rfl]
            simp [Instr.sliceAt, run_underlying' e5, Instr.sureAddr, run_sliceBounds (P := P) (sl := false) (opt b1) (opt b2) c1 c2, run_sizeOf' e1, e2, this]
      · exact g2.elim
  · rename_i n s xs
    obtain ⟨ad, ds, rfl, h1, h2, h3⟩ := rep_rp ha
    cases mx with
    | some _ => exact hk.elim
    | none =>
      obtain rfl : mx' = none := hmx
      obtain ⟨n0, sh, e, inf, hk, e5, e1, e2, _⟩ := ar_fact hT hk
      cases he : (Shape.eqb s sh && Nat.beq n n0) with
      | false => simp [he] at hk
      | true =>
        simp only [he] at hk
        simp only [Bool.and_eq_true] at he
        obtain rfl := eqb_of _ _ he.1
        obtain rfl := Nat.eq_of_beq_eq_true he.2
        obtain ⟨l, hk, b1⟩ := bnd_ok hlo hk
        obtain ⟨hh, hk, b2⟩ := bnd_ok hhi hk
        obtain ⟨c1, c2, hk⟩ := hk
        obtain ⟨l1, l2, ps, hp, rfl⟩ := h2
        have := cut_rep (E := E) (shs := shsOf bx) (a := some ad) (c := n) (m := n) (l := l) (h := hh) (mk := .ro) (xs := xs) (by omega) l2 (by simp) (.inr ⟨ad, ps, rfl, hp, h3⟩) c1 (by omega) c2 (Nat.le_refl _) (.inl rfl)
        refine ⟨_, _, hk, this, ?_⟩
        have e' : (if n = l then some ad else Option.map (fun x : Addr => x.add (l * s.size)) (some ad)) = some (if n = l then ad else ad.add (l * s.size)) := by split <;> rfl
        simp [Instr.sliceAt, run_underlying' e5, Instr.sureAddr, run_sliceBounds (P := P) (sl := false) (opt b1) (opt b2) c1 c2, run_sizeOf' e1, e2]
        split <;> rfl
  · rename_i id p s off len cap
    obtain ⟨b, t', o, n, o', h1, h2, h3, h4, h5, h6, h7, rfl⟩ := rep_bs ha
    cases mx with
    | some a' =>
      cases hi with
      | none => exact hk.elim
      | some hv =>
        obtain ⟨um, rfl, hum⟩ := hmx
        obtain ⟨e, sh, by_, inf, z, hk, e5, e1, e2, _⟩ := slc_fact hT hk
        cases he : Shape.eqb s sh with
        | false => simp [he] at hk
        | true =>
          simp only [he] at hk
          obtain rfl := eqb_of _ _ he
          obtain ⟨l, hk, b1⟩ := bnd_ok hlo hk
          obtain ⟨hh, hk, b2⟩ := bnd_ok (dflt := 0) hhi hk
          obtain ⟨c', hk, b3⟩ := bnd_ok (dflt := 0) (x := some a') (v := some um) ⟨um, rfl, hum⟩ hk
          obtain ⟨c1, c2, c3, hk⟩ := hk
          rcases b3 with ⟨e', _⟩ | ⟨k3, m3, e3, hm3, hc3⟩
          · simp at e'
          simp only [Option.some.injEq] at e3
          subst e3
          rcases b2 with ⟨e', _⟩ | b2
          · obtain ⟨uh, rfl, _⟩ := hhi; simp at e'
          refine ⟨_, .slice (some ⟨b, if c' = l then o' else o' + l * s.size, none⟩) (hh - l) (c' - l), hk, ⟨b, t', o, n, _, h1, h2, h3, h4, by omega, by omega, fun hne => ?_, rfl⟩, ?_⟩
          · rw [if_neg (by omega), h7 (by omega), Nat.add_mul, Nat.add_assoc]
          · have : (if c' = l then (some ⟨b, o', none⟩ : Option Addr) else Option.map (fun x : Addr => x.add (l * s.size)) (some ⟨b, o', none⟩)) = some ⟨b, if c' = l then o' else o' + l * s.size, none⟩ := by
              split
              · rfl
              · simp [add_eq]
            simp only [Option.map_some] at this
            simp [Instr.sliceAt, run_underlying' e5, Instr.slice, run_sliceBounds3 (P := P) (opt b1) b2 hm3 hc3 c1 c2 c3, run_sizeOf' e1, e2, this]
    | none =>
      obtain rfl : mx' = none := hmx
      obtain ⟨e, sh, by_, inf, z, hk, e5, e1, e2, _⟩ := slc_fact hT hk
      cases he : Shape.eqb s sh with
      | false => simp [he] at hk
      | true =>
        simp only [he] at hk
        obtain rfl := eqb_of _ _ he
        obtain ⟨l, hk, b1⟩ := bnd_ok hlo hk
        obtain ⟨hh, hk, b2⟩ := bnd_ok hhi hk
        obtain ⟨c1, c2, hk⟩ := hk
        refine ⟨_, .slice (some ⟨b, if cap = l then o' else o' + l * s.size, none⟩) (hh - l) (cap - l), hk, ⟨b, t', o, n, _, h1, h2, h3, h4, by omega, by omega, fun hne => ?_, rfl⟩, ?_⟩
        · rw [if_neg (by omega), h7 (by omega), Nat.add_mul, Nat.add_assoc]
        · have : (if cap = l then (some ⟨b, o', none⟩ : Option Addr) else Option.map (fun x : Addr => x.add (l * s.size)) (some ⟨b, o', none⟩)) = some ⟨b, if cap = l then o' else o' + l * s.size, none⟩ := by
            split
            · rfl
            · simp [add_eq]
          simp only [Option.map_some] at this
          simp [Instr.sliceAt, run_underlying' e5, Instr.slice, run_sliceBounds (P := P) (sl := true) (opt b1) (opt b2) c1 c2, run_sizeOf' e1, e2, this]
  · exact hk.elim
theorem wSliceX_ok (hT : TabOK P D) {E : Env} {nt : Nat} {tm : List (Nat × AV)} {bx : List (AV × Bool)} {lv : List Nat} {nx : Nat} {tmps : Array Value} (_h : Sim D B E ⟨nt, tm, ⟨bx, lv, nx⟩⟩ tmps) {t : Nat} {s : Shape} {xs : List AV} {hv : AV} {u : Value} {hi' : Option Value} {K : AV → Prop}
    (ha : Rep E (shsOf bx) (.sl s xs .ex) u) (hhi : optRep E (shsOf bx) (some hv) hi') (hk : wSliceX D t s xs hv K) :
    ∃ v r, K v ∧ Rep E (shsOf bx) v r ∧ (Instr.sliceAt t u none hi' none).run P E.w = .ok r E.w := by
  unfold wSliceX at hk
  obtain ⟨a, c, rfl, h2, h3, h4, h5, h6, _⟩ := rep_sl ha
  obtain ⟨e, sh, by_, inf, z, hk, e5, e1, e2, _⟩ := slc_fact hT hk
  cases he : Shape.eqb s sh with
  | false => simp [he] at hk
  | true =>
    simp only [he] at hk
    obtain rfl := eqb_of _ _ he
    obtain ⟨hh, hk, b2⟩ := bnd_ok hhi hk
    obtain ⟨c2, hk⟩ := hk
    have hc := h3 rfl
    have b3 : ∃ k n, hi' = some (.int k n) ∧ 0 ≤ n ∧ hh = n.toNat := by
      rcases b2 with ⟨h, _⟩ | h
      · simp at h
      · exact h
    have hrun : (Instr.sliceAt t (.slice a xs.length c) none hi' none).run P E.w = .ok (.slice (if c = 0 then a else a.map (·.add (0 * s.size))) (hh - 0) (c - 0)) E.w := by
      simp [Instr.sliceAt, run_underlying' e5, Instr.slice, run_sliceBounds (P := P) (sl := true) (len := xs.length) (cap := c) (lo := none) (hi := hi') (l := 0) (h := hh) (.inl ⟨rfl, rfl⟩) (.inr b3) (Nat.zero_le hh) (by omega : hh ≤ c), run_sizeOf' e1, e2]
    exact ⟨_, _, hk, cut_rep h2 h4 h5 h6 (Nat.zero_le _) (by omega) (by omega) (Nat.le_refl _) (.inr ⟨rfl, by omega⟩), hrun⟩

end
end Go.WL
namespace Go.WL
section
variable {P : Program} {D : Tabs} {B : Base}

theorem zipIdx_put (off : Nat) : ∀ (vs : List Value) (k : Nat) (cs : Array Value), (vs.zipIdx k).foldl (fun cs (x : Value × Nat) => cs.setIfInBounds (off + x.2) x.1) cs = putL cs (off + k) vs
  | [], k, cs => rfl
  | v :: vs, k, cs => by
    simp only [List.zipIdx_cons, List.foldl_cons, putL]
    rw [zipIdx_put off vs (k + 1)]
    rfl
theorem fold_put (off : Nat) (v : Value) (cs : Array Value) : v.cells.zipIdx.foldl (fun cs (x : Value × Nat) => cs.setIfInBounds (off + x.2) x.1) cs = putL cs off v.cells.toList := by
  have := zipIdx_put off v.cells.toList 0 cs
  rw [Nat.add_zero] at this
  rw [← this, ← Array.foldl_toList]
  simp

def PartsRep (E : Env) (shs : List Shape) : List (Nat × AV) → List (Nat × Value) → Prop
  | [], us => us = []
  | (i, v) :: l, us => ∃ u vs, us = (i, u) :: vs ∧ Rep0 E shs v u ∧ PartsRep E shs l vs

theorem fill_ok {E : Env} {shs : List Shape} {place : Nat → Option (Nat × Nat)} : ∀ (l : List (Nat × AV)) (us : List (Nat × Value)) (zs : List AV) (ps : List (List Value)) (cells : Array Value) (K : List AV → Prop), fillK zs l K → PartsRep E shs l us → IRs E shs zs ps → cells.toList = ps.flatten →
    (∀ i s, (AV.shapes zs)[i]? = some s → place i = some (Shape.sizes ((AV.shapes zs).take i), s.size)) → ∃ xs cells' ps', K xs ∧ Instr.fill place cells us = some cells' ∧ IRs E shs xs ps' ∧ cells'.toList = ps'.flatten ∧ AV.shapes xs = AV.shapes zs
  | [], us, zs, ps, cells, K, h, hu, hz, hc, _ => by
    have hu : us = [] := hu
    subst hu
    exact ⟨zs, cells, ps, h, rfl, hz, hc, rfl⟩
  | (i, v) :: l, us, zs, ps, cells, K, h, hu, hz, hc, hp => by
    obtain ⟨u, vs, rfl, hr, hu⟩ := hu
    simp only [fillK] at h
    cases hzi : zs[i]? with
    | none => simp [hzi] at h
    | some z =>
      simp only [hzi] at h
      cases he : Shape.eqb z.shape v.shape with
      | false => simp [he] at h
      | true =>
        simp only [he] at h
        have he := eqb_of _ _ he
        obtain ⟨pre, p, post, e1, e2, e3, e4⟩ := IRs_nth zs ps i z hz hzi
        have hs := shapes_get zs i z hzi
        have hcells := rep0_cells hr
        have lv := IR_len v _ hcells
        have lp := IR_len z p e2
        obtain ⟨qs, f1, f2⟩ := e4 v _ hcells
        have hsh : AV.shapes (zs.set i v) = AV.shapes zs := by
          clear h hu hz hc hp e1 e2 e3 e4 f1 f2 hs lp
          induction zs generalizing i with
          | nil => rfl
          | cons y zs ih =>
            cases i with
            | zero => simp at hzi; subst hzi; simp [AV.shapes, he]
            | succ i => simp only [List.set_cons_succ, AV.shapes]; rw [ih i (by simpa using hzi)]
        have hle : pre.length + u.cells.toList.length ≤ cells.size := by
          rw [← Array.length_toList, hc, e1]
          simp only [List.length_append]
          rw [lv, ← he, ← lp]
          omega
        have hput : (putL cells pre.length u.cells.toList).toList = qs.flatten := by
          rw [putL_list hle, hc, e1, f2]
          have := put_mid pre p post u.cells.toList 0 p.length (by omega)
          simp only [Nat.add_zero, List.take_zero, List.nil_append, Nat.zero_add, List.drop_length, List.append_nil] at this
          rw [← this, lv, ← he, ← lp]
        obtain ⟨xs, cells', ps', g1, g2, g3, g4, g5⟩ := fill_ok l vs (zs.set i v) qs _ K h hu f1 hput (by rw [hsh]; exact hp)
        refine ⟨xs, cells', ps', g1, ?_, g3, g4, g5.trans hsh⟩
        have hsz : u.cells.size = z.shape.size := by rw [he, ← lv]; simp
        rw [Instr.fill, hp i _ hs]
        simp only [← e3]
        have hle' : pre.length + u.cells.size ≤ cells.size := by simpa using hle
        have hcond : (decide (u.cells.size ≠ z.shape.size) || decide (pre.length + u.cells.size > cells.size)) = false := by
          simp [hsz]
          omega
        simp only [hcond, Bool.false_eq_true, if_false]
        rw [fold_put, g2]

theorem fillF_ok {E : Env} {shs : List Shape} {place : Nat → Option (Nat × Nat)} {l : List (Nat × AV)} {us : List (Nat × Value)} {zs : List AV} {ps : List (List Value)} {cells : Array Value} {K : List AV → Prop} (h : fillF zs l K) (hu : PartsRep E shs l us) (hz : IRs E shs zs ps) (hc : cells.toList = ps.flatten)
    (hp : ∀ i s, (AV.shapes zs)[i]? = some s → place i = some (Shape.sizes ((AV.shapes zs).take i), s.size)) : ∃ xs cells' ps', K xs ∧ Instr.fill place cells us = some cells' ∧ IRs E shs xs ps' ∧ cells'.toList = ps'.flatten ∧ AV.shapes xs = AV.shapes zs := by
  cases l with
  | nil => exact fill_ok [] us zs ps cells K h hu hz hc hp
  | cons p l =>
    obtain ⟨xs, cells', ps', g1, g2⟩ := fill_ok (p :: l) us zs ps cells _ h hu hz hc hp
    exact ⟨xs, cells', ps', forceL_of _ _ g1, g2⟩

theorem rep0_of {E : Env} {shs : List Shape} {v : AV} {u : Value} (h : Rep E shs v u) (hn : v.shape ≠ .lf ∨ ∀ xs, v ≠ .tup xs) : Rep0 E shs v u := by
  cases v <;> first | exact h | skip
  rcases hn with hn | hn
  · simp [AV.shape] at hn
  · exact absurd rfl (hn _)
theorem rep0_dm {E : Env} {shs : List Shape} {v : AV} {u : Value} (h : Rep0 E shs v u) : Rep0 E shs v.dm u := by
  cases v with
  | st xs =>
    obtain ⟨cs, rfl, h⟩ := h
    exact ⟨cs, rfl, IR_dm _ _ h⟩
  | ar n s xs => exact h
  | sl s xs m => cases m <;> first | exact h | exact IR_dm (E := E) (shs := shs) (.sl s xs (.own _)) _ h
  | tup xs => exact h.elim
  | _ => exact h

theorem evalN_ok {E : Env} {nt : Nat} {tm : List (Nat × AV)} {m : Mem} {a : Act} (hT : TabOK P D) (h : Sim D B E ⟨nt, tm, m⟩ a.tmps) {t : Nat} {x : Operand} {v : AV} (he : evalN D tm t x = some v) : Rep0 E (shsOf m.bx) v (a.eval x) := by
  unfold evalN at he
  split at he
  · simp at he
  · rename_i v' hn e
    simp only [Option.some.injEq] at he
    subst he
    exact rep0_of (eval_ok hT h e) (.inr fun xs hx => hn xs hx)
  · simp at he

theorem evalP_ok (hT : TabOK P D) {E : Env} {nt : Nat} {tm : List (Nat × AV)} {m : Mem} {a : Act} (h : Sim D B E ⟨nt, tm, m⟩ a.tmps) {ty : Nat → Nat} : ∀ (l : List (Nat × Operand)) (K : List (Nat × AV) → Prop), evalP D tm ty l K → ∃ vs, K vs ∧ PartsRep E (shsOf m.bx) vs (l.map fun (i, x) => (i, a.eval x))
  | [], K, hk => ⟨[], hk, rfl⟩
  | (i, o) :: l, K, hk => by
    simp only [evalP] at hk
    cases he : evalN D tm (ty i) o with
    | none => simp [he] at hk
    | some v =>
      simp only [he] at hk
      have hv := evalN_ok hT h he
      obtain ⟨vs, h1, h2⟩ := evalP_ok hT h l _ (dmK_of v _ hk)
      exact ⟨(i, v.dm) :: vs, h1, _, _, rfl, rep0_dm hv, h2⟩
theorem evalA_ok (hT : TabOK P D) {E : Env} {nt : Nat} {tm : List (Nat × AV)} {m : Mem} {a : Act} (h : Sim D B E ⟨nt, tm, m⟩ a.tmps) : ∀ (l : List Operand) (ts : List Nat) (vs : List AV), evalA D tm l ts = some vs → RepL E (shsOf m.bx) vs (l.map a.eval)
  | [], ts, vs, hk => by
    simp only [evalA, Option.some.injEq] at hk
    subst hk; rfl
  | o :: l, ts, vs, hk => by
    simp only [evalA] at hk
    have key : ∀ (t : Nat) (ts' : List Nat), (match evalN D tm t o with | some v => (match evalA D tm l ts' with | some vs => some (v :: vs) | none => none) | none => none) = some vs → RepL E (shsOf m.bx) vs ((o :: l).map a.eval) := by
      intro t ts' hh
      cases he : evalN D tm t o with
      | none => simp [he] at hh
      | some v =>
        simp only [he] at hh
        cases hr : evalA D tm l ts' with
        | none => simp [hr] at hh
        | some vs' =>
          simp only [hr, Option.some.injEq] at hh
          subst hh
          exact ⟨_, _, rfl, evalN_ok hT h he, evalA_ok hT h l ts' vs' hr⟩
    cases ts with
    | nil => exact key 0 [] hk
    | cons t ts' => exact key t ts' hk

theorem run_sizes : ∀ (fs : List Field), (∀ f ∈ fs, ∃ i, P.info? f.type = some i) → ∀ w, (fs.mapM fun f => Prod.mk f.offset <$> sizeOf f.type).run P w = .ok (fs.map fun f => (f.offset, P.cellsOf f.type)) w
  | [], _, w => by simp
  | f :: fs, h, w => by
    obtain ⟨i, hi⟩ := h f (by simp)
    have ih := run_sizes fs (fun g hg => h g (by simp [hg])) w
    simp [List.mapM_cons, run_sizeOf' hi, ih, Program.cellsOf, hi]

theorem flat_rep {n : Nat} {zs : Array Value} : ((Array.range (n * zs.size)).map fun i => zs[i % zs.size]!).toList = (List.replicate n zs.toList).flatten := by
  apply List.ext_getElem?
  intro i
  rw [Array.toList_map, Array.toList_range, List.getElem?_map]
  induction n generalizing i with
  | zero => simp
  | succ n ih =>
    rw [List.replicate_succ, List.flatten_cons]
    by_cases hi : i < zs.size
    · rw [List.getElem?_append_left (by simpa using hi)]
      have h1 : i < (n + 1) * zs.size := by rw [Nat.add_mul]; omega
      rw [List.getElem?_eq_getElem (by simpa using h1)]
      simp [Nat.mod_eq_of_lt hi, hi]
    · rw [List.getElem?_append_right (by simpa using Nat.le_of_not_lt hi), Array.length_toList, ← ih (i - zs.size)]
      by_cases h1 : i < (n + 1) * zs.size
      · have h2 : i - zs.size < n * zs.size := by rw [Nat.add_mul] at h1; omega
        rw [List.getElem?_eq_getElem (by simpa using h1), List.getElem?_eq_getElem (by simpa using h2)]
        simp only [List.getElem_range, Option.map_some, Option.some.injEq]
        congr 1
        rw [Nat.mod_eq_sub_mod (Nat.le_of_not_lt hi)]
      · have h2 : ¬ i - zs.size < n * zs.size := by rw [Nat.add_mul] at h1; omega
        rw [List.getElem?_eq_none (by simpa using h1), List.getElem?_eq_none (by simpa using h2)]

theorem IRs_replicate {E : Env} {shs : List Shape} {z : AV} {cs : List Value} (h : IR E shs z cs) : ∀ n, IRs E shs (List.replicate n z) (List.replicate n cs)
  | 0 => rfl
  | n + 1 => ⟨cs, List.replicate n cs, rfl, h, IRs_replicate h n⟩

theorem shapes_replicate (z : AV) : ∀ n, AV.shapes (List.replicate n z) = List.replicate n z.shape
  | 0 => rfl
  | n + 1 => by simp only [List.replicate_succ, AV.shapes, shapes_replicate z n]
theorem sizes_replicate (s : Shape) : ∀ n, Shape.sizes (List.replicate n s) = n * s.size
  | 0 => by simp [Shape.sizes]
  | n + 1 => by simp only [List.replicate_succ, Shape.sizes, sizes_replicate s n, Nat.add_mul]; omega

theorem fillK_and {s : Shape} : ∀ (l : List (Nat × AV)) (zs : List AV) (K : List AV → Prop), fillK zs l K → sndPure l = true → allSh s zs → fillK zs l fun xs => K xs ∧ allSh s xs ∧ xs.length = zs.length
  | [], zs, K, h, _, hz => ⟨h, hz, rfl⟩
  | (i, v) :: l, zs, K, h, hp, hz => by
    simp only [fillK] at h ⊢
    simp only [sndPure, Bool.and_eq_true] at hp
    cases hzi : zs[i]? with
    | none => simp [hzi] at h
    | some z =>
      simp only [hzi] at h ⊢
      cases he : Shape.eqb z.shape v.shape with
      | false => simp [he] at h
      | true =>
        simp only [he] at h ⊢
        have he := eqb_of _ _ he
        have := fillK_and l (zs.set i v) K h hp.2 (hz.set (he.symm.trans (hz.at hzi).1) hp.1)
        simpa using this
theorem fillF_and {s : Shape} {l : List (Nat × AV)} {zs : List AV} {K : List AV → Prop} (h : fillF zs l K) (hp : sndPure l = true) (hz : allSh s zs) : ∃ K', (∀ xs, K' xs → K xs ∧ allSh s xs ∧ xs.length = zs.length) ∧ fillK zs l K' := by
  cases l with
  | nil => exact ⟨_, fun xs hx => hx, fillK_and [] zs K h hp hz⟩
  | cons p l => exact ⟨_, fun xs hx => ⟨forceL_of _ _ hx.1, hx.2⟩, fillK_and (p :: l) zs _ h hp hz⟩

/-- The elements of an array or a slice, laid into zeros. -/
theorem fill_items {E : Env} {shs : List Shape} {s : Shape} {l : List (Nat × AV)} {us : List (Nat × Value)} {zs : List AV} {cells : Array Value} {K : List AV → Prop} {ps : List (List Value)} (h : fillF zs l K) (hp : sndPure l = true) (hz : allSh s zs) (hu : PartsRep E shs l us) (hi : IRs E shs zs ps) (hc : cells.toList = ps.flatten) :
    ∃ xs cells' ps', K xs ∧ Instr.fill (fun i => some (i * s.size, s.size)) cells us = some cells' ∧ IRs E shs xs ps' ∧ cells'.toList = ps'.flatten ∧ allSh s xs ∧ xs.length = zs.length := by
  obtain ⟨K', h1, h2⟩ := fillF_and h hp hz
  obtain ⟨xs, cells', ps', g1, g2, g3, g4, _⟩ := fill_ok (place := fun i => some (i * s.size, s.size)) l us zs ps cells K' h2 hu hi hc (fun i t ht => by
    have hlt : i < zs.length := by
      rcases Nat.lt_or_ge i zs.length with hlt | hge
      · exact hlt
      · exfalso
        have : (AV.shapes zs).length = zs.length := by
          clear hz h h1 h2 hi hc ht hge
          induction zs with
          | nil => rfl
          | cons z zs ih => simp [AV.shapes, ih]
        rw [List.getElem?_eq_none (by omega)] at ht
        simp at ht
    rw [shapes_get zs i zs[i] (List.getElem?_eq_getElem hlt)] at ht
    simp only [Option.some.injEq] at ht
    rw [sizes_take hz (Nat.le_of_lt hlt), ← ht, (hz.at (List.getElem?_eq_getElem hlt)).1])
  obtain ⟨k1, k2, k3⟩ := h1 xs g1
  exact ⟨xs, cells', ps', k1, g2, g3, g4, k2, k3⟩

theorem pures_all {s : Shape} {xs : List AV} (h : allSh s xs) : AV.pures xs = true := by
  induction xs with
  | nil => rfl
  | cons x xs ih => simp [AV.pures, (h x (by simp)).2, ih fun y hy => h y (by simp [hy])]

theorem wBuild_ok (hT : TabOK P D) {E : Env} {nt : Nat} {tm : List (Nat × AV)} {m : Mem} {a : Act} (h : Sim D B E ⟨nt, tm, m⟩ a.tmps) {t : Nat} {parts : Array (Nat × Operand)} {K : AV → Prop} (hk : wBuild D tm t parts.toList K) :
    ∃ v r, K v ∧ Rep E (shsOf m.bx) v r ∧ (Instr.build t (parts.map fun (i, x) => (i, a.eval x))).run P E.w = .ok r E.w := by
  unfold wBuild at hk
  split at hk
  · rename_i fs sh by_ zs ht
    obtain ⟨vs, hk, hp⟩ := evalP_ok hT h _ _ hk
    obtain ⟨dd, i, z, h1, h2, h3, _, h4, h5, h6, h7, h8⟩ := (hT t _ ht).fact
    obtain ⟨fields, shs, rfl, g1, g2, g3, g4⟩ := h4
    obtain ⟨cs, rfl, ps, hz, hc⟩ := h8 E (shsOf m.bx)
    simp only [AV.shape] at h6
    have h6' : AV.shapes zs = shs := by
      have := h6.trans g1
      simpa using this
    have hmap : ∀ w, (fields.mapM fun f => do pure (f.offset, ← sizeOf f.type) : Sem (Array (Nat × Nat))).run P w = .ok (fields.map fun f => (f.offset, P.cellsOf f.type)) w := by
      intro w
      have := run_sizes (P := P) fields.toList (fun f hf => by
        obtain ⟨i, hi, rfl⟩ := List.getElem_of_mem hf
        obtain ⟨j, e1, _⟩ := g4 i fields[i] (Array.getElem?_eq_getElem (by simpa using hi))
        obtain ⟨_, i2, _, _, q2, _⟩ := (hT _ _ e1).fact
        exact ⟨i2, by simpa using q2⟩) w
      simp [Array.mapM_eq_mapM_toList, this]
      apply Array.ext'
      simp
    have hplace : ∀ i s, (AV.shapes zs)[i]? = some s → (fields.map fun f => (f.offset, P.cellsOf f.type))[i]? = some (Shape.sizes ((AV.shapes zs).take i), s.size) := by
      intro i s hs
      rw [h6'] at hs ⊢
      have hf : i < fields.size := by rw [g2]; exact (List.getElem?_eq_some_iff.1 hs).1
      obtain ⟨j, e1, _, e3, e4, _⟩ := g4 i fields[i] (Array.getElem?_eq_getElem hf)
      obtain ⟨_, i2, _, _, q2, q3, _⟩ := (hT _ _ e1).fact
      rw [hs] at e3
      simp only [Option.some.injEq] at e3
      simp [Array.getElem?_eq_getElem hf, e4, Program.cellsOf, q2, q3, e3]
    obtain ⟨xs, cells', ps', k1, k2, k3, k4, k5⟩ := fillF_ok (place := fun i => (fields.map fun f => (f.offset, P.cellsOf f.type))[i]?) hk hp hz hc hplace
    refine ⟨_, _, k1, ⟨cells', rfl, ps', k3, k4⟩, ?_⟩
    have k2' : Instr.fill (fun i => (fields.map fun f => (f.offset, P.cellsOf f.type))[i]?) cs (parts.map fun (i, x) => (i, a.eval x)).toList = some cells' := by rw [Array.toList_map]; exact k2
    simp only [Instr.build, Sem.run_bind, run_zeroValue' h2 h5, Result.andThen_ok, run_underlying' h1, hmap]
    simp only [Value.cells, k2', Sem.run_pure]
  · rename_i n0 e sh by_ n sh' zs ht
    obtain ⟨vs, hk, hp⟩ := evalP_ok hT h _ _ hk
    obtain ⟨dd, i, z, h1, h2, h3, _, h4, h5, h6, h7, h8⟩ := (hT t _ ht).fact
    obtain ⟨rfl, j, hj, g1⟩ := h4
    obtain ⟨cs, rfl, l1, l2, ps, hz, hc⟩ := h8 E (shsOf m.bx)
    obtain ⟨_, i2, _, _, q2, q3, _⟩ := (hT e _ hj).fact
    simp only [AV.shape] at h6
    have h6' : n = n0 ∧ sh' = j.sh := by
      have := h6.trans g1
      simpa using this
    obtain ⟨rfl, rfl⟩ := h6'
    cases hsp : sndPure vs with
    | false => simp [hsp] at hk
    | true =>
      simp only [hsp] at hk
      obtain ⟨xs, cells', ps', k1, k2, k3, k4, k5, k6⟩ := fill_items hk hsp l2 hp ((IRs_pure zs ps (pures_all l2)).2 hz) hc
      refine ⟨_, _, k1, ⟨cells', rfl, by omega, k5, ps', (IRs_pure xs ps' (pures_all k5)).1 k3, k4⟩, ?_⟩
      have k2' : Instr.fill (fun i => some (i * i2.size, i2.size)) cs (parts.map fun (i, x) => (i, a.eval x)).toList = some cells' := by rw [Array.toList_map, q3]; exact k2
      simp only [Instr.build, Sem.run_bind, run_zeroValue' h2 h5, Result.andThen_ok, run_underlying' h1, run_sizeOf' q2]
      simp only [Value.cells, k2', Sem.run_pure]
  · exact hk.elim
end
end Go.WL
namespace Go.WL
section
variable {P : Program} {D : Tabs} {B : Base}

theorem PRs_E {E : Env} {xs : List AV} {ps : List (List Value)} (h : PRs E.w E.lim xs ps) {E' : Env} (e : Ext E.w E.lim E'.w E'.lim) : PRs E'.w E'.lim xs ps := PRs_ext e xs ps h

/-- A row laid anew: what it reads. -/
theorem new_row {E : Env} {nt : Nat} {tm : List (Nat × AV)} {m : Mem} {tmps : Array Value} (h : Sim D B E ⟨nt, tm, m⟩ tmps) {xs : List AV} {ps : List (List Value)} {cells : Array Value} {ty : TypeId} {fz : Nat × Nat} {k : Nat} (hp : PRs E.w E.lim xs ps) (hc : cells.toList.take ps.flatten.length = ps.flatten) (hk : ps.flatten.length ≤ k) :
    PRs (E.alloc cells ty fz k).w (E.alloc cells ty fz k).lim xs ps ∧ Lies (E.alloc cells ty fz k).w (E.alloc cells ty fz k).lim ⟨E.w.heap.size, 0, none⟩ ps.flatten := by
  have e := lim_alloc h.m cells ty fz k
  refine ⟨PRs_E hp e, rfl, fun i u hu => ?_, fun _ => ?_⟩
  · have hi := (List.getElem?_eq_some_iff.1 hu).1
    show (E.alloc cells ty fz k).w.cell? ⟨E.w.heap.size, 0 + i, none⟩ = _
    rw [cell_of Env.alloc_new, Nat.zero_add, ← Array.getElem?_toList, ← hu, ← hc, List.getElem?_take, if_pos hi]
  · simp only [Env.alloc_limN]; omega

theorem buildSlice_ok (hT : TabOK P D) {E : Env} {nt : Nat} {tm : List (Nat × AV)} {m : Mem} {a : Act} (h : Sim D B E ⟨nt, tm, m⟩ a.tmps) {t n : Nat} {parts : Array (Nat × Operand)} {e : Nat} {sh : Shape} {z : AV} {k : TK} {by_ : Nat} {K : List AV → Prop} (he : lookT D.ty e = some ⟨k, sh, by_, z⟩) (ht : P.underlying t = some (.slice e)) (hn : n * sh.size ≤ 16777216)
    {vs : List (Nat × AV)} (hp : PartsRep E (shsOf m.bx) vs (parts.toList.map fun (i, x) => (i, a.eval x))) (hsp : sndPure vs = true) (hk : fillF (List.replicate n z) vs K) :
    ∃ xs cells, K xs ∧ (∀ fz, Sim D B (E.alloc cells e fz cells.size) ⟨nt, tm, m⟩ a.tmps ∧ ∀ mk, (∀ r, mk ≠ .own r) → Rep (E.alloc cells e fz cells.size) (shsOf m.bx) (.sl sh xs mk) (.slice (some ⟨E.w.heap.size, 0, none⟩) n n)) ∧
      (Instr.buildSlice t n (parts.map fun (i, x) => (i, a.eval x))).run P E.w = .ok (.slice (some ⟨E.w.heap.size, 0, none⟩) n n) (E.alloc cells e (0, 0) cells.size).w := by
  obtain ⟨d, i, zv, h1, h2, h3, h4, h5, h6, h7, h8, h9⟩ := (hT e _ he).fact
  simp only at h7 h8 h3
  have hz0 := rep0_cells (h9 E (shsOf m.bx))
  simp only at hz0
  have lz := IR_len z _ hz0
  rw [h7] at lz
  have hall : allSh sh (List.replicate n z) := fun x hx => by rw [(List.mem_replicate.1 hx).2]; exact ⟨h7, h8⟩
  have hcells : ((Array.range (n * sh.size)).map ((if n * sh.size = 0 then #[] else zv.cells)[· % (if n * sh.size = 0 then #[] else zv.cells).size]!)).toList = (List.replicate n zv.cells.toList).flatten := by
    by_cases h0 : n * sh.size = 0
    · have : (List.replicate n zv.cells.toList).flatten = [] := by
        apply List.eq_nil_of_length_eq_zero
        have := IRs_len _ _ (IRs_replicate hz0 n)
        rw [this, shapes_replicate, sizes_replicate, h7, h0]
      rw [this, h0]
      simp
    · have hs : zv.cells.size = sh.size := by rw [← lz]; simp
      rw [if_neg h0, ← hs]
      exact flat_rep
  obtain ⟨xs, cells', ps', k1, k2, k3, k4, k5, k6⟩ := fill_items (s := sh) hk hsp hall hp (IRs_replicate hz0 n) hcells
  have k3' := (IRs_pure xs ps' (pures_all k5)).1 k3
  have hlen : ps'.flatten.length = cells'.size := by rw [← k4]; simp
  have hn' : xs.length = n := by rw [k6]; simp
  refine ⟨xs, cells', k1, fun fz => ⟨h.alloc cells' e fz _ (Nat.le_refl _), fun mk hmk => ?_⟩, ?_⟩
  · obtain ⟨q1, q2⟩ := new_row (ty := e) (fz := fz) (k := cells'.size) h k3' (by rw [k4, List.take_of_length_le (Nat.le_refl _)]) (by omega)
    exact ⟨⟨_, n, by rw [hn'], by omega, fun _ => hn'.symm, k5, by simp, .inr ⟨_, ps', rfl, q1, q2⟩⟩, fun r hr => absurd hr (hmk r)⟩
  · have k2' : Instr.fill (fun i => some (i * sh.size, sh.size)) ((Array.range (n * sh.size)).map ((if n * sh.size = 0 then #[] else zv.cells)[· % (if n * sh.size = 0 then #[] else zv.cells).size]!)) (parts.map fun x => (x.1, a.eval x.2)).toList = some cells' := by rw [Array.toList_map]; exact k2
    have hcond : ¬ (n * sh.size > 2 ^ 24) := by omega
    simp only [Instr.buildSlice, Sem.run_bind, run_underlying' ht, Result.andThen_ok, run_sizeOf' h2, h3]
    rw [Sem.run_ite, if_neg hcond]
    by_cases h0 : n * sh.size = 0
    · rw [if_pos h0] at k2'
      rw [Sem.run_ite, if_pos h0]
      simp only [Sem.run_bind, Sem.run_pure, Result.andThen_ok, k2', newRow, run_newObj]
      rfl
    · rw [if_neg h0] at k2'
      rw [Sem.run_ite, if_neg h0]
      simp only [Sem.run_bind, run_zeroValue' h2 h6, Sem.run_pure, Result.andThen_ok, k2', newRow, run_newObj]
      rfl

theorem newbox_ok {E : Env} {nt : Nat} {tm : List (Nat × AV)} {bx : List (AV × Bool)} {lv : List Nat} {nx : Nat} {tmps : Array Value} (h : Sim D B E ⟨nt, tm, ⟨bx, lv, nx⟩⟩ tmps) {c : AV} {cells : Array Value} (ty : TypeId) (hc : IR E (shsOf bx) c cells.toList) :
    ∃ E', Sim D B E' ⟨nt, tm, ⟨bx ++ [(c, false)], lv, nx⟩⟩ tmps ∧ E'.w = { E.w with heap := E.w.heap.push (.cells cells ty) } ∧ E'.bx[bx.length]? = some E.w.heap.size := by
  have h1 := h.alloc cells ty (0, 0) 0 (Nat.zero_le _)
  have hnc : E.w.heap.size ∉ claims (E.alloc cells ty (0, 0) 0) lv := by
    intro hm
    have := (h.m.lt (show E.w.heap.size ∈ claims E lv from hm)).lt
    omega
  have h2 := h1.box (c := c) Env.alloc_new (.inr (Nat.le_refl _)) Env.alloc_limN ((tra_alloc h.m cells ty (0, 0) 0).ir hc) hnc h.fb.size
  refine ⟨_, h2, rfl, ?_⟩
  have hbl : E.bx.length = bx.length := h.m.bxl
  simp only [Env.box, Env.alloc]
  rw [← hbl]
  simp

theorem alloc_ok (hT : TabOK P D) {E : Env} {nt : Nat} {tm : List (Nat × AV)} {bx : List (AV × Bool)} {lv : List Nat} {nx : Nat} {tmps : Array Value} (h : Sim D B E ⟨nt, tm, ⟨bx, lv, nx⟩⟩ tmps) {e : Nat} {ti : TI} (he : lookT D.ty e = some ti) :
    ∃ E' r, Sim D B E' ⟨nt, tm, ⟨bx ++ [(ti.zero, false)], lv, nx⟩⟩ tmps ∧ Rep E' (shsOf (bx ++ [(ti.zero, false)])) (.pt bx.length []) r ∧ (Instr.alloc e true (.tuple #[])).run P E.w = .ok r E'.w := by
  obtain ⟨d, i, zv, h1, h2, h3, h4, h5, h6, h7, h8, h9⟩ := (hT e _ he).fact
  obtain ⟨E', g1, g2, g3⟩ := newbox_ok h e (rep0_cells (h9 E (shsOf bx)))
  refine ⟨E', _, g1, ⟨_, ti.zero.shape, 0, g3, by simp [shsOf], by cases ti.zero.shape <;> rfl, rfl⟩, ?_⟩
  simp [Instr.alloc, run_zeroValue' h2 h6, newVar, newRow, g2]
theorem box_ok {E : Env} {nt : Nat} {tm : List (Nat × AV)} {bx : List (AV × Bool)} {lv : List Nat} {nx : Nat} {tmps : Array Value} (h : Sim D B E ⟨nt, tm, ⟨bx, lv, nx⟩⟩ tmps) (e : Nat) {v : AV} {u : Value} (hv : Rep0 E (shsOf bx) v u) :
    ∃ E' r, Sim D B E' ⟨nt, tm, ⟨bx ++ [(v, false)], lv, nx⟩⟩ tmps ∧ Rep E' (shsOf (bx ++ [(v, false)])) (.pt bx.length []) r ∧ (Instr.box e u).run P E.w = .ok r E'.w := by
  obtain ⟨E', g1, g2, g3⟩ := newbox_ok h e (rep0_cells hv)
  refine ⟨E', _, g1, ⟨_, v.shape, 0, g3, by simp [shsOf], by cases v.shape <;> rfl, rfl⟩, ?_⟩
  simp [Instr.box, newVar, newRow, g2]

theorem makeSlice_ok (hT : TabOK P D) {E : Env} {nt : Nat} {tm : List (Nat × AV)} {bx : List (AV × Bool)} {lv : List Nat} {nx : Nat} {tmps : Array Value} (h : Sim D B E ⟨nt, tm, ⟨bx, lv, nx⟩⟩ tmps) {t e : Nat} {sh : Shape} {z : AV} {k : TK} {by_ : Nat} (he : lookT D.ty e = some ⟨k, sh, by_, z⟩) (ht : P.underlying t = some (.slice e)) (hb : by_ ≤ 4096)
    {k1 k2 : IntKind} {n c : Int} (h0 : 0 ≤ n) (hnc : n ≤ c) (hc : c < 4294967296) :
    ∃ E' r, Sim D B E' ⟨nt, tm, ⟨bx ++ [(.ar c.toNat sh (List.replicate c.toNat z), false)], lv, nx⟩⟩ tmps ∧ Rep E' (shsOf (bx ++ [(.ar c.toNat sh (List.replicate c.toNat z), false)])) (.bs bx.length [] sh 0 n.toNat c.toNat) r ∧ (Instr.makeSlice t (.int k1 n) (.int k2 c)).run P E.w = .ok r E'.w := by
  obtain ⟨d, i, zv, h1, h2, h3, h4, h5, h6, h7, h8, h9⟩ := (hT e _ he).fact
  simp only at h7 h8 h3 h4
  have hz0 := rep0_cells (h9 E (shsOf bx))
  simp only at hz0
  have lz := IR_len z _ hz0
  rw [h7] at lz
  have hall : allSh sh (List.replicate c.toNat z) := fun x hx => by rw [(List.mem_replicate.1 hx).2]; exact ⟨h7, h8⟩
  have hcells : ((Array.range (c.toNat * sh.size)).map ((if c.toNat * sh.size = 0 then #[] else zv.cells)[· % (if c.toNat * sh.size = 0 then #[] else zv.cells).size]!)).toList = (List.replicate c.toNat zv.cells.toList).flatten := by
    by_cases h0 : c.toNat * sh.size = 0
    · have : (List.replicate c.toNat zv.cells.toList).flatten = [] := by
        apply List.eq_nil_of_length_eq_zero
        have := IRs_len _ _ (IRs_replicate hz0 c.toNat)
        rw [this, shapes_replicate, sizes_replicate, h7, h0]
      rw [this, h0]
      simp
    · have hs : zv.cells.size = sh.size := by rw [← lz]; simp
      rw [if_neg h0, ← hs]
      exact flat_rep
  have hir : IR E (shsOf bx) (.ar c.toNat sh (List.replicate c.toNat z)) ((Array.range (c.toNat * sh.size)).map ((if c.toNat * sh.size = 0 then #[] else zv.cells)[· % (if c.toNat * sh.size = 0 then #[] else zv.cells).size]!)).toList := by
    rw [hcells]
    exact ⟨by simp, hall, _, (IRs_pure _ _ (pures_all hall)).1 (IRs_replicate hz0 c.toNat), rfl⟩
  obtain ⟨E', g1, g2, g3⟩ := newbox_ok h e hir
  refine ⟨E', .slice (some ⟨E.w.heap.size, 0, none⟩) n.toNat c.toNat, g1, ⟨_, .ar c.toNat sh, 0, c.toNat, 0, g3, by simp [shsOf, AV.shape], rfl, rfl, by omega, by omega, fun _ => by simp, rfl⟩, ?_⟩
  have w1 : IntKind.i64.wrap n = n := by
    simp only [IntKind.wrap, IntKind.signed, IntKind.bits]
    have : n % (2 ^ 64 : Int) = n := Int.emod_eq_of_lt h0 (by omega)
    simp only [this]
    rw [if_neg]
    simp; omega
  have w2 : IntKind.i64.wrap c = c := by
    simp only [IntKind.wrap, IntKind.signed, IntKind.bits]
    have : c % (2 ^ 64 : Int) = c := Int.emod_eq_of_lt (by omega) (by omega)
    simp only [this]
    rw [if_neg]
    simp; omega
  have hbc : (i.bytes : Int) * c ≤ 2 ^ 48 := by
    rw [h4]
    have h5 : (by_ : Int) * c ≤ 4096 * c := Int.mul_le_mul_of_nonneg_right (by omega) (by omega)
    omega
  have hcond : ((decide (c < 0) || decide ((i.bytes : Int) * c > 2 ^ 48)) || decide (n < 0) || decide (n > c)) = false := by
    simp only [Bool.or_eq_false_iff, decide_eq_false_iff_not]
    refine ⟨⟨⟨by omega, by omega⟩, by omega⟩, by omega⟩
  unfold Instr.makeSlice
  simp only [Sem.run_bind, run_underlying' ht, Result.andThen_ok, asInt, asIntOf, Sem.run_pure, run_typeInfo' h2, w1, w2, hcond, Bool.false_eq_true, if_false, run_askRoom, run_sizeOf' h2, h3]
  by_cases hz : c.toNat * sh.size = 0
  · rw [if_pos hz] at g2
    simp only [hz, if_true, Sem.run_pure, Result.andThen_ok, newRow, Sem.run_bind, run_newObj, g2]
  · rw [if_neg hz] at g2
    simp only [hz, if_false, Sem.run_bind, run_zeroValue' h2 h6, Sem.run_pure, Result.andThen_ok, newRow, run_newObj, g2]
end
end Go.WL
