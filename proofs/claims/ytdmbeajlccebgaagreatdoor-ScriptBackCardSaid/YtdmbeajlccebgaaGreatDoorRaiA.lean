/- Shapes, places and steps of Go's functions over plain data. -/
import Derived.WalkKit
/- The denotation of Go code by shapes: what a function's code comes to, as a plain function of typed data. Definitions alone. -/
set_option linter.unusedVariables false
namespace Go.Rai

/-- What is known of a value ahead of running: its form. -/
inductive Sh where
  | undef | int (k : IntKind) | bool | str | unit
  | pair (a b : Sh)            -- cells of a struct, one by one, down to 'unit'
  | slice (a : Sh)             -- a slice that is only read
  | lit (a : Sh)               -- a slice that is full: its capacity is its length
  | nil                        -- the nil slice
  | ref (l : Nat) (a : Sh)     -- a slice: all of the array at place l
  | ptr (l : Nat) (off : Nat)  -- a pointer to cell off of the variable at place l
  | elt (l : Nat) (a : Sh) (off : Nat)   -- a pointer to cell off of an element of the array at place l
  | adr (a : Sh)               -- a pointer to memory that is only read
  | fn (f : Nat) (cap : Sh)    -- a function, and what it captured
  | tup (a b : Sh)             -- results, one by one, down to 'unit'
  | itf                       -- an interface's value: is there any?
  | pnil                      -- the nil pointer
  | opt (a : Sh)              -- a pointer to memory that is only read, or nil
  deriving DecidableEq

@[reducible] def Sh.D : Sh → Type
  | .int _ => Int
  | .bool => Bool
  | .str => List UInt8
  | .pair a b => a.D × b.D
  | .tup a b => a.D × b.D
  | .slice a => List a.D
  | .lit a => List a.D
  | .elt _ _ _ => Int
  | .adr a => a.D
  | .fn _ c => c.D
  | .itf => Bool
  | .opt a => Option a.D
  | .pnil => Unit
  | .undef => Unit
  | .unit => Unit
  | .nil => Unit
  | .ref _ _ => Unit
  | .ptr _ _ => Unit

def Sh.zero : (s : Sh) → s.D
  | .int _ => (0 : Int)
  | .bool => false
  | .str => ([] : List UInt8)
  | .pair a b => (a.zero, b.zero)
  | .tup a b => (a.zero, b.zero)
  | .slice _ => []
  | .lit _ => []
  | .elt _ _ _ => (0 : Int)
  | .adr a => a.zero
  | .fn _ c => c.zero
  | .itf => false
  | .opt _ => none
  | .pnil => ()
  | .undef => () | .unit => () | .nil => () | .ref _ _ => () | .ptr _ _ => ()

structure SV where
  s : Sh
  d : s.D
abbrev SV.undef : SV := ⟨.undef, ()⟩

/-- A variable, or an array, in memory of the call's own. -/
inductive Ob where
  | box (s : Sh) (d : s.D)
  | arr (e : Nat) (a : Sh) (d : List a.D)
inductive OSh where
  | box (s : Sh)
  | arr (e : Nat) (a : Sh)
@[reducible] def OSh.D : OSh → Type
  | .box s => s.D
  | .arr _ a => List a.D

structure St where
  slots : Nat → SV
  objs : Nat → Option Ob
  next : Nat
  lockS : Nat → Bool
  lockO : Nat → Bool

def upd {α : Type} (f : Nat → α) (k : Nat) (v : α) : Nat → α := fun i => bif Nat.beq i k then v else f i

/-- how many cells -/
def Sh.cells : Sh → Nat
  | .unit => 0
  | .pair _ b => b.cells + 1
  | _ => 1

/-- One type of the program, as far as it is needed. -/
inductive TK where
  | cell (s : Sh)
  | struct (s : Sh) (offs : List Nat) (szs : List Nat) (eq : Bool)
  | slice (e : Nat) (a : Sh)
  | arr (n e sz : Nat) (s : Sh)   -- n elements of type e, each of sz cells
abbrev TT := Nat → Option TK

def TK.canon : TK → Sh
  | .cell s => s
  | .struct s _ _ _ => s
  | .slice _ a => .slice a
  | .arr _ _ _ s => s

/-- the zero value: slices are nil -/
def fresh : Sh → SV
  | .slice _ => ⟨.nil, ()⟩
  | .opt _ => ⟨.pnil, ()⟩
  | .pair a b => ⟨.pair (fresh a).s (fresh b).s, ((fresh a).d, (fresh b).d)⟩
  | s => ⟨s, s.zero⟩

def dropC : Nat → SV → Option SV
  | 0, v => some v
  | n + 1, ⟨.pair _ b, d⟩ => dropC n ⟨b, d.2⟩
  | _, _ => none
def takeC : Nat → SV → Option SV
  | 0, _ => some ⟨.unit, ()⟩
  | n + 1, ⟨.pair a b, d⟩ => match takeC n ⟨b, d.2⟩ with
    | some r => some ⟨.pair a r.s, (d.1, r.d)⟩
    | none => none
  | _, _ => none
def headC : SV → Option SV
  | ⟨.pair a _, d⟩ => some ⟨a, d.1⟩
  | _ => none
/-- cells put over cells -/
def putS : (s : Sh) → s.D → Nat → SV → Option SV
  | .pair a b, d, n + 1, v => match putS b d.2 n v with
    | some r => some ⟨.pair a r.s, (d.1, r.d)⟩
    | none => none
  | .pair _ b, d, 0, ⟨.pair a' b', d'⟩ => match putS b d.2 0 ⟨b', d'.2⟩ with
    | some r => some ⟨.pair a' r.s, (d'.1, r.d)⟩
    | none => none
  | s, d, 0, ⟨.unit, _⟩ => some ⟨s, d⟩
  | _, _, _, _ => none
termination_by structural s => s
def putC (n : Nat) (x v : SV) : Option SV := putS x.s x.d n v

/-- may a value be laid into memory? -/
def Sh.boxable : Sh → Bool
  | .undef => false
  | .tup _ _ => false
  | _ => true
/-- one cell? -/
def Sh.single : Sh → Bool
  | .unit => false
  | .pair _ _ => false
  | .tup _ _ => false
  | _ => true
/-- a value as a list of cells -/
def boxOf : SV → SV
  | ⟨.pair a b, d⟩ => ⟨.pair a b, d⟩
  | ⟨.unit, d⟩ => ⟨.unit, d⟩
  | ⟨s, d⟩ => ⟨.pair s .unit, (d, ())⟩
/-- a value that is to be laid into memory, as cells -/
def boxIn (v : SV) : Option SV := bif v.s.boxable then some (boxOf v) else none

/-- the first value of type k among cells -/
def TK.part (k : TK) (v : SV) : Option SV :=
  match k with
  | .struct s _ _ _ => takeC s.cells v
  | .arr _ _ _ s => takeC s.cells v
  | _ => headC v

/-- a value in another form -/
def co : (t : Sh) → SV → Option t.D
  | .undef, ⟨s, _⟩ => bif s.single then some () else none
  | .int k, ⟨.int k', n⟩ => bif k == k' then some n else none
  | .bool, ⟨.bool, b⟩ => some b
  | .str, ⟨.str, b⟩ => some b
  | .unit, ⟨.unit, _⟩ => some ()
  | .nil, ⟨.nil, _⟩ => some ()
  | .itf, ⟨.itf, b⟩ => some b
  | .pnil, ⟨.pnil, _⟩ => some ()
  | .opt _, ⟨.pnil, _⟩ => some none
  | .opt a, ⟨.adr b, x⟩ => if h : b = a then some (some (cast (congrArg Sh.D h) x)) else none
  | .opt a, ⟨.opt b, x⟩ => if h : b = a then some (cast (congrArg (fun s => Option (Sh.D s)) h) x) else none
  | .pair a b, ⟨.pair a' b', d⟩ => match co a ⟨a', d.1⟩, co b ⟨b', d.2⟩ with
    | some x, some y => some (x, y)
    | _, _ => none
  | .tup a b, ⟨.tup a' b', d⟩ => match co a ⟨a', d.1⟩, co b ⟨b', d.2⟩ with
    | some x, some y => some (x, y)
    | _, _ => none
  | .slice a, ⟨.slice b, xs⟩ => if h : b = a then some (cast (congrArg (fun s => List (Sh.D s)) h) xs) else none
  | .slice a, ⟨.lit b, xs⟩ => if h : b = a then some (cast (congrArg (fun s => List (Sh.D s)) h) xs) else none
  | .lit a, ⟨.lit b, xs⟩ => if h : b = a then some (cast (congrArg (fun s => List (Sh.D s)) h) xs) else none
  | .slice _, ⟨.nil, _⟩ => some []
  | .lit _, ⟨.nil, _⟩ => some []
  | .adr a, ⟨.adr b, x⟩ => if h : b = a then some (cast (congrArg (fun s => Sh.D (.adr s)) h) x) else none
  | .ref _ a, ⟨.ref _ b, _⟩ => if b = a then some () else none
  | .ref _ _, ⟨.nil, _⟩ => some ()
  | .ptr _ o, ⟨.ptr _ o', _⟩ => bif Nat.beq o o' then some () else none
  | .elt _ a o, ⟨.elt _ b o', i⟩ => if b = a ∧ o' = o then some i else none
  | .fn f c, ⟨.fn g c', d⟩ => bif Nat.beq f g then co c ⟨c', d⟩ else none
  | _, _ => none

/-- which place of the template a place is -/
def Sh.mat : Sh → Sh → List (Nat × Option Nat)
  | .ref l _, .ref x _ => [(l, some x)]
  | .ref l _, .nil => [(l, none)]
  | .ptr l _, .ptr x _ => [(l, some x)]
  | .elt l _ _, .elt x _ _ => [(l, some x)]
  | .pair a b, .pair c d => a.mat c ++ b.mat d
  | .tup a b, .tup c d => a.mat c ++ b.mat d
  | .fn _ a, .fn _ b => a.mat b
  | _, _ => []

def geti {α : Type} (xs : List α) (i : Int) : Option α := bif decide (0 ≤ i) then xs[i.toNat]? else none
/-- lengths that are let -/
def LIM : Nat := 2147483648
abbrev w64 (n : Int) : Int := IntKind.i64.wrap n
def bytesOf (xs : List Int) : List UInt8 := xs.map fun n => UInt8.ofNat n.toNat

def cval : Value → SV
  | .int k n => ⟨.int k, n⟩
  | .bool b => ⟨.bool, b⟩
  | .string s => ⟨.str, s.data.toList⟩
  | .slice none 0 0 => ⟨.nil, ()⟩
  | .nilIface => ⟨.itf, false⟩
  | .pointer none => ⟨.pnil, ()⟩
  | _ => .undef
def evalO (sl : Nat → SV) : Operand → SV
  | .tmp t => sl t
  | .const v => cval v
  | .func f => ⟨.fn f .unit, ()⟩
  | .global _ => .undef

/-- two numbers -/
def binInt {R : Type} (op : BinOp) (k : IntKind) (a b : Int) (K : SV → Option R) : Option R :=
  match op with
  | .add => K ⟨.int k, k.wrap (a + b)⟩
  | .sub => K ⟨.int k, k.wrap (a - b)⟩
  | .mul => K ⟨.int k, k.wrap (a * b)⟩
  | .quo => bif b == 0 then none else K ⟨.int k, k.wrap (a.tdiv b)⟩
  | .rem => bif b == 0 then none else K ⟨.int k, a.tmod b⟩
  | .eql => K ⟨.bool, a == b⟩
  | .neq => K ⟨.bool, a != b⟩
  | .lss => K ⟨.bool, decide (a < b)⟩
  | .leq => K ⟨.bool, decide (a ≤ b)⟩
  | .gtr => K ⟨.bool, decide (a > b)⟩
  | .geq => K ⟨.bool, decide (a ≥ b)⟩
  | _ => none
/-- two texts -/
def binStr {R : Type} (op : BinOp) (a b : List UInt8) (K : SV → Option R) : Option R :=
  match op with
  | .add => bif decide (a.length + b.length ≤ LIM) then K ⟨.str, a ++ b⟩ else none
  | .eql => K ⟨.bool, a == b⟩
  | .neq => K ⟨.bool, !(a == b)⟩
  | _ => none
/-- are cells of two values the same? -/
def eqS : (s : Sh) → s.D → s.D → Option Bool
  | .int _, a, b => some (a == b)
  | .bool, a, b => some (a == b)
  | .str, a, b => some (a == b)
  | .unit, _, _ => some true
  | .pair s t, a, b => match eqS s a.1 b.1, eqS t a.2 b.2 with
    | some x, some y => some (x && y)
    | _, _ => none
  | _, _, _ => none

/-- the elements that are put into a literal of a slice, in order, none left out -/
def litParts (a : Sh) (ρ : Operand → SV) : Nat → List (Nat × Operand) → Option (List a.D)
  | _, [] => some []
  | i, p :: r => bif Nat.beq p.1 i then (match co a (ρ p.2), litParts a ρ (i + 1) r with
    | some x, some l => some (x :: l)
    | _, _ => none) else none
/-- a type's own form: it names no place -/
def Sh.pure : Sh → Bool
  | .undef => true
  | .int _ => true
  | .bool => true
  | .str => true
  | .unit => true
  | .pair a b => a.pure && b.pure
  | .slice a => a.pure
  | .itf => true
  | .opt a => a.pure
  | _ => false
def Sh.noRefs : Sh → Bool
  | .ref _ _ => false
  | .ptr _ _ => false
  | .elt _ _ _ => false
  | .pair a b => a.noRefs && b.noRefs
  | .tup a b => a.noRefs && b.noRefs
  | .fn _ c => c.noRefs
  | _ => true

/-- a struct's parts put into its zero value -/
def buildParts (offs szs : List Nat) (ρ : Operand → SV) : List (Nat × Operand) → SV → Option SV
  | [], v => some v
  | p :: r, v => match offs[p.1]?, szs[p.1]?, boxIn (ρ p.2) with
    | some q, some n, some x => bif Nat.beq x.s.cells n then (match putC q v x with
      | some v' => buildParts offs szs ρ r v'
      | none => none) else none
    | _, _, _ => none
def thenC {R : Type} (x : Option SV) (k : SV → Option R) : Option R := match x with | some v => k v | none => none

/-- AN OPERATION THAT LEAVES WHAT IS THERE ALONE: its value, and the memory that it makes at place 'new'. -/
def act {R : Type} (tt : TT) (ρ : Operand → SV) (rd : Nat → Option Ob) (new : Nat) (o : Oper) (k : SV → Option Ob → Option R) : Option R :=
  match o.op with
  | .move x => k (ρ x) none
  | .assign x => k (ρ x) none
  | .box t x => match tt t with
    | some _ => thenC (boxIn (ρ x)) fun v => k ⟨.ptr new 0, ()⟩ (some (.box v.s v.d))
    | none => none
  | .alloc t => match tt t with
    | some (.struct s _ _ _) => k ⟨.ptr new 0, ()⟩ (some (.box (boxOf (fresh s)).s (boxOf (fresh s)).d))
    | some (.cell s) => k ⟨.ptr new 0, ()⟩ (some (.box (boxOf (fresh s)).s (boxOf (fresh s)).d))
    | some (.slice _ _) => k ⟨.ptr new 0, ()⟩ (some (.box (.pair .nil .unit) ((), ())))
    | some (.arr _ _ _ s) => k ⟨.ptr new 0, ()⟩ (some (.box (boxOf (fresh s)).s (boxOf (fresh s)).d))
    | none => none
  | .fieldAddr t x f => match tt t with
    | some (.struct _ offs _ _) => match offs[f]?, ρ x with
      | some q, ⟨.ptr l o, _⟩ => k ⟨.ptr l (o + q), ()⟩ none
      | some q, ⟨.adr a, d⟩ => thenC (dropC q ⟨a, d⟩) fun r => k ⟨.adr r.s, r.d⟩ none
      | some q, ⟨.opt a, d⟩ => d.bind fun y => thenC (dropC q ⟨a, y⟩) fun r => k ⟨.adr r.s, r.d⟩ none
      | some q, ⟨.elt l a o, i⟩ => k ⟨.elt l a (o + q), i⟩ none
      | _, _ => none
    | _ => none
  | .load t x => match tt t with
    | none => none
    | some q => match ρ x with
      | ⟨.ptr l o, _⟩ => match rd l with
        | some (.box s d) => thenC (dropC o ⟨s, d⟩) fun r => thenC (q.part r) fun v => k v none
        | _ => none
      | ⟨.adr a, d⟩ => thenC (q.part ⟨a, d⟩) fun v => k v none
      | ⟨.opt a, d⟩ => d.bind fun y => thenC (q.part ⟨a, y⟩) fun v => k v none
      | ⟨.elt l a o, i⟩ => match rd l with
        | some (.arr _ b xs) => if h : b = a then (geti xs i).bind fun y => thenC (dropC o (boxOf ⟨b, y⟩)) fun r => thenC (q.part r) fun v => k v none else none
        | _ => none
      | _ => none
  | .indexAddr t x i => match tt t with
    | some (.slice _ a) => match ρ x, ρ i with
      | ⟨.slice b, xs⟩, ⟨.int .i64, i⟩ => if b = a then (geti xs i).bind fun y => k ⟨.adr (boxOf ⟨b, y⟩).s, (boxOf ⟨b, y⟩).d⟩ none else none
      | ⟨.lit b, xs⟩, ⟨.int .i64, i⟩ => if b = a then (geti xs i).bind fun y => k ⟨.adr (boxOf ⟨b, y⟩).s, (boxOf ⟨b, y⟩).d⟩ none else none
      | ⟨.ref l b, _⟩, ⟨.int .i64, i⟩ => match rd l with
        | some (.arr _ c xs) => if c = b ∧ b = a then (bif decide (0 ≤ i ∧ i < xs.length) then k ⟨.elt l a 0, i⟩ none else none) else none
        | _ => none
      | _, _ => none
    | some (.arr n _ sz _) => match ρ x, ρ i with
      | ⟨.ptr l o, _⟩, ⟨.int .i64, i⟩ => bif decide (0 ≤ i ∧ i < n) then k ⟨.ptr l (o + i.toNat * sz), ()⟩ none else none
      | _, _ => none
    | _ => none
  | .index t x i => match tt t, ρ x, ρ i with
    | some (.cell .str), ⟨.str, xs⟩, ⟨.int .i64, i⟩ => (geti xs i).bind fun y => k ⟨.int .u8, (y.toNat : Int)⟩ none
    | _, _, _ => none
  | .slice t x lo hi none => match tt t, ρ x with
    | some (.slice _ _), ⟨.nil, _⟩ => match lo, hi.map ρ with
      | none, some ⟨.int .i64, hi⟩ => bif hi == 0 then k ⟨.nil, ()⟩ none else none
      | _, _ => none
    | some (.cell .str), ⟨.str, xs⟩ => match lo.map ρ, hi.map ρ with
      | some ⟨.int .i64, lo⟩, some ⟨.int .i64, hi⟩ => bif decide (0 ≤ lo ∧ lo ≤ hi ∧ hi ≤ xs.length) then k ⟨.str, (xs.take hi.toNat).drop lo.toNat⟩ none else none
      | some ⟨.int .i64, lo⟩, none => bif decide (0 ≤ lo ∧ lo ≤ xs.length) then k ⟨.str, xs.drop lo.toNat⟩ none else none
      | none, some ⟨.int .i64, hi⟩ => bif decide (0 ≤ hi ∧ hi ≤ xs.length) then k ⟨.str, xs.take hi.toNat⟩ none else none
      | _, _ => none
    | some (.slice _ b), ⟨.slice a, xs⟩ => if a = b then (match lo.map ρ, hi.map ρ with
      | some ⟨.int .i64, lo⟩, some ⟨.int .i64, hi⟩ => bif decide (0 ≤ lo ∧ lo ≤ hi ∧ hi ≤ xs.length) then k ⟨.slice a, (xs.take hi.toNat).drop lo.toNat⟩ none else none
      | some ⟨.int .i64, lo⟩, none => bif decide (0 ≤ lo ∧ lo ≤ xs.length) then k ⟨.slice a, xs.drop lo.toNat⟩ none else none
      | none, some ⟨.int .i64, hi⟩ => bif decide (0 ≤ hi ∧ hi ≤ xs.length) then k ⟨.slice a, xs.take hi.toNat⟩ none else none
      | _, _ => none) else none
    | _, _ => none
  | .build t parts => match tt t with
    | some (.struct s offs szs _) => thenC (buildParts offs szs ρ parts.toList (fresh s)) fun v => k v none
    | _ => none
  | .buildSlice t n parts => match tt t with
    | some (.slice _ a) => bif Nat.beq n parts.toList.length && Nat.ble (n * a.cells) 65536 then (match litParts a ρ 0 parts.toList with
      | some l => k ⟨.lit a, l⟩ none
      | none => none) else none
    | _ => none
  | .nilCheck x => match ρ x with
    | ⟨.ptr l o, d⟩ => k ⟨.ptr l o, d⟩ none
    | ⟨.adr a, d⟩ => k ⟨.adr a, d⟩ none
    | ⟨.elt l a o, d⟩ => k ⟨.elt l a o, d⟩ none
    | ⟨.opt a, d⟩ => d.bind fun y => k ⟨.adr a, y⟩ none
    | _ => none
  | .binOp op t x y _ => match ρ x, ρ y with
    | ⟨.int k1, a⟩, ⟨.int k2, b⟩ => bif k1 == k2 then binInt op k1 a b fun v => k v none else none
    | ⟨.str, a⟩, ⟨.str, b⟩ => binStr op a b fun v => k v none
    | ⟨.itf, a⟩, ⟨.itf, _⟩ => match tt t, y with
      | some (.cell .itf), .const .nilIface => match op with
        | .eql => k ⟨.bool, !a⟩ none
        | .neq => k ⟨.bool, a⟩ none
        | _ => none
      | _, _ => none
    | ⟨.opt _, a⟩, ⟨.pnil, _⟩ => match tt t with
      | some (.cell (.opt _)) => match op with
        | .eql => k ⟨.bool, a.isNone⟩ none
        | .neq => k ⟨.bool, a.isSome⟩ none
        | _ => none
      | _ => none
    | ⟨.adr _, _⟩, ⟨.pnil, _⟩ => match tt t with
      | some (.cell (.opt _)) => match op with
        | .eql => k ⟨.bool, false⟩ none
        | .neq => k ⟨.bool, true⟩ none
        | _ => none
      | _ => none
    | ⟨.pnil, _⟩, ⟨.pnil, _⟩ => match tt t with
      | some (.cell (.opt _)) => match op with
        | .eql => k ⟨.bool, true⟩ none
        | .neq => k ⟨.bool, false⟩ none
        | _ => none
      | _ => none
    | ⟨.ptr _ _, _⟩, ⟨.pnil, _⟩ => match tt t with
      | some (.cell (.opt _)) => match op with
        | .eql => k ⟨.bool, false⟩ none
        | .neq => k ⟨.bool, true⟩ none
        | _ => none
      | _ => none
    | ⟨.bool, a⟩, ⟨.bool, b⟩ => match tt t with
      | some (.cell .bool) => match op with
        | .eql => k ⟨.bool, a == b⟩ none
        | .neq => k ⟨.bool, !(a == b)⟩ none
        | _ => none
      | _ => none
    | ⟨.pair a a', d⟩, ⟨.pair b b', e⟩ => match tt t with
      | some (.struct s _ _ true) => if h : Sh.pair a a' = s ∧ Sh.pair b b' = s then (match eqS s (cast (congrArg Sh.D h.1) d) (cast (congrArg Sh.D h.2) e), op with
          | some q, .eql => k ⟨.bool, q⟩ none
          | some q, .neq => k ⟨.bool, !q⟩ none
          | _, _ => none) else none
      | _ => none
    | _, _ => none
  | .unOp op _ x => match op, ρ x with
    | .not, ⟨.bool, b⟩ => k ⟨.bool, !b⟩ none
    | .neg, ⟨.int q, n⟩ => k ⟨.int q, q.wrap (0 - n)⟩ none
    | _, _ => none
  | .pick c x y => match ρ c, ρ x, ρ y with
    | ⟨.bool, b⟩, ⟨.bool, p⟩, ⟨.bool, q⟩ => k ⟨.bool, bif b then p else q⟩ none
    | _, _, _ => none
  | .convert src dst x => match tt src, tt dst, ρ x with
    | some (.cell (.int _)), some (.cell (.int q)), ⟨.int _, n⟩ => k ⟨.int q, q.wrap n⟩ none
    | some (.cell .str), some (.cell .str), ⟨.str, s⟩ => k ⟨.str, s⟩ none
    | some (.slice e (.int .u8)), some (.cell .str), ⟨.lit (.int .u8), xs⟩ => match tt e with
      | some (.cell (.int .u8)) => k ⟨.str, bytesOf xs⟩ none
      | _ => none
    | _, _, _ => none
  | .extract x j => match ρ x, j with
    | ⟨.tup a _, d⟩, 0 => k ⟨a, d.1⟩ none
    | ⟨.tup _ (.tup a _), d⟩, 1 => k ⟨a, d.2.1⟩ none
    | ⟨.tup _ (.tup _ (.tup a _)), d⟩, 2 => k ⟨a, d.2.2.1⟩ none
    | ⟨.tup _ (.tup _ (.tup _ (.tup a _))), d⟩, 3 => k ⟨a, d.2.2.2.1⟩ none
    | _, _ => none
  | .call { callee := .builtin .len, args, argTypes } => match args.toList, argTypes.toList with
    | [x], [t] => match tt t, ρ x with
      | some (.cell .str), ⟨.str, xs⟩ => k ⟨.int .i64, (xs.length : Int)⟩ none
      | some (.slice _ _), ⟨.slice _, xs⟩ => k ⟨.int .i64, (xs.length : Int)⟩ none
      | some (.slice _ _), ⟨.lit _, xs⟩ => k ⟨.int .i64, (xs.length : Int)⟩ none
      | some (.slice _ _), ⟨.nil, _⟩ => k ⟨.int .i64, (0 : Int)⟩ none
      | some (.slice _ _), ⟨.ref l a, _⟩ => match rd l with
        | some (.arr _ _ xs) => k ⟨.int .i64, (xs.length : Int)⟩ none
        | _ => none
      | _, _ => none
    | _, _ => none
  | .call { callee := .builtin .cap, args, argTypes } => match args.toList, argTypes.toList with
    | [x], [t] => match tt t, ρ x with
      | some (.slice _ _), ⟨.lit _, xs⟩ => k ⟨.int .i64, (xs.length : Int)⟩ none
      | some (.slice _ _), ⟨.nil, _⟩ => k ⟨.int .i64, (0 : Int)⟩ none
      | _, _ => none
    | _, _ => none
  | _ => none
end Go.Rai

/- What the forms of values say of memory, and that this is kept where memory is kept. -/
set_option linter.unusedVariables false
set_option linter.unusedSimpArgs false
namespace Go.Rai

/-- Cells at an address. -/
def At (w : World) (ok : Nat → Prop) (ad : Addr) (m : List Value) : Prop := ∀ j v, m[j]? = some v → ok ad.block ∧ w.cell? (ad.add j) = some v
/-- a piece of cells -/
def seg (m : List Value) (i n : Nat) : List Value := (m.drop i).take n

/-- Cells tell the data d of form s. w: the world; ok: blocks that are only read; η: where places are. -/
def C (w : World) (ok : Nat → Prop) (η : Nat → Value) : (s : Sh) → s.D → List Value → Prop
  | .undef, _, cs => ∃ v, cs = [v] ∧ v.oneCell' = true
  | .int k, n, cs => cs = [.int k n]
  | .bool, b, cs => cs = [.bool b]
  | .str, x, cs => cs = [.string ⟨⟨x⟩⟩]
  | .unit, _, cs => cs = []
  | .pair a b, d, cs => a.single = true ∧ ∃ v r, cs = v :: r ∧ C w ok η a d.1 [v] ∧ C w ok η b d.2 r
  | .slice a, xs, cs => ∃ A cap, cs = [.slice A xs.length cap] ∧ (xs.length ≤ cap ∧ (A = none → cap = 0)) ∧ (xs.length = 0 ∨ ∃ ad m, A = some ad ∧ At w ok ad m ∧ m.length = xs.length * a.cells ∧
      ∀ i (h : i < xs.length), C w ok η a xs[i] (seg m (i * a.cells) a.cells))
  | .lit a, xs, cs => ∃ A, cs = [.slice A xs.length xs.length] ∧ (xs.length = 0 ∨ ∃ ad m, A = some ad ∧ At w ok ad m ∧ m.length = xs.length * a.cells ∧
      ∀ i (h : i < xs.length), C w ok η a xs[i] (seg m (i * a.cells) a.cells))
  | .nil, _, cs => cs = [.slice none 0 0]
  | .ref l _, _, cs => cs = [η l] ∧ (η l).oneCell' = true
  | .ptr l off, _, cs => ∃ b, η l = .pointer (some ⟨b, 0, none⟩) ∧ cs = [.pointer (some ⟨b, off, none⟩)]
  | .elt l a off, i, cs => ∃ b n cap, η l = .slice (some ⟨b, 0, none⟩) n cap ∧ cs = [.pointer (some ⟨b, i.toNat * a.cells + off, none⟩)]
  | .adr a, x, cs => ∃ ad m, cs = [.pointer (some ad)] ∧ At w ok ad m ∧ C w ok η a x m
  | .fn f c, d, cs => ∃ caps : Array Value, cs = [.func (.func f) #[] caps] ∧ C w ok η c d caps.toList
  | .tup _ _, _, _ => False
  | .itf, b, cs => (b = false ∧ cs = [.nilIface]) ∨ (b = true ∧ ∃ t v, cs = [.iface t v])
  | .pnil, _, cs => cs = [.pointer none]
  | .opt a, x, cs => (x = none ∧ cs = [.pointer none]) ∨ ∃ y ad m, x = some y ∧ cs = [.pointer (some ad)] ∧ At w ok ad m ∧ C w ok η a y m

/-- a result's parts -/
def CT (w : World) (ok : Nat → Prop) (η : Nat → Value) (V : (s : Sh) → s.D → Value → Prop) : (s : Sh) → s.D → List Value → Prop
  | .tup a b, d, vs => ∃ v r, vs = v :: r ∧ V a d.1 v ∧ CT w ok η V b d.2 r
  | .unit, _, vs => vs = []
  | _, _, _ => False

/-- A value tells the data d of form s. -/
def V1 (w : World) (ok : Nat → Prop) (η : Nat → Value) : (s : Sh) → s.D → Value → Prop
  | .undef, _, _ => True
  | .unit, _, v => v = .agg #[]
  | .pair a b, d, v => ∃ cs : Array Value, v = .agg cs ∧ C w ok η (.pair a b) d cs.toList
  | .tup _ _, _, _ => False
  | s, d, v => C w ok η s d [v]
def V (w : World) (ok : Nat → Prop) (η : Nat → Value) : (s : Sh) → s.D → Value → Prop
  | .tup a b, d, v => ∃ vs : Array Value, v = .tuple vs ∧ CT w ok η (V1 w ok η) (.tup a b) d vs.toList
  | s, d, v => V1 w ok η s d v
abbrev VS (w : World) (ok : Nat → Prop) (η : Nat → Value) (x : SV) (v : Value) : Prop := V w ok η x.s x.d v

/-- all places that a form names are under n -/
def Sh.under (n : Nat) : Sh → Prop
  | .ref l _ => l < n
  | .ptr l _ => l < n
  | .elt l _ _ => l < n
  | .pair a b => a.under n ∧ b.under n
  | .tup a b => a.under n ∧ b.under n
  | .fn _ c => c.under n
  | .slice a => a.under 0
  | .lit a => a.under 0
  | .adr a => a.under 0
  | .opt a => a.under 0
  | _ => True

section basics
variable {w w' : World} {ok ok' : Nat → Prop} {η η' : Nat → Value}

theorem C_length : ∀ {s : Sh} {d : s.D} {cs : List Value}, C w ok η s d cs → cs.length = s.cells
  | .undef, _, _, h => by obtain ⟨v, rfl, _⟩ := h; rfl
  | .int _, _, _, h => by cases h; rfl
  | .bool, _, _, h => by cases h; rfl
  | .str, _, _, h => by cases h; rfl
  | .unit, _, _, h => by cases h; rfl
  | .pair a b, d, _, h => by
    obtain ⟨_, v, r, rfl, _, hb⟩ := h
    have := C_length hb
    simp [Sh.cells, this]
  | .slice a, _, _, h => by obtain ⟨A, cap, rfl, _⟩ := h; rfl
  | .lit a, _, _, h => by obtain ⟨A, rfl, _⟩ := h; rfl
  | .nil, _, _, h => by cases h; rfl
  | .ref _ _, _, _, h => by cases h.1; rfl
  | .ptr _ _, _, _, h => by obtain ⟨b, _, rfl⟩ := h; rfl
  | .elt _ _ _, _, _, h => by obtain ⟨b, n, cap, _, rfl⟩ := h; rfl
  | .adr _, _, _, h => by obtain ⟨ad, m, rfl, _⟩ := h; rfl
  | .fn _ _, _, _, h => by obtain ⟨caps, rfl, _⟩ := h; rfl
  | .tup _ _, _, _, h => h.elim
  | .itf, _, _, h => by rcases h with ⟨_, rfl⟩ | ⟨_, t, v, rfl⟩ <;> rfl
  | .pnil, _, _, h => by cases h; rfl
  | .opt _, _, _, h => by rcases h with ⟨_, rfl⟩ | ⟨y, ad, m, _, rfl, _⟩ <;> rfl

theorem C_one : ∀ {s : Sh} {d : s.D} {cs : List Value}, C w ok η s d cs → ∀ v ∈ cs, v.oneCell' = true
  | .undef, _, _, h => by obtain ⟨v, rfl, h⟩ := h; simpa using h
  | .int _, _, _, h => by cases h; simp [Value.oneCell']
  | .bool, _, _, h => by cases h; simp [Value.oneCell']
  | .str, _, _, h => by cases h; simp [Value.oneCell']
  | .unit, _, _, h => by cases h; simp
  | .pair a b, d, _, h => by
    obtain ⟨_, v, r, rfl, ha, hb⟩ := h
    intro x hx
    rcases List.mem_cons.1 hx with rfl | hx
    · exact C_one ha _ (by simp)
    · exact C_one hb _ hx
  | .slice a, _, _, h => by obtain ⟨A, cap, rfl, _⟩ := h; simp [Value.oneCell']
  | .lit a, _, _, h => by obtain ⟨A, rfl, _⟩ := h; simp [Value.oneCell']
  | .nil, _, _, h => by cases h; simp [Value.oneCell']
  | .ref _ _, _, _, h => by obtain ⟨rfl, h⟩ := h; simpa using h
  | .ptr _ _, _, _, h => by obtain ⟨b, _, rfl⟩ := h; simp [Value.oneCell']
  | .elt _ _ _, _, _, h => by obtain ⟨b, n, cap, _, rfl⟩ := h; simp [Value.oneCell']
  | .adr _, _, _, h => by obtain ⟨ad, m, rfl, _⟩ := h; simp [Value.oneCell']
  | .fn _ _, _, _, h => by obtain ⟨caps, rfl, _⟩ := h; simp [Value.oneCell']
  | .tup _ _, _, _, h => h.elim
  | .itf, _, _, h => by rcases h with ⟨_, rfl⟩ | ⟨_, t, v, rfl⟩ <;> simp [Value.oneCell']
  | .pnil, _, _, h => by cases h; simp [Value.oneCell']
  | .opt _, _, _, h => by rcases h with ⟨_, rfl⟩ | ⟨y, ad, m, _, rfl, _⟩ <;> simp [Value.oneCell']

/-- What is kept: cells of blocks that are only read, and where places are. -/
structure Keeps (w : World) (ok : Nat → Prop) (η : Nat → Value) (w' : World) (ok' : Nat → Prop) (η' : Nat → Value) (n : Nat) : Prop where
  ok : ∀ (a : Addr) v, ok a.block → w.cell? a = some v → ok' a.block ∧ w'.cell? a = some v
  place : ∀ l, l < n → η' l = η l

theorem add_block (ad : Addr) (j : Nat) : (ad.add j).block = ad.block := by unfold Addr.add; split <;> rfl

theorem under_mono : ∀ {s : Sh} {m n : Nat}, m ≤ n → s.under m → s.under n
  | .ref _ _, _, _, h, hs => Nat.lt_of_lt_of_le hs h
  | .ptr _ _, _, _, h, hs => Nat.lt_of_lt_of_le hs h
  | .elt _ _ _, _, _, h, hs => Nat.lt_of_lt_of_le hs h
  | .pair _ _, _, _, h, hs => ⟨under_mono h hs.1, under_mono h hs.2⟩
  | .tup _ _, _, _, h, hs => ⟨under_mono h hs.1, under_mono h hs.2⟩
  | .fn _ c, _, _, h, hs => under_mono (s := c) h hs
  | .slice _, _, _, _, hs => hs
  | .lit _, _, _, _, hs => hs
  | .adr _, _, _, _, hs => hs
  | .undef, _, _, _, _ => trivial
  | .int _, _, _, _, _ => trivial
  | .bool, _, _, _, _ => trivial
  | .str, _, _, _, _ => trivial
  | .unit, _, _, _, _ => trivial
  | .nil, _, _, _, _ => trivial
  | .itf, _, _, _, _ => trivial
  | .pnil, _, _, _, _ => trivial
  | .opt _, _, _, _, hs => hs

theorem Keeps.less {m n : Nat} (K : Keeps w ok η w' ok' η' n) (h : m ≤ n) : Keeps w ok η w' ok' η' m := ⟨K.ok, fun l hl => K.place l (Nat.lt_of_lt_of_le hl h)⟩

theorem At_keeps {n : Nat} (K : Keeps w ok η w' ok' η' n) {ad : Addr} {m : List Value} (h : At w ok ad m) : At w' ok' ad m := by
  intro j v hv
  obtain ⟨ho, hc⟩ := h j v hv
  have := K.ok (ad.add j) v (by rw [add_block]; exact ho) hc
  rw [add_block] at this
  exact this

theorem C_keeps {n : Nat} (K : Keeps w ok η w' ok' η' n) : ∀ {s : Sh} {d : s.D} {cs : List Value}, s.under n → C w ok η s d cs → C w' ok' η' s d cs
  | .undef, _, _, _, h => h
  | .int _, _, _, _, h => h
  | .bool, _, _, _, h => h
  | .str, _, _, _, h => h
  | .unit, _, _, _, h => h
  | .pair a b, d, _, hn, h => by
    obtain ⟨hs, v, r, rfl, ha, hb⟩ := h
    exact ⟨hs, v, r, rfl, C_keeps K hn.1 ha, C_keeps K hn.2 hb⟩
  | .slice a, xs, _, hn, h => by
    obtain ⟨A, cap, rfl, hcap, h⟩ := h
    exact ⟨A, cap, rfl, hcap, h.imp id fun ⟨ad, m, hA, hm, hl, hx⟩ => ⟨ad, m, hA, At_keeps K hm, hl, fun i hi => C_keeps K (under_mono (Nat.zero_le _) hn) (hx i hi)⟩⟩
  | .lit a, xs, _, hn, h => by
    obtain ⟨A, rfl, h⟩ := h
    exact ⟨A, rfl, h.imp id fun ⟨ad, m, hA, hm, hl, hx⟩ => ⟨ad, m, hA, At_keeps K hm, hl, fun i hi => C_keeps K (under_mono (Nat.zero_le _) hn) (hx i hi)⟩⟩
  | .nil, _, _, _, h => h
  | .ref l _, _, _, hn, h => by
    have := K.place l hn
    exact ⟨by rw [this]; exact h.1, by rw [this]; exact h.2⟩
  | .ptr l off, _, _, hn, h => by
    obtain ⟨b, hb, rfl⟩ := h
    exact ⟨b, (K.place l hn).trans hb, rfl⟩
  | .elt l a off, i, _, hn, h => by
    obtain ⟨b, k, cap, hb, rfl⟩ := h
    exact ⟨b, k, cap, (K.place l hn).trans hb, rfl⟩
  | .adr a, x, _, hn, h => by
    obtain ⟨ad, m, rfl, hm, hx⟩ := h
    exact ⟨ad, m, rfl, At_keeps K hm, C_keeps K (under_mono (Nat.zero_le _) hn) hx⟩
  | .fn f c, d, _, hn, h => by
    obtain ⟨caps, rfl, hc⟩ := h
    exact ⟨caps, rfl, C_keeps K hn hc⟩
  | .tup _ _, _, _, _, h => h
  | .itf, _, _, _, h => h
  | .pnil, _, _, _, h => h
  | .opt a, x, _, hn, h => h.imp id fun ⟨y, ad, m, h1, h2, h3, h4⟩ => ⟨y, ad, m, h1, h2, At_keeps K h3, C_keeps K (under_mono (Nat.zero_le _) hn) h4⟩

theorem V1_keeps {n : Nat} (K : Keeps w ok η w' ok' η' n) {s : Sh} {d : s.D} {v : Value} (hn : s.under n) (h : V1 w ok η s d v) : V1 w' ok' η' s d v := by
  cases s
  case undef => trivial
  case unit => exact h
  case pair a b => obtain ⟨cs, rfl, h⟩ := h; exact ⟨cs, rfl, C_keeps K hn h⟩
  case tup => exact h.elim
  all_goals exact C_keeps (cs := [v]) K hn h

theorem CT_keeps {n : Nat} (K : Keeps w ok η w' ok' η' n) : ∀ {s : Sh} {d : s.D} {vs : List Value}, s.under n → CT w ok η (V1 w ok η) s d vs → CT w' ok' η' (V1 w' ok' η') s d vs
  | .tup a b, d, _, hn, h => by
    obtain ⟨v, r, rfl, ha, hb⟩ := h
    exact ⟨v, r, rfl, V1_keeps K hn.1 ha, CT_keeps K hn.2 hb⟩
  | .unit, _, _, _, h => h
  | .undef, _, _, _, h => h.elim
  | .int _, _, _, _, h => h.elim
  | .bool, _, _, _, h => h.elim
  | .str, _, _, _, h => h.elim
  | .pair _ _, _, _, _, h => h.elim
  | .slice _, _, _, _, h => h.elim
  | .lit _, _, _, _, h => h.elim
  | .nil, _, _, _, h => h.elim
  | .ref _ _, _, _, _, h => h.elim
  | .ptr _ _, _, _, _, h => h.elim
  | .elt _ _ _, _, _, _, h => h.elim
  | .adr _, _, _, _, h => h.elim
  | .fn _ _, _, _, _, h => h.elim
  | .itf, _, _, _, h => h.elim
  | .pnil, _, _, _, h => h.elim
  | .opt _, _, _, _, h => h.elim

theorem V_keeps {n : Nat} (K : Keeps w ok η w' ok' η' n) {s : Sh} {d : s.D} {v : Value} (hn : s.under n) (h : V w ok η s d v) : V w' ok' η' s d v := by
  cases s
  case tup a b => obtain ⟨vs, rfl, h⟩ := h; exact ⟨vs, rfl, CT_keeps K hn h⟩
  all_goals exact V1_keeps (d := d) (v := v) K hn h

/-! Pieces of cells. -/
theorem dropC_C : ∀ {n : Nat} {x r : SV} {cs : List Value}, C w ok η x.s x.d cs → dropC n x = some r → C w ok η r.s r.d (cs.drop n)
  | 0, x, r, cs, h, e => by
    simp only [dropC, Option.some.injEq] at e
    subst e
    simpa using h
  | n + 1, ⟨s, d⟩, r, cs, h, e => by
    cases s <;> simp only [dropC, reduceCtorEq] at e
    obtain ⟨_, v, rest, rfl, _, hb⟩ := h
    simpa using dropC_C (x := ⟨_, _⟩) hb e

theorem takeC_agg {n : Nat} {x r : SV} (e : takeC n x = some r) : r.s = .unit ∧ n = 0 ∨ ∃ a b, r.s = .pair a b := by
  cases n with
  | zero => simp only [takeC, Option.some.injEq] at e; subst e; exact .inl ⟨rfl, rfl⟩
  | succ n =>
    obtain ⟨s, d⟩ := x
    cases s <;> simp only [takeC, reduceCtorEq] at e
    split at e
    · simp only [Option.some.injEq] at e; subst e; exact .inr ⟨_, _, rfl⟩
    · cases e

theorem takeC_C : ∀ {n : Nat} {x r : SV} {cs : List Value}, C w ok η x.s x.d cs → takeC n x = some r → C w ok η r.s r.d (cs.take n)
  | 0, x, r, cs, h, e => by
    simp only [takeC, Option.some.injEq] at e
    subst e
    simp [C]
  | n + 1, ⟨s, d⟩, r, cs, h, e => by
    cases s <;> simp only [takeC, reduceCtorEq] at e
    obtain ⟨hs, v, rest, rfl, ha, hb⟩ := h
    split at e
    · rename_i r' e'
      simp only [Option.some.injEq] at e
      subst e
      exact ⟨hs, v, rest.take n, by simp, ha, takeC_C (x := ⟨_, _⟩) hb e'⟩
    · cases e

theorem headC_C {x r : SV} {cs : List Value} (h : C w ok η x.s x.d cs) (e : headC x = some r) : r.s.single = true ∧ ∃ v rest, cs = v :: rest ∧ C w ok η r.s r.d [v] := by
  obtain ⟨s, d⟩ := x
  cases s <;> simp only [headC, reduceCtorEq, Option.some.injEq] at e
  subst e
  obtain ⟨hs, v, rest, rfl, ha, _⟩ := h
  exact ⟨hs, v, rest, rfl, ha⟩

theorem putS_C : ∀ {s : Sh} {d : s.D} {n : Nat} {v r : SV} {cs vs : List Value}, C w ok η s d cs → C w ok η v.s v.d vs → putS s d n v = some r →
    n + vs.length ≤ cs.length ∧ C w ok η r.s r.d (cs.take n ++ vs ++ cs.drop (n + vs.length))
  | .pair a b, d, n + 1, v, r, cs, vs, h, hv, e => by
    simp only [putS] at e
    split at e
    · rename_i r' e'
      simp only [Option.some.injEq] at e
      subst e
      obtain ⟨hs, x, rest, rfl, ha, hb⟩ := h
      obtain ⟨h1, h2⟩ := putS_C hb hv e'
      refine ⟨by simp; omega, hs, x, rest.take n ++ vs ++ rest.drop (n + vs.length), ?_, ha, h2⟩
      simp [show n + 1 + vs.length = (n + vs.length) + 1 by omega]
    · cases e
  | .pair a b, d, 0, ⟨.pair a' b', d'⟩, r, cs, vs, h, hv, e => by
    simp only [putS] at e
    split at e
    · rename_i r' e'
      simp only [Option.some.injEq] at e
      subst e
      obtain ⟨hs, x, rest, rfl, ha, hb⟩ := h
      obtain ⟨hs', x', rest', rfl, ha', hb'⟩ := hv
      obtain ⟨h1, h2⟩ := putS_C (v := ⟨b', d'.2⟩) hb hb' e'
      refine ⟨by simp at h1 ⊢; omega, hs', x', rest' ++ rest.drop rest'.length, ?_, ha', by simpa using h2⟩
      simp [show 0 + (rest'.length + 1) = rest'.length + 1 by omega]
    · cases e
  | s, d, 0, ⟨.unit, d'⟩, r, cs, vs, h, hv, e => by
    have e : some (⟨s, d⟩ : SV) = some r := by rw [← e]; cases s <;> rfl
    simp only [Option.some.injEq] at e
    subst e
    cases hv
    simpa using h

theorem putC_C {n : Nat} {x v r : SV} {cs vs : List Value} (h : C w ok η x.s x.d cs) (hv : C w ok η v.s v.d vs) (e : putC n x v = some r) :
    n + vs.length ≤ cs.length ∧ C w ok η r.s r.d (cs.take n ++ vs ++ cs.drop (n + vs.length)) := putS_C h hv e

theorem boxIn_C {x y : SV} {v : Value} (h : VS w ok η x v) (e : boxIn x = some y) : C w ok η y.s y.d v.cells.toList := by
  obtain ⟨s, d⟩ := x
  simp only [boxIn] at e
  cases s <;> simp only [Sh.boxable, cond_false, cond_true, reduceCtorEq, Option.some.injEq, boxOf] at e <;> subst e
  case pair => obtain ⟨cs, rfl, h⟩ := h; exact h
  case unit => cases h; simp [C, Value.cells]
  all_goals
    have h1 : C w ok η _ d [v] := h
    have h2 := C_one h1 v (by simp)
    have h3 : v.cells.toList = [v] := by cases v <;> simp_all [Value.cells, Value.oneCell']
    rw [h3]
    exact ⟨rfl, v, [], rfl, h1, rfl⟩
end basics
end Go.Rai

/- The type table held against the program; what single operations of the model come to, in the words of forms. -/
set_option linter.unusedVariables false
set_option linter.unusedSimpArgs false
namespace Go.Rai

def zeroOk : Sh → List Value → Bool
  | .int k, [.int k' n] => k == k' && n == 0
  | .bool, [.bool b] => !b
  | .str, [.string s] => s.data.toList.isEmpty
  | .nil, [.slice none 0 0] => true
  | .undef, [v] => v.oneCell'
  | .itf, [.nilIface] => true
  | .pnil, [.pointer none] => true
  | .unit, [] => true
  | .pair a b, v :: r => a.single && zeroOk a [v] && zeroOk b r
  | _, _ => false
def sizeIs (P : Program) (t n : Nat) : Bool := match P.info? t with | some i => Nat.beq i.size n | none => false
def zeroIs (P : Program) (t : Nat) (s : Sh) : Bool := match P.info? t with | some i => (match i.zero with | some z => zeroOk s z.cells.toList | none => false) | none => false
def bytesIs (P : Program) (t : Nat) : Bool := match P.info? t with | some i => Nat.ble i.bytes 65536 | none => false
def listEq : List Nat → List Nat → Bool
  | [], [] => true
  | a :: r, b :: s => Nat.beq a b && listEq r s
  | _, _ => false
def sizesOk (P : Program) : List Field → List Nat → List Nat → Bool
  | [], [], [] => true
  | f :: r, o :: os, n :: ns => Nat.beq f.offset o && sizeIs P f.type n && !(Nat.beq n 0) && sizesOk P r os ns
  | _, _, _ => false
/-- a struct whose fields are each a number, a bool or a text: it can be compared cell by cell -/
def flatOk (P : Program) : Nat → Sh → List Field → Bool
  | _, .unit, [] => true
  | i, .pair a b, f :: r => Nat.beq f.offset i && decide (f.name ≠ "_") && (match P.underlying f.type, a with
      | some .bool, .bool => true
      | some (.int _), .int _ => true
      | some .string, .str => true
      | _, _ => false) && flatOk P (i + 1) b r
  | _, _, _ => false
def eqOk (P : Program) (t : Nat) (s : Sh) (fs : List Field) : Bool := flatOk P 0 s fs && !(P.stoodInHeld t) && !(P.eqGuardType P.depth t)
def aggS : Sh → Bool
  | .unit => true
  | .pair _ _ => true
  | _ => false
def shEq (a b : Sh) : Bool := decide (a = b)
def rowOk (P : Program) (t : Nat) : TK → Bool
  | .cell s => (match P.underlying t, s with
      | some .bool, .bool => true
      | some (.int k), .int k' => decide (k = k')
      | some .string, .str => true
      | some (.pointer _), .undef => true
      | some (.func _ _ _), .undef => true
      | some (.interface _), .undef => true
      | some (.interface _), .itf => true
      | some (.pointer _), .opt _ => true
      | _, _ => false) && sizeIs P t 1 && zeroIs P t (fresh s).s
  | .struct s offs szs eq => (match P.underlying t with
      | some (.struct fs) => sizesOk P fs.toList offs szs && (!eq || eqOk P t s fs.toList)
      | _ => false) && sizeIs P t s.cells && zeroIs P t (fresh s).s && aggS s
  | .arr n e sz s => (match P.underlying t with
      | some (.array n' e') => Nat.beq n' n && Nat.beq e' e
      | _ => false) && sizeIs P e sz && sizeIs P t s.cells && zeroIs P t (fresh s).s && aggS s
  | .slice e a => (match P.underlying t with
      | some (.slice e') => Nat.beq e' e
      | _ => false) && sizeIs P t 1 && zeroIs P t .nil && sizeIs P e a.cells && !(Nat.beq a.cells 0) && bytesIs P e && zeroIs P e (fresh a).s && (a.pure && a.boxable)
/-- The table is the program's. -/
def TTok (P : Program) (tt : TT) : Prop := ∀ t k, tt t = some k → rowOk P t k = true

def aggD : TypeDesc → Bool
  | .struct _ => true
  | .array _ _ => true
  | _ => false
theorem add_mid (b o j : Nat) : (⟨b, o, none⟩ : Addr).add j = ⟨b, o + j, none⟩ := by unfold Addr.add; split <;> simp_all
variable {P : Program}
theorem sizeIs_of {t n : Nat} (h : sizeIs P t n = true) : ∃ i, P.info? t = some i ∧ i.size = n := by
  unfold sizeIs at h
  split at h
  · rename_i i hi
    exact ⟨i, hi, Nat.eq_of_beq_eq_true h⟩
  · cases h
theorem run_sizeOf_is {t n : Nat} (h : sizeIs P t n = true) (w : World) : (sizeOf t).run P w = .ok n w := by
  obtain ⟨i, hi, rfl⟩ := sizeIs_of h
  simp [sizeOf, typeInfo, hi]
theorem zeroIs_of {t : Nat} {s : Sh} (h : zeroIs P t s = true) : ∃ z, (∀ w, (zeroValue t).run P w = .ok z w) ∧ zeroOk s z.cells.toList = true := by
  unfold zeroIs at h
  split at h
  · rename_i i hi
    split at h
    · rename_i z hz
      exact ⟨z, fun w => by simp [zeroValue, typeInfo, hi, hz], h⟩
    · cases h
  · cases h

section
variable {w : World} {ok : Nat → Prop} {η : Nat → Value}
theorem zeroOk_C : ∀ {s : Sh} {cs : List Value}, zeroOk (fresh s).s cs = true → C w ok η (fresh s).s (fresh s).d cs
  | .undef, cs, h => by
    match cs, h with
    | [v], h => exact ⟨v, rfl, h⟩
  | .int k, cs, h => by
    match cs, h with
    | [.int k' n], h =>
      have h : (k == k') = true ∧ (n == 0) = true := by simpa [fresh, zeroOk] using h
      obtain ⟨h1, h2⟩ := h
      obtain rfl : k = k' := by simpa using h1
      obtain rfl : n = 0 := by simpa using h2
      rfl
  | .bool, cs, h => by
    match cs, h with
    | [.bool b], h =>
      obtain rfl : b = false := by simpa [fresh, zeroOk] using h
      rfl
  | .str, cs, h => by
    match cs, h with
    | [.string s], h =>
      have h : s.data.toList = [] := by simpa [fresh, zeroOk] using h
      obtain ⟨⟨l⟩⟩ := s
      obtain rfl : l = [] := h
      rfl
  | .unit, cs, h => by
    match cs, h with
    | [], h => rfl
  | .pair a b, cs, h => by
    match cs, h with
    | v :: r, h =>
      have h : ((fresh a).s.single = true ∧ zeroOk (fresh a).s [v] = true) ∧ zeroOk (fresh b).s r = true := by simpa [fresh, zeroOk] using h
      exact ⟨h.1.1, v, r, rfl, zeroOk_C h.1.2, zeroOk_C h.2⟩
  | .slice _, cs, h => by
    match cs, h with
    | [.slice none 0 0], h => rfl
  | .lit _, cs, h => by cases cs <;> simp [fresh, zeroOk] at h
  | .nil, cs, h => by
    match cs, h with
    | [.slice none 0 0], h => rfl
  | .ref _ _, cs, h => by cases cs <;> simp [fresh, zeroOk] at h
  | .ptr _ _, cs, h => by cases cs <;> simp [fresh, zeroOk] at h
  | .elt _ _ _, cs, h => by cases cs <;> simp [fresh, zeroOk] at h
  | .adr _, cs, h => by cases cs <;> simp [fresh, zeroOk] at h
  | .fn _ _, cs, h => by cases cs <;> simp [fresh, zeroOk] at h
  | .tup _ _, cs, h => by cases cs <;> simp [fresh, zeroOk] at h
  | .itf, cs, h => by
    match cs, h with
    | [.nilIface], h => exact .inl ⟨rfl, rfl⟩
  | .pnil, cs, h => by
    match cs, h with
    | [.pointer none], h => rfl
  | .opt _, cs, h => by
    match cs, h with
    | [.pointer none], h => rfl
end

/-! What is read. -/
section
variable {w : World}
theorem run_loadVar_agg {t : Nat} {d : TypeDesc} {m : List Value} {ad : Addr} (hu : P.underlying t = some d) (hd : aggD d = true)
    (hs : sizeIs P t m.length = true) (h : ∀ j v, m[j]? = some v → w.cell? (ad.add j) = some v) : (loadVar t ad).run P w = .ok (.agg m.toArray) w := by
  have hagg : (isAgg t).run P w = .ok true w := by
    unfold isAgg
    rw [Sem.run_bind, run_underlying hu w]
    cases d <;> simp_all [aggD]
  simp [loadVar, Sem.run_bind, hagg, run_sizeOf_is hs w, run_loadCells_list (P := P) w ad m h]
theorem run_loadVar_cell {t : Nat} {d : TypeDesc} {v : Value} {ad : Addr} (hu : P.underlying t = some d) (hd : aggD d = false)
    (h : w.cell? ad = some v) : (loadVar t ad).run P w = .ok v w := by
  have hagg : (isAgg t).run P w = .ok false w := by
    unfold isAgg
    rw [Sem.run_bind, run_underlying hu w]
    cases d <;> simp_all [aggD]
  simp [loadVar, Sem.run_bind, hagg, run_load, h]
end
end Go.Rai

/- Each operation that leaves what is there alone comes to what 'act' says. -/
set_option linter.unusedVariables false
set_option linter.unusedSimpArgs false
namespace Go.Rai
open Go.RowKit
variable {P : Program}

/-- What is said of memory at a place of the call's own. -/
def OK1 (w : World) (ok : Nat → Prop) (η : Nat → Value) (l : Nat) : Ob → Prop
  | .box s d => ∃ b cs T, η l = .pointer (some ⟨b, 0, none⟩) ∧ w.heap[b]? = some (.cells cs T (0, 0)) ∧ C w ok η s d cs.toList
  | .arr e a xs => (η l = .slice none 0 0 ∧ xs.length = 0) ∨ ∃ b cap cs, η l = .slice (some ⟨b, 0, none⟩) xs.length cap ∧ w.heap[b]? = some (.cells cs e (0, 0)) ∧ cs.size = cap * a.cells ∧ xs.length ≤ cap ∧ cap ≤ maxLen ∧
      ∀ i (h : i < xs.length), C w ok η a xs[i] (seg cs.toList (i * a.cells) a.cells)
def Ob.under (n : Nat) : Ob → Prop
  | .box s _ => s.under n
  | .arr _ a _ => a.under 0

def Eff (P : Program) (o : Oper) (sl : Nat → SV) (rd : Nat → Option Ob) (new : Nat) (v : SV) (ob : Option Ob) : Prop :=
  ∀ (w : World) (ok : Nat → Prop) (η : Nat → Value) (a : Act),
    (∀ t, Operand.tmp t ∈ o.op.operands → VS w ok η (sl t) (a.tmps.getD t undef)) →
    (∀ l x, rd l = some x → OK1 w ok η l x) →
    ∃ val w', (execOp a.eval o).run P w = .ok (.value val) w' ∧ Below w.heap.size w w' ∧
      ∀ ok' η', Keeps w ok η w' ok' η' new → (ob = none → ∀ b, w.heap.size ≤ b → ok' b) → (∀ x, ob = some x → η' new = .pointer (some ⟨w.heap.size, 0, none⟩)) →
        VS w' ok' η' v val ∧ ∀ x, ob = some x → OK1 w' ok' η' new x ∧ w'.heap.size = w.heap.size + 1

/-- what is kept of the forms' places -/
structure Und (sl : Nat → SV) (rd : Nat → Option Ob) (n : Nat) : Prop where
  slots : ∀ t, (sl t).s.under n
  objs : ∀ l x, rd l = some x → x.under n ∧ l < n

theorem cval_V (w : World) (ok : Nat → Prop) (η : Nat → Value) (v : Value) : VS w ok η (cval v) v := by
  unfold cval
  split
  · rfl
  · rfl
  · rename_i s
    obtain ⟨⟨l⟩⟩ := s
    rfl
  · rfl
  · exact .inl ⟨rfl, rfl⟩
  · rfl
  · trivial
theorem cval_under (v : Value) (n : Nat) : (cval v).s.under n := by unfold cval; split <;> trivial

theorem evalO_under {sl : Nat → SV} {n : Nat} (h : ∀ t, (sl t).s.under n) (x : Operand) : (evalO sl x).s.under n := by
  cases x with
  | tmp t => exact h t
  | const v => exact cval_under v n
  | global g => trivial
  | func f => trivial

theorem evalO_VS {w : World} {ok : Nat → Prop} {η : Nat → Value} {sl : Nat → SV} {a : Act} {ops : Array Operand}
    (h : ∀ t, Operand.tmp t ∈ ops → VS w ok η (sl t) (a.tmps.getD t undef)) {x : Operand} (hx : x ∈ ops) : VS w ok η (evalO sl x) (a.eval x) := by
  cases x with
  | tmp t => exact h t hx
  | const v => exact cval_V w ok η v
  | global g => trivial
  | func f => exact ⟨#[], rfl, rfl⟩

section open_
variable {w : World} {ok : Nat → Prop} {η : Nat → Value} {x : SV} {v : Value}
theorem V_int {k : IntKind} {n : Int} (h : VS w ok η x v) (e : x = ⟨.int k, n⟩) : v = .int k n := by subst e; simpa [VS, V, V1, C] using h
theorem V_bool {b : Bool} (h : VS w ok η x v) (e : x = ⟨.bool, b⟩) : v = .bool b := by subst e; simpa [VS, V, V1, C] using h
theorem V_str {b : List UInt8} (h : VS w ok η x v) (e : x = ⟨.str, b⟩) : v = .string ⟨⟨b⟩⟩ := by subst e; simpa [VS, V, V1, C] using h
theorem V_ptr {l o : Nat} {d : Unit} (h : VS w ok η x v) (e : x = ⟨.ptr l o, d⟩) : ∃ b, η l = .pointer (some ⟨b, 0, none⟩) ∧ v = .pointer (some ⟨b, o, none⟩) := by subst e; simpa [VS, V, V1, C] using h
theorem V_opt {a : Sh} {y : a.D} (h : VS w ok η x v) (e : x = ⟨.opt a, some y⟩) : ∃ ad m, v = .pointer (some ad) ∧ At w ok ad m ∧ C w ok η a y m := by
  subst e
  have h : C w ok η (.opt a) (some y) [v] := h
  rcases h with ⟨h1, _⟩ | ⟨z, ad, m, h1, h2, h3, h4⟩
  · cases h1
  · cases h1
    exact ⟨ad, m, by simpa using h2, h3, h4⟩
theorem V_optv {a : Sh} {y : Option a.D} (h : VS w ok η x v) (e : x = ⟨.opt a, y⟩) : ∃ q, v = .pointer q ∧ q.isNone = y.isNone := by
  subst e
  have h : C w ok η (.opt a) y [v] := h
  rcases h with ⟨h1, h2⟩ | ⟨z, ad, m, h1, h2, h3, h4⟩
  · exact ⟨none, by simpa using h2, by subst h1; rfl⟩
  · exact ⟨some ad, by simpa using h2, by subst h1; rfl⟩
theorem V_pnil {d : Unit} (h : VS w ok η x v) (e : x = ⟨.pnil, d⟩) : v = .pointer none := by
  subst e
  have h : C w ok η .pnil d [v] := h
  simpa [C] using h
theorem V_itf {b : Bool} (h : VS w ok η x v) (e : x = ⟨.itf, b⟩) : (b = false ∧ v = .nilIface) ∨ (b = true ∧ ∃ t u, v = .iface t u) := by
  subst e
  have h : C w ok η .itf b [v] := h
  simpa [C] using h
theorem V_adr {a : Sh} {d : a.D} (h : VS w ok η x v) (e : x = ⟨.adr a, d⟩) : ∃ ad m, v = .pointer (some ad) ∧ At w ok ad m ∧ C w ok η a d m := by
  subst e
  obtain ⟨ad, m, h1, h2⟩ := h
  exact ⟨ad, m, by simpa using h1, h2⟩
theorem V_elt {l : Nat} {a : Sh} {o : Nat} {i : Int} (h : VS w ok η x v) (e : x = ⟨.elt l a o, i⟩) : ∃ b n cap, η l = .slice (some ⟨b, 0, none⟩) n cap ∧ v = .pointer (some ⟨b, i.toNat * a.cells + o, none⟩) := by
  subst e
  obtain ⟨b, n, cap, h1, h2⟩ := h
  exact ⟨b, n, cap, h1, by simpa using h2⟩
theorem V_nil {d : Unit} (h : VS w ok η x v) (e : x = ⟨.nil, d⟩) : v = .slice none 0 0 := by subst e; simpa [VS, V, V1, C] using h
theorem V_ref {l : Nat} {a : Sh} {d : Unit} (h : VS w ok η x v) (e : x = ⟨.ref l a, d⟩) : v = η l := by
  subst e
  have := h.1
  simpa using this
theorem V_slice {a : Sh} {xs : List a.D} (h : VS w ok η x v) (e : x = ⟨.slice a, xs⟩) : ∃ A cap, v = .slice A xs.length cap ∧ (xs.length ≤ cap ∧ (A = none → cap = 0)) ∧ (xs.length = 0 ∨ ∃ ad m, A = some ad ∧ At w ok ad m ∧ m.length = xs.length * a.cells ∧
      ∀ i (h : i < xs.length), C w ok η a xs[i] (seg m (i * a.cells) a.cells)) := by
  subst e
  obtain ⟨A, cap, h1, h2⟩ := h
  exact ⟨A, cap, by simpa using h1, h2⟩
theorem V_lit {a : Sh} {xs : List a.D} (h : VS w ok η x v) (e : x = ⟨.lit a, xs⟩) : ∃ A, v = .slice A xs.length xs.length ∧ (xs.length = 0 ∨ ∃ ad m, A = some ad ∧ At w ok ad m ∧ m.length = xs.length * a.cells ∧
      ∀ i (h : i < xs.length), C w ok η a xs[i] (seg m (i * a.cells) a.cells)) := by
  subst e
  obtain ⟨A, h1, h2⟩ := h
  exact ⟨A, by simpa using h1, h2⟩
end open_

/-- An operation that computes: nothing of memory turns. -/
theorem Eff.pure {o : Oper} {sl : Nat → SV} {rd : Nat → Option Ob} {new : Nat} {v : SV} (hu : v.s.under new)
    (h : ∀ (w : World) (ok : Nat → Prop) (η : Nat → Value) (a : Act), (∀ x, x ∈ o.op.operands → VS w ok η (evalO sl x) (a.eval x)) → (∀ l x, rd l = some x → OK1 w ok η l x) →
      ∃ val, (execOp a.eval o).run P w = .ok (.value val) w ∧ VS w ok η v val) : Eff P o sl rd new v none := by
  intro w ok η a hsl hrd
  obtain ⟨val, hr, hv⟩ := h w ok η a (fun x hx => evalO_VS hsl hx) hrd
  exact ⟨val, w, hr, Below.refl _ _, fun ok' η' K _ _ => ⟨V_keeps K hu hv, fun x hx => by cases hx⟩⟩

/-- the end of a proof that 'act' comes to something -/
abbrev Got {R : Type} (P : Program) (o : Oper) (sl : Nat → SV) (rd : Nat → Option Ob) (new : Nat) (k : SV → Option Ob → Option R) (r : R) : Prop :=
  ∃ v ob, k v ob = some r ∧ v.s.under (new + 1) ∧ (ob = none → v.s.under new) ∧ (∀ x, ob = some x → x.under new) ∧ Eff P o sl rd new v ob
theorem Got.pure {R : Type} {o : Oper} {sl : Nat → SV} {rd : Nat → Option Ob} {new : Nat} {k : SV → Option Ob → Option R} {r : R} {v : SV} (hk : k v none = some r) (hu : v.s.under new)
    (h : ∀ (w : World) (ok : Nat → Prop) (η : Nat → Value) (a : Act), (∀ x, x ∈ o.op.operands → VS w ok η (evalO sl x) (a.eval x)) → (∀ l x, rd l = some x → OK1 w ok η l x) →
      ∃ val, (execOp a.eval o).run P w = .ok (.value val) w ∧ VS w ok η v val) : Got P o sl rd new k r :=
  ⟨v, none, hk, under_mono (Nat.le_succ _) hu, fun _ => hu, fun _ hx => (by cases hx), Eff.pure hu h⟩

section ops
variable {R : Type} {sl : Nat → SV} {rd : Nat → Option Ob} {new : Nat} {k : SV → Option Ob → Option R} {r : R} {dst : Option Tmp} {ty : TypeId} {pos : String} {after : Array Edge} {guard : Option (Nat × Bool)}

theorem got_move {x : Operand} (hU : Und sl rd new) (h : k (evalO sl x) none = some r) : Got P ⟨dst, .move x, ty, pos, after, guard⟩ sl rd new k r :=
  Got.pure h (evalO_under hU.slots x) fun w ok η a hsl _ => ⟨a.eval x, by simp [execOp], hsl x (by simp [Op.operands])⟩
theorem got_assign {x : Operand} (hU : Und sl rd new) (h : k (evalO sl x) none = some r) : Got P ⟨dst, .assign x, ty, pos, after, guard⟩ sl rd new k r :=
  Got.pure h (evalO_under hU.slots x) fun w ok η a hsl _ => ⟨a.eval x, by simp [execOp], hsl x (by simp [Op.operands])⟩

theorem got_binInt {op : BinOp} {q : IntKind} {x y : Operand} {t t' : TypeId} {m n : Int} (ex : evalO sl x = ⟨.int q, m⟩) (ey : evalO sl y = ⟨.int q, n⟩)
    (h : binInt op q m n (fun v => k v none) = some r) : Got P ⟨dst, .binOp op t x y t', ty, pos, after, guard⟩ sl rd new k r := by
  have go : ∀ (a : Act), a.eval x = .int q m → a.eval y = .int q n → ∀ (v : Value) w, ((binOp op t (.int q m) (.int q n)).run P w = .ok v w) →
      (execOp a.eval ⟨dst, .binOp op t x y t', ty, pos, after, guard⟩).run P w = .ok (.value v) w := by
    intro a h1 h2 v w hr
    simp only [execOp, h1, h2, eqGuard_at_int]
    simp [hr]
  unfold binInt at h
  split at h
  all_goals first
    | (cases h; done)
    | (refine Got.pure h trivial fun w ok η a hsl _ => ?_
       have h1 := V_int (hsl x (by simp [Op.operands])) ex
       have h2 := V_int (hsl y (by simp [Op.operands])) ey
       exact ⟨_, go a h1 h2 _ w (by simp [binOp, Op.intArith, Op.intCmp]; done), rfl⟩)
    | (by_cases hn : n = 0
       · simp [hn] at h
       · have hn' : (n == 0) = false := by simpa using hn
         rw [hn', cond_false] at h
         refine Got.pure h trivial fun w ok η a hsl _ => ?_
         have h1 := V_int (hsl x (by simp [Op.operands])) ex
         have h2 := V_int (hsl y (by simp [Op.operands])) ey
         exact ⟨_, go a h1 h2 _ w (by simp [binOp, Op.intDiv, hn]; done), rfl⟩)

theorem bytes_toList (l : List UInt8) : (⟨⟨l⟩⟩ : ByteArray).toList = l := ByteArray.toList_mk l

theorem got_binStr {op : BinOp} {x y : Operand} {t t' : TypeId} {m n : List UInt8} (ex : evalO sl x = ⟨.str, m⟩) (ey : evalO sl y = ⟨.str, n⟩)
    (h : binStr op m n (fun v => k v none) = some r) : Got P ⟨dst, .binOp op t x y t', ty, pos, after, guard⟩ sl rd new k r := by
  have go : ∀ (a : Act), a.eval x = .string ⟨⟨m⟩⟩ → a.eval y = .string ⟨⟨n⟩⟩ → ∀ (v : Value) w, ((Op.stringOp op ⟨⟨m⟩⟩ ⟨⟨n⟩⟩).run P w = .ok v w) →
      (execOp a.eval ⟨dst, .binOp op t x y t', ty, pos, after, guard⟩).run P w = .ok (.value v) w := by
    intro a h1 h2 v w hr
    have hb : binOp op t (.string ⟨⟨m⟩⟩) (.string ⟨⟨n⟩⟩) = Op.stringOp op ⟨⟨m⟩⟩ ⟨⟨n⟩⟩ := by cases op <;> rfl
    simp only [execOp, h1, h2, eqGuard_at_string, hb]
    simp [hr]
  unfold binStr at h
  split at h
  · by_cases hl : m.length + n.length ≤ LIM
    · simp only [hl, decide_true, cond_true] at h
      refine Got.pure h trivial fun w ok η a hsl _ => ?_
      have h1 := V_str (hsl x (by simp [Op.operands])) ex
      have h2 := V_str (hsl y (by simp [Op.operands])) ey
      refine ⟨.string ⟨⟨m ++ n⟩⟩, go a h1 h2 _ w ?_, rfl⟩
      have hs : ¬ (((⟨⟨m⟩⟩ : ByteArray).size + (⟨⟨n⟩⟩ : ByteArray).size : Nat) : Int) > IntKind.i64.max := by
        simp only [ByteArray.size, List.size_toArray, IntKind.max_i64]; unfold LIM at hl; omega
      simp only [Op.stringOp, hs, if_false, Sem.run_pure]
      exact congrArg (fun z => Result.ok (Value.string z) w) (ByteArray.mk_append_mk m n)
    · simp [hl] at h
  · refine Got.pure h trivial fun w ok η a hsl _ => ?_
    have h1 := V_str (hsl x (by simp [Op.operands])) ex
    have h2 := V_str (hsl y (by simp [Op.operands])) ey
    exact ⟨_, go a h1 h2 _ w (by simp [Op.stringOp, bytes_toList]; done), rfl⟩
  · refine Got.pure h trivial fun w ok η a hsl _ => ?_
    have h1 := V_str (hsl x (by simp [Op.operands])) ex
    have h2 := V_str (hsl y (by simp [Op.operands])) ey
    exact ⟨_, go a h1 h2 _ w (by simp [Op.stringOp, bytes_toList]; done), rfl⟩
  · cases h

theorem sizesOk_at : ∀ {fs : List Field} {offs szs : List Nat} {f q : Nat}, sizesOk P fs offs szs = true → offs[f]? = some q → ∃ fd n, fs[f]? = some fd ∧ fd.offset = q ∧ szs[f]? = some n ∧ sizeIs P fd.type n = true ∧ n ≠ 0
  | [], [], [], f, q, h, hq => by simp at hq
  | fd :: fs, o :: os, n :: ns, f, q, h, hq => by
    simp only [sizesOk, Bool.and_eq_true, Bool.not_eq_true'] at h
    obtain ⟨⟨⟨h1, h2⟩, h3⟩, h4⟩ := h
    cases f with
    | zero =>
      simp only [List.getElem?_cons_zero, Option.some.injEq] at hq
      exact ⟨fd, n, rfl, hq ▸ Nat.eq_of_beq_eq_true h1, rfl, h2, Nat.ne_of_beq_eq_false h3⟩
    | succ f =>
      simp only [List.getElem?_cons_succ] at hq ⊢
      exact sizesOk_at h4 hq
  | [], _ :: _, _, _, _, h, _ => by simp [sizesOk] at h
  | [], [], _ :: _, _, _, h, _ => by simp [sizesOk] at h
  | _ :: _, [], _, _, _, h, _ => by simp [sizesOk] at h
  | _ :: _, _ :: _, [], _, _, h, _ => by simp [sizesOk] at h

theorem row_struct {t : Nat} {s : Sh} {offs szs : List Nat} {eq : Bool} (h : rowOk P t (.struct s offs szs eq) = true) : ∃ fs, P.underlying t = some (.struct fs) ∧ sizesOk P fs.toList offs szs = true ∧ sizeIs P t s.cells = true ∧ zeroIs P t (fresh s).s = true := by
  simp only [rowOk, Bool.and_eq_true] at h
  obtain ⟨⟨⟨h1, h2⟩, h3⟩, _⟩ := h
  split at h1
  · rename_i fs hu
    simp only [Bool.and_eq_true] at h1
    exact ⟨fs, hu, h1.1, h2, h3⟩
  · cases h1
theorem row_arr {t n e sz : Nat} {s : Sh} (h : rowOk P t (.arr n e sz s) = true) : P.underlying t = some (.array n e) ∧ sizeIs P e sz = true ∧ sizeIs P t s.cells = true ∧ zeroIs P t (fresh s).s = true ∧ aggS s = true := by
  simp only [rowOk, Bool.and_eq_true] at h
  obtain ⟨⟨⟨⟨h1, h2⟩, h3⟩, h4⟩, h5⟩ := h
  split at h1
  · rename_i n' e' hu
    simp only [Bool.and_eq_true] at h1
    obtain rfl := Nat.eq_of_beq_eq_true h1.1
    obtain rfl := Nat.eq_of_beq_eq_true h1.2
    exact ⟨hu, h2, h3, h4, h5⟩
  · cases h1
theorem row_eq {t : Nat} {s : Sh} {offs szs : List Nat} (h : rowOk P t (.struct s offs szs true) = true) : ∃ fs, P.underlying t = some (.struct fs) ∧ eqOk P t s fs.toList = true := by
  simp only [rowOk, Bool.and_eq_true] at h
  obtain ⟨⟨⟨h1, h2⟩, h3⟩, _⟩ := h
  split at h1
  · rename_i fs hu
    simp only [Bool.and_eq_true, Bool.not_true, Bool.false_or] at h1
    exact ⟨fs, hu, h1.2⟩
  · cases h1
theorem row_agg {t : Nat} {s : Sh} {offs szs : List Nat} {eq : Bool} (h : rowOk P t (.struct s offs szs eq) = true) : aggS s = true := by
  simp only [rowOk, Bool.and_eq_true] at h
  exact h.2
theorem row_slice {t e : Nat} {a : Sh} (h : rowOk P t (.slice e a) = true) : P.underlying t = some (.slice e) ∧ sizeIs P t 1 = true ∧ zeroIs P t .nil = true ∧ sizeIs P e a.cells = true ∧ a.cells ≠ 0 ∧ bytesIs P e = true ∧ zeroIs P e (fresh a).s = true := by
  simp only [rowOk, Bool.and_eq_true, Bool.not_eq_true'] at h
  obtain ⟨⟨⟨⟨⟨⟨⟨h1, h2⟩, h3⟩, h4⟩, h5⟩, h6⟩, h7⟩, _⟩ := h
  split at h1
  · rename_i e' hu
    exact ⟨by rw [hu, Nat.eq_of_beq_eq_true h1], h2, h3, h4, Nat.ne_of_beq_eq_false h5, h6, h7⟩
  · cases h1
theorem row_pure {t e : Nat} {a : Sh} (h : rowOk P t (.slice e a) = true) : a.pure = true ∧ a.boxable = true := by
  simp only [rowOk, Bool.and_eq_true] at h
  exact h.2
theorem pure_under {n : Nat} : ∀ {a : Sh}, a.pure = true → a.under n
  | .undef, _ => trivial
  | .int _, _ => trivial
  | .bool, _ => trivial
  | .str, _ => trivial
  | .unit, _ => trivial
  | .pair a b, h => by
    simp only [Sh.pure, Bool.and_eq_true] at h
    exact ⟨pure_under h.1, pure_under h.2⟩
  | .slice a, h => pure_under (a := a) h
  | .itf, _ => trivial
  | .opt a, h => pure_under (a := a) h
theorem mat_nil : ∀ {a s : Sh}, a.under 0 → a.mat s = []
  | .ref _ _, _, h => absurd h (Nat.not_lt_zero _)
  | .ptr _ _, _, h => absurd h (Nat.not_lt_zero _)
  | .elt _ _ _, _, h => absurd h (Nat.not_lt_zero _)
  | .pair a b, s, h => by
    cases s <;> first | rfl | (simp only [Sh.mat, mat_nil h.1, mat_nil h.2]; rfl)
  | .tup a b, s, h => by
    cases s <;> first | rfl | (simp only [Sh.mat, mat_nil h.1, mat_nil h.2]; rfl)
  | .fn _ c, s, h => by
    cases s <;> first | rfl | exact mat_nil (a := c) h
  | .undef, s, _ => by cases s <;> rfl
  | .int _, s, _ => by cases s <;> rfl
  | .bool, s, _ => by cases s <;> rfl
  | .str, s, _ => by cases s <;> rfl
  | .unit, s, _ => by cases s <;> rfl
  | .slice _, s, _ => by cases s <;> rfl
  | .lit _, s, _ => by cases s <;> rfl
  | .nil, s, _ => by cases s <;> rfl
  | .itf, s, _ => by cases s <;> rfl
  | .pnil, s, _ => by cases s <;> rfl
  | .opt _, s, _ => by cases s <;> rfl
  | .adr _, s, _ => by cases s <;> rfl
/-- a type of one cell -/
theorem row_cell {t : Nat} {s : Sh} (h : rowOk P t (.cell s) = true) : (∃ d, P.underlying t = some d ∧ aggD d = false) ∧ sizeIs P t 1 = true ∧ zeroIs P t (fresh s).s = true := by
  simp only [rowOk, Bool.and_eq_true] at h
  obtain ⟨⟨h1, h2⟩, h3⟩ := h
  refine ⟨?_, h2, h3⟩
  split at h1
  all_goals first
    | (cases h1; done)
    | (rename_i hu; exact ⟨_, hu, rfl⟩)
    | (rename_i hu _; exact ⟨_, hu, rfl⟩)

theorem run_fieldAt {t : Nat} {fs : Array Field} {offs szs : List Nat} {f q : Nat} {ad : Addr} (hu : P.underlying t = some (.struct fs)) (hs : sizesOk P fs.toList offs szs = true) (hq : offs[f]? = some q) (w : World) :
    (Instr.fieldAt t (.pointer (some ad)) f).run P w = .ok (.pointer (some (ad.add q))) w := by
  obtain ⟨fd, n, hf, rfl, _, hn, h0⟩ := sizesOk_at hs hq
  have hf' : fs[f]? = some fd := by simpa using hf
  have hsz := run_sizeOf_is hn w
  simp [Instr.fieldAt, Sem.run_bind, run_underlying hu w, hf', Instr.sureAddr, fieldPlace, hsz, h0]

theorem At_drop {w : World} {ok : Nat → Prop} {ad : Addr} {m : List Value} (h : At w ok ad m) (q : Nat) : At w ok (ad.add q) (m.drop q) := by
  intro j v hv
  rw [List.getElem?_drop] at hv
  rw [add_block, Addr.add_add]
  exact h (q + j) v hv
theorem At_take {w : World} {ok : Nat → Prop} {ad : Addr} {m : List Value} (h : At w ok ad m) (q : Nat) : At w ok ad (m.take q) := by
  intro j v hv
  rw [List.getElem?_take] at hv
  split at hv
  · exact h j v hv
  · cases hv

theorem thenC_some {R : Type} {x : Option SV} {k : SV → Option R} {r : R} (h : thenC x k = some r) : ∃ v, x = some v ∧ k v = some r := by
  cases x with
  | none => cases h
  | some v => exact ⟨v, rfl, h⟩

theorem dropC_under : ∀ {n : Nat} {x r : SV} {m : Nat}, x.s.under m → dropC n x = some r → r.s.under m
  | 0, x, r, m, h, e => by simp only [dropC, Option.some.injEq] at e; subst e; exact h
  | n + 1, ⟨s, d⟩, r, m, h, e => by
    cases s <;> simp only [dropC, reduceCtorEq] at e
    exact dropC_under (x := ⟨_, _⟩) h.2 e
theorem takeC_under : ∀ {n : Nat} {x r : SV} {m : Nat}, x.s.under m → takeC n x = some r → r.s.under m
  | 0, x, r, m, h, e => by simp only [takeC, Option.some.injEq] at e; subst e; trivial
  | n + 1, ⟨s, d⟩, r, m, h, e => by
    cases s <;> simp only [takeC, reduceCtorEq] at e
    split at e
    · rename_i r' e'
      simp only [Option.some.injEq] at e
      subst e
      exact ⟨h.1, takeC_under (x := ⟨_, _⟩) h.2 e'⟩
    · cases e
theorem headC_under {x r : SV} {m : Nat} (h : x.s.under m) (e : headC x = some r) : r.s.under m := by
  obtain ⟨s, d⟩ := x
  cases s <;> simp only [headC, reduceCtorEq, Option.some.injEq] at e
  subst e
  exact h.1
theorem part_under {q : TK} {x r : SV} {m : Nat} (h : x.s.under m) (e : q.part x = some r) : r.s.under m := by
  unfold TK.part at e
  split at e
  · exact takeC_under h e
  · exact takeC_under h e
  · exact headC_under h e
theorem boxOf_under {x : SV} {m : Nat} (h : x.s.under m) : (boxOf x).s.under m := by
  obtain ⟨s, d⟩ := x
  cases s <;> first | exact h | exact ⟨h, trivial⟩

theorem bind_some {α R : Type} {x : Option α} {k : α → Option R} {r : R} (h : x.bind k = some r) : ∃ y, x = some y ∧ k y = some r := Option.bind_eq_some_iff.1 h
theorem got_fieldAddr {tt : TT} (hT : TTok P tt) {t : Nat} {s : Sh} {offs szs : List Nat} {x : Operand} {f : Nat} {eq : Bool} (ht : tt t = some (.struct s offs szs eq)) (hU : Und sl rd new)
    (h : (match offs[f]?, evalO sl x with
      | some q, ⟨.ptr l o, _⟩ => k ⟨.ptr l (o + q), ()⟩ none
      | some q, ⟨.adr a, d⟩ => thenC (dropC q ⟨a, d⟩) fun r => k ⟨.adr r.s, r.d⟩ none
      | some q, ⟨.opt a, d⟩ => d.bind fun y => thenC (dropC q ⟨a, y⟩) fun r => k ⟨.adr r.s, r.d⟩ none
      | some q, ⟨.elt l a o, i⟩ => k ⟨.elt l a (o + q), i⟩ none
      | _, _ => none) = some r) : Got P ⟨dst, .fieldAddr t x f, ty, pos, after, guard⟩ sl rd new k r := by
  obtain ⟨fs, hu, hs, _, _⟩ := row_struct (hT t _ ht)
  have hx := evalO_under hU.slots x
  split at h
  · rename_i q l o d hq e
    rw [e] at hx
    refine Got.pure h hx fun w ok η a hsl _ => ?_
    obtain ⟨b, hb, hv⟩ := V_ptr (hsl x (by simp [Op.operands])) e
    refine ⟨.pointer (some ⟨b, o + q, none⟩), ?_, b, hb, rfl⟩
    simp [execOp, hv, run_fieldAt hu hs hq w]
    unfold Addr.add; split <;> simp_all
  · rename_i q a d hq e
    obtain ⟨r', e', h⟩ := thenC_some h
    rw [e] at hx
    have hr : r'.s.under 0 := dropC_under (x := ⟨a, d⟩) hx e'
    refine Got.pure h hr fun w ok η ac hsl _ => ?_
    obtain ⟨ad, m, hv, hm, hc⟩ := V_adr (hsl x (by simp [Op.operands])) e
    refine ⟨.pointer (some (ad.add q)), by simp [execOp, hv, run_fieldAt hu hs hq w], ad.add q, m.drop q, rfl, At_drop hm q, dropC_C (x := ⟨a, d⟩) hc e'⟩
  · rename_i q a d hq e
    obtain ⟨y, rfl, h⟩ := bind_some h
    obtain ⟨r', e', h⟩ := thenC_some h
    rw [e] at hx
    have hr : r'.s.under 0 := dropC_under (x := ⟨a, y⟩) hx e'
    refine Got.pure h hr fun w ok η ac hsl _ => ?_
    obtain ⟨ad, m, hv, hm, hc⟩ := V_opt (hsl x (by simp [Op.operands])) e
    refine ⟨.pointer (some (ad.add q)), by simp [execOp, hv, run_fieldAt hu hs hq w], ad.add q, m.drop q, rfl, At_drop hm q, dropC_C (x := ⟨a, y⟩) hc e'⟩
  · rename_i q l a o i hq e
    rw [e] at hx
    refine Got.pure h hx fun w ok η ac hsl _ => ?_
    obtain ⟨b, n, cap, hb, hv⟩ := V_elt (hsl x (by simp [Op.operands])) e
    refine ⟨.pointer (some ⟨b, i.toNat * a.cells + (o + q), none⟩), ?_, b, n, cap, hb, rfl⟩
    simp [execOp, hv, run_fieldAt hu hs hq w]
    unfold Addr.add; split <;> simp_all; omega
  · cases h

/-- a value of type t out of cells at an address -/
theorem run_loadAt {tt : TT} (hT : TTok P tt) {t : Nat} {q : TK} (ht : tt t = some q) {w : World} {ok ok' : Nat → Prop} {η : Nat → Value} {ad : Addr} {m : List Value} {x v : SV}
    (hm : At w ok' ad m) (hc : C w ok η x.s x.d m) (e : q.part x = some v) : ∃ val, (Instr.loadAt t (.pointer (some ad))).run P w = .ok val w ∧ VS w ok η v val := by
  have cell : ∀ d, P.underlying t = some d → aggD d = false → headC x = some v → ∃ val, (Instr.loadAt t (.pointer (some ad))).run P w = .ok val w ∧ VS w ok η v val := by
    intro d hu hd e
    obtain ⟨hs, u, rest, rfl, h1⟩ := headC_C hc e
    have h0 := hm 0 u (by simp)
    have ha : ad.add 0 = ad := by simp [Addr.add]
    rw [ha] at h0
    refine ⟨u, by simp [Instr.loadAt, Instr.sureAddr, run_loadVar_cell hu hd h0.2], ?_⟩
    obtain ⟨s, d⟩ := v
    cases s <;> first | exact h1 | (simp [Sh.single] at hs; done) | trivial
  have agg : ∀ (d : TypeDesc) (s : Sh), P.underlying t = some d → aggD d = true → sizeIs P t s.cells = true → takeC s.cells x = some v → ∃ val, (Instr.loadAt t (.pointer (some ad))).run P w = .ok val w ∧ VS w ok η v val := by
    intro dd s hu hda hsz e
    have hv : C w ok η v.s v.d (m.take s.cells) := takeC_C hc e
    have hl : (m.take s.cells).length = s.cells := by
      have h1 := C_length hv
      have h2 : s.cells ≤ x.s.cells := by
        have : ∀ {n : Nat} {x r : SV}, takeC n x = some r → n ≤ x.s.cells ∧ r.s.cells = n := by
          intro n
          induction n with
          | zero => intro x r e; simp only [takeC, Option.some.injEq] at e; subst e; exact ⟨Nat.zero_le _, rfl⟩
          | succ n ih =>
            rintro ⟨s, d⟩ r e
            cases s <;> simp only [takeC, reduceCtorEq] at e
            split at e
            · rename_i r' e'
              simp only [Option.some.injEq] at e
              subst e
              have := ih e'
              simp only [Sh.cells] at this ⊢
              omega
            · cases e
        exact (this e).1
      have h3 := C_length hc
      simp only [List.length_take]
      omega
    refine ⟨.agg (m.take s.cells).toArray, ?_, ?_⟩
    · have := run_loadVar_agg (P := P) (w := w) (t := t) (d := dd) (m := m.take s.cells) (ad := ad) hu hda (by rw [hl]; exact hsz) (fun j v hv => ((At_take hm s.cells) j v hv).2)
      simp [Instr.loadAt, Instr.sureAddr, this]
    · rcases takeC_agg e with ⟨h1, h2⟩ | ⟨a, b, h1⟩
      · obtain ⟨s', d'⟩ := v
        subst h1
        simp only [C] at hv
        rw [hv]
        rfl
      · obtain ⟨s', d'⟩ := v
        subst h1
        exact ⟨(m.take s.cells).toArray, rfl, by simpa using hv⟩
  cases q with
  | cell s =>
    obtain ⟨⟨d, hu, hd⟩, _⟩ := row_cell (hT t _ ht)
    exact cell d hu hd e
  | slice e' a =>
    obtain ⟨hu, _⟩ := row_slice (hT t _ ht)
    exact cell _ hu rfl e
  | struct s offs szs eq =>
    obtain ⟨fs, hu, _, hsz, _⟩ := row_struct (hT t _ ht)
    exact agg _ s hu rfl hsz e
  | arr n' e' sz s =>
    obtain ⟨hu, _, hsz, _, _⟩ := row_arr (hT t _ ht)
    exact agg _ s hu rfl hsz e

theorem OK1_box {w : World} {ok : Nat → Prop} {η : Nat → Value} {l o : Nat} {s : Sh} {d : s.D} {r : SV} (h : OK1 w ok η l (.box s d)) {b : Nat} (hb : η l = .pointer (some ⟨b, 0, none⟩)) (e : dropC o ⟨s, d⟩ = some r) :
    ∃ m, At w (fun _ => True) ⟨b, o, none⟩ m ∧ C w ok η r.s r.d m := by
  obtain ⟨b', cs, T, h1, h2, h3⟩ := h
  obtain rfl : b' = b := by rw [h1] at hb; simpa using hb
  refine ⟨cs.toList.drop o, ?_, dropC_C (x := ⟨s, d⟩) h3 e⟩
  intro j v hv
  refine ⟨trivial, ?_⟩
  rw [add_mid, cell_of_row w b' (o + j) cs T (0, 0) h2]
  rw [List.getElem?_drop] at hv
  simpa using hv

theorem seg_at {m : List Value} {i n j : Nat} {v : Value} (h : (seg m i n)[j]? = some v) : m[i + j]? = some v ∧ j < n := by
  unfold seg at h
  rw [List.getElem?_take] at h
  split at h
  · rw [List.getElem?_drop] at h
    exact ⟨h, by assumption⟩
  · cases h
theorem At_seg {w : World} {ok : Nat → Prop} {ad : Addr} {m : List Value} (h : At w ok ad m) (i n : Nat) : At w ok (ad.add i) (seg m i n) := At_take (At_drop h i) n

theorem geti_some {α : Type} {xs : List α} {i : Int} {y : α} (h : geti xs i = some y) : ∃ hi : i.toNat < xs.length, 0 ≤ i ∧ xs[i.toNat] = y := by
  unfold geti at h
  by_cases h0 : 0 ≤ i
  · simp only [h0, decide_true, cond_true] at h
    obtain ⟨hi, h⟩ := List.getElem?_eq_some_iff.1 h
    exact ⟨hi, h0, h⟩
  · simp [h0] at h

/-- cells of an element are cells of it as a list of cells -/
theorem C_boxOf {w : World} {ok : Nat → Prop} {η : Nat → Value} {a : Sh} {x : a.D} {m : List Value} (h : C w ok η a x m) : C w ok η (boxOf ⟨a, x⟩).s (boxOf ⟨a, x⟩).d m := by
  have hl := C_length h
  cases a <;> first
    | exact h
    | exact h.elim
    | (match m, hl with
       | [v], _ => exact ⟨rfl, v, [], rfl, h, rfl⟩)

theorem got_load {tt : TT} (hT : TTok P tt) {t : Nat} {q : TK} {x : Operand} (ht : tt t = some q) (hU : Und sl rd new)
    (h : (match evalO sl x with
      | ⟨.ptr l o, _⟩ => match rd l with
        | some (.box s d) => thenC (dropC o ⟨s, d⟩) fun r => thenC (q.part r) fun v => k v none
        | _ => none
      | ⟨.adr a, d⟩ => thenC (q.part ⟨a, d⟩) fun v => k v none
      | ⟨.opt a, d⟩ => d.bind fun y => thenC (q.part ⟨a, y⟩) fun v => k v none
      | ⟨.elt l a o, i⟩ => match rd l with
        | some (.arr _ b xs) => if h : b = a then (geti xs i).bind fun y => thenC (dropC o (boxOf ⟨b, y⟩)) fun r => thenC (q.part r) fun v => k v none else none
        | _ => none
      | _ => none) = some r) : Got P ⟨dst, .load t x, ty, pos, after, guard⟩ sl rd new k r := by
  have hx := evalO_under hU.slots x
  split at h
  · rename_i l o d e
    split at h
    · rename_i s d' hl
      obtain ⟨r', e1, h⟩ := thenC_some h
      obtain ⟨v, e2, h⟩ := thenC_some h
      have hs : s.under new := (hU.objs l _ hl).1
      refine Got.pure h (part_under (dropC_under (x := ⟨s, d'⟩) hs e1) e2) fun w ok η ac hsl hrd => ?_
      obtain ⟨b, hb, hv⟩ := V_ptr (hsl x (by simp [Op.operands])) e
      obtain ⟨m, hm, hc⟩ := OK1_box (hrd l _ hl) hb e1
      obtain ⟨val, hr, hval⟩ := run_loadAt hT ht hm hc e2
      exact ⟨val, by simp [execOp, hv, hr], hval⟩
    · cases h
  · rename_i a d e
    obtain ⟨v, e2, h⟩ := thenC_some h
    rw [e] at hx
    have hu := part_under (x := ⟨a, d⟩) hx e2
    refine Got.pure h (under_mono (Nat.zero_le _) hu) fun w ok η ac hsl hrd => ?_
    obtain ⟨ad, m, hv, hm, hc⟩ := V_adr (hsl x (by simp [Op.operands])) e
    obtain ⟨val, hr, hval⟩ := run_loadAt hT ht (x := ⟨a, d⟩) hm hc e2
    exact ⟨val, by simp [execOp, hv, hr], hval⟩
  · rename_i a d e
    obtain ⟨y, rfl, h⟩ := bind_some h
    obtain ⟨v, e2, h⟩ := thenC_some h
    rw [e] at hx
    have hu := part_under (x := ⟨a, y⟩) hx e2
    refine Got.pure h (under_mono (Nat.zero_le _) hu) fun w ok η ac hsl hrd => ?_
    obtain ⟨ad, m, hv, hm, hc⟩ := V_opt (hsl x (by simp [Op.operands])) e
    obtain ⟨val, hr, hval⟩ := run_loadAt hT ht (x := ⟨a, y⟩) hm hc e2
    exact ⟨val, by simp [execOp, hv, hr], hval⟩
  · rename_i l a o i e
    split at h
    · rename_i e' b xs hl
      split at h
      · rename_i hba
        subst hba
        obtain ⟨y, hy, h⟩ := bind_some h
        obtain ⟨r', e1, h⟩ := thenC_some h
        obtain ⟨v, e2, h⟩ := thenC_some h
        have hs : b.under 0 := (hU.objs l _ hl).1
        have hu := part_under (dropC_under (boxOf_under (x := ⟨b, y⟩) hs) e1) e2
        refine Got.pure h (under_mono (Nat.zero_le _) hu) fun w ok η ac hsl hrd => ?_
        obtain ⟨g, n, cap, hg, hv⟩ := V_elt (hsl x (by simp [Op.operands])) e
        obtain ⟨hi, h0, rfl⟩ := geti_some hy
        rcases hrd l _ hl with ⟨h1, h2⟩ | ⟨g', cap', cs, h1, h2, h3, h4, _, h5⟩
        · rw [h1] at hg; simp at hg
        · obtain rfl : g' = g := by rw [h1] at hg; simp at hg; exact hg.1
          have hc := dropC_C (x := boxOf ⟨b, xs[i.toNat]⟩) (C_boxOf (h5 i.toNat hi)) e1
          have hm : At w (fun _ => True) ⟨g', i.toNat * b.cells + o, none⟩ ((seg cs.toList (i.toNat * b.cells) b.cells).drop o) := by
            intro j v hv
            refine ⟨trivial, ?_⟩
            rw [List.getElem?_drop] at hv
            obtain ⟨hv, _⟩ := seg_at hv
            rw [add_mid, cell_of_row w g' _ cs e' (0, 0) h2]
            simpa [Nat.add_assoc] using hv
          obtain ⟨val, hr, hval⟩ := run_loadAt hT ht hm hc e2
          exact ⟨val, by simp [execOp, hv, hr], hval⟩
      · cases h
    · cases h
  · cases h
end ops
end Go.Rai
