/- A part of the proof of ScriptLines: general lemmas, with no condition of their own. -/
import Derived.Test.YtdmbeajlccebgaaGreatDoorRaiA
import Derived.Test.YtdmbeajlccebgaaGreatDoorRaiB
import Derived.Maps.AppendAt
/- The denotation, on: states, what changes memory, calls, regions, code. Definitions alone. -/
set_option linter.unusedVariables false
namespace Go.Rai

/-- a value in another form; an array of the call's own is told as it now stands -/
def coX (rd : Nat → Option Ob) : (t : Sh) → SV → Option t.D
  | .pair a b, ⟨.pair a' b', d⟩ => match coX rd a ⟨a', d.1⟩, coX rd b ⟨b', d.2⟩ with
    | some x, some y => some (x, y)
    | _, _ => none
  | .slice a, ⟨.ref l b, _⟩ => match rd l with
    | some (.arr _ c xs) => if h : c = a ∧ b = a then some (cast (congrArg (fun s => List (Sh.D s)) h.1) xs) else none
    | _ => none
  | t, v => co t v

/-- one result -/
inductive RS where
  | val (s : Sh)
  | own (e : Nat) (a : Sh)
@[reducible] def RS.D : RS → Type
  | .val s => s.D
  | .own _ a => List a.D
@[reducible] def ShD : List Sh → Type
  | [] => Unit
  | s :: r => s.D × ShD r
@[reducible] def RSD : List RS → Type
  | [] => Unit
  | s :: r => s.D × RSD r

/-- What is known of a function: the forms of its arguments and results, and what it computes. -/
structure Sig where
  ins : List Sh
  outs : List RS
  f : ShD ins → Option (RSD outs)
abbrev Env := Nat → List Sig

def argsCo (rd : Nat → Option Ob) : (l : List Sh) → List SV → Option (ShD l)
  | [], [] => some ()
  | s :: r, v :: vs => match coX rd s v, argsCo rd r vs with
    | some x, some y => some (x, y)
    | _, _ => none
  | _, _ => none
/-- does a form name memory that is only read? -/
def Sh.imm : Sh → Bool
  | .slice _ => true
  | .lit _ => true
  | .adr _ => true
  | .opt _ => true
  | .pair a b => a.imm || b.imm
  | .tup a b => a.imm || b.imm
  | .fn _ c => c.imm
  | _ => false
def Sh.hasRef : Sh → Bool
  | .ref _ _ => true
  | .pair a b => a.hasRef || b.hasRef
  | _ => false
/-- the places that a form names as arrays -/
def Sh.refs : Sh → List Nat
  | .ref l _ => [l]
  | .pair a b => a.refs ++ b.refs
  | _ => []
def RS.imm : RS → Bool
  | .val s => s.imm
  | .own _ a => a.imm
def anyB {α : Type} (p : α → Bool) : List α → Bool
  | [] => false
  | a :: r => p a || anyB p r
/-- results: as they come to the caller; places from n on -/
def outSV (n : Nat) : (l : List RS) → RSD l → List SV
  | [], _ => []
  | .val s :: r, d => ⟨s, d.1⟩ :: outSV (n + 1) r d.2
  | .own _ a :: r, d => ⟨.ref n a, ()⟩ :: outSV (n + 1) r d.2
def outObjs (n : Nat) (f : Nat → Option Ob) : (l : List RS) → RSD l → Nat → Option Ob
  | [], _ => f
  | .val _ :: r, d => outObjs (n + 1) f r d.2
  | .own e a :: r, d => upd (outObjs (n + 1) f r d.2) n (some (.arr e a d.1))
def tupOf : List SV → SV
  | [] => ⟨.unit, ()⟩
  | v :: r => ⟨.tup v.s (tupOf r).s, (v.d, (tupOf r).d)⟩
def resOf : List SV → SV
  | [] => .undef
  | [v] => v
  | a :: b :: r => tupOf (a :: b :: r)
/-- the cells that a function captured, as values -/
def capOk : Sh → Bool
  | .unit => true
  | .pair _ b => capOk b
  | _ => false
def capsS : (s : Sh) → s.D → List SV
  | .pair a b, d => ⟨a, d.1⟩ :: capsS b d.2
  | _, _ => []
termination_by structural s => s
def capsOf (v : SV) : List SV := capsS v.s v.d

def putSt (st : St) (dst : Option Nat) (v : SV) : Nat → SV :=
  match dst with | some d => upd st.slots d v | none => st.slots
def isLocked (st : St) (dst : Option Nat) : Bool :=
  match dst with | some d => st.lockS d | none => false
def addOb (f : Nat → Option Ob) (l : Nat) (ob : Option Ob) : Nat → Option Ob :=
  match ob with | some o => upd f l (some o) | none => f

/-- a value's size in memory, as its type says -/
def TK.size : TK → Nat
  | .struct s _ _ _ => s.cells
  | .arr _ _ _ s => s.cells
  | _ => 1
/-- an element's cells as the element -/
def unbox (a : Sh) (v : SV) : Option a.D := bif a.single then (match headC v with | some x => co a x | none => none) else co a v

def stepStore {R : Type} (tt : TT) (t : Nat) (x y : Operand) (st : St) (k : St → Option R) : Option R :=
  match tt t, boxIn (evalO st.slots y) with
  | some q, some v => bif Nat.beq v.s.cells q.size then (match evalO st.slots x with
      | ⟨.ptr l o, _⟩ => bif st.lockO l then none else (match st.objs l with
        | some (.box s d) => (match putC o ⟨s, d⟩ v with
          | some r => k { st with objs := upd st.objs l (some (.box r.s r.d)), next := st.next + 1 }
          | none => none)
        | _ => none)
      | ⟨.elt l a o, i⟩ => bif st.lockO l then none else (match st.objs l with
        | some (.arr q' b xs) => if h : b = a then (geti xs i).bind fun e => (match putC o (boxOf ⟨b, e⟩) v with
            | some r => (match unbox b r with
              | some e' => k { st with objs := upd st.objs l (some (.arr q' b (xs.set i.toNat e'))), next := st.next + 1 }
              | none => none)
            | none => none) else none
        | _ => none)
      | _ => none) else none
  | _, _ => none

/-- what is appended -/
def appSrc (rd : Nat → Option Ob) (a : Sh) : SV → Option (List a.D)
  | ⟨.nil, _⟩ => some []
  | ⟨.lit b, ys⟩ => if h : b = a then some (cast (congrArg (fun s => List (Sh.D s)) h) ys) else none
  | ⟨.slice b, ys⟩ => if h : b = a then some (cast (congrArg (fun s => List (Sh.D s)) h) ys) else none
  | _ => none
def stepAppend {R : Type} (tt : TT) (t : Nat) (x y : Operand) (dst : Option Nat) (st : St) (k : St → Option R) : Option R :=
  match tt t with
  | some (.slice e a) => (match appSrc st.objs a (evalO st.slots y) with
    | some ys => (match evalO st.slots x with
      | ⟨.nil, _⟩ => bif isLocked st dst then none else bif decide (ys.length ≤ LIM) then
          k { st with slots := putSt st dst ⟨.ref st.next a, ()⟩, objs := upd st.objs st.next (some (.arr e a ys)), next := st.next + 1 } else none
      | ⟨.ref l b, _⟩ => bif isLocked st dst || st.lockO l then none else (match st.objs l with
        | some (.arr e' c xs) => if h : c = a ∧ e' = e then (bif decide (xs.length + ys.length ≤ LIM) then
            k { st with slots := putSt st dst ⟨.ref st.next a, ()⟩, objs := upd (upd st.objs l none) st.next (some (.arr e a (cast (congrArg (fun s => List (Sh.D s)) h.1) xs ++ ys))), next := st.next + 1 } else none) else none
        | _ => none)
      | ⟨.lit b, xs⟩ => if h : b = a then (bif isLocked st dst then none else match ys with
        | [] => none
        | y :: ys => bif decide (xs.length + (y :: ys).length ≤ LIM) then
            k { st with slots := putSt st dst ⟨.ref st.next a, ()⟩, objs := upd st.objs st.next (some (.arr e a (cast (congrArg (fun s => List (Sh.D s)) h) xs ++ y :: ys))), next := st.next + 1 } else none) else none
      | _ => none)
    | none => none)
  | _ => none

/-- the first signature that fits -/
def stepSigs {R : Type} (args : List SV) (dst : Option Nat) (st : St) (k : St → Option R) : List Sig → Option R
  | [] => none
  | s :: r => match argsCo st.objs s.ins args with
    | some d => bif anyB (fun v => v.s.hasRef) args && anyB RS.imm s.outs then none else
        bif isLocked st dst then none else
        (s.f d).bind fun o => k { st with slots := putSt st dst (resOf (outSV st.next s.outs o)), objs := outObjs st.next st.objs s.outs o, next := st.next + s.outs.length }
    | none => stepSigs args dst st k r

def memN (n : Nat) : List Nat → Bool
  | [] => false
  | m :: r => Nat.beq n m || memN n r
def memO (l : List Nat) : Option Nat → Bool
  | some d => memN d l
  | none => false
/-- a literal of a slice, as an array of the call's own -/
def stepLit {R : Type} (tt : TT) (t n : Nat) (parts : Array (Nat × Operand)) (dst : Option Nat) (st : St) (k : St → Option R) : Option R :=
  match tt t with
  | some (.slice e a) => bif isLocked st dst then none else bif Nat.beq n parts.toList.length && Nat.ble (n * a.cells) 65536 then (match litParts a (evalO st.slots) 0 parts.toList with
    | some l => k { st with slots := putSt st dst ⟨.ref st.next a, ()⟩, objs := upd st.objs st.next (some (.arr e a l)), next := st.next + 1 }
    | none => none) else none
  | _ => none

/-- zero values -/
def zerosOf (a : Sh) (n : Int) : List a.D := List.replicate n.toNat a.zero
/-- zero values put behind nothing -/
def stepZeros {R : Type} (tt : TT) (t t' : Nat) (x y : Operand) (dst : Option Nat) (st : St) (k : St → Option R) : Option R :=
  match tt t, tt t', evalO st.slots x, evalO st.slots y with
  | some (.slice e a), some (.cell (.int _)), ⟨.nil, _⟩, ⟨.int _, n⟩ => bif isLocked st dst then none else bif decide (0 ≤ n ∧ n ≤ LIM) then
      k { st with slots := putSt st dst ⟨.ref st.next a, ()⟩, objs := upd st.objs st.next (some (.arr e a (zerosOf a n))), next := st.next + 1 } else none
  | _, _, _, _ => none
/-- a slice is made -/
def stepMake {R : Type} (tt : TT) (t : Nat) (x y : Operand) (dst : Option Nat) (st : St) (k : St → Option R) : Option R :=
  match tt t, evalO st.slots x, evalO st.slots y with
  | some (.slice e a), ⟨.int _, l⟩, ⟨.int _, c⟩ => bif isLocked st dst then none else bif decide (0 ≤ l ∧ l ≤ c ∧ c ≤ LIM) then
      k { st with slots := putSt st dst ⟨.ref st.next a, ()⟩, objs := upd st.objs st.next (some (.arr e a (zerosOf a l))), next := st.next + 1 } else none
  | _, _, _ => none
/-- the first elements of an array of the call's own, in its place -/
def stepSub {R : Type} (tt : TT) (t : Nat) (x hi : Operand) (dst : Option Nat) (st : St) (k : St → Option R) : Option R :=
  match tt t, evalO st.slots x, evalO st.slots hi with
  | some (.slice e a), ⟨.ref l b, _⟩, ⟨.int .i64, n⟩ => bif isLocked st dst || st.lockO l then none else (match st.objs l with
      | some (.arr e' c xs) => if h : c = a ∧ e' = e then (bif decide (0 ≤ n ∧ n ≤ xs.length) then
          k { st with slots := putSt st dst ⟨.ref st.next a, ()⟩, objs := upd (upd st.objs l none) st.next (some (.arr e a (cast (congrArg (fun s => List (Sh.D s)) h.1) (xs.take n.toNat)))), next := st.next + 1 } else none) else none
      | _ => none)
  | _, _, _ => none

/-- 'ow': the slots whose literals are arrays of the call's own -/
def stepOp {R : Type} (tt : TT) (env : Env) (ow : List Nat) (o : Oper) (st : St) (k : St → Option R) : Option R :=
  match o.op with
  | .store t x y => match o.dst with
    | none => stepStore tt t x y st k
    | some _ => none
  | .call { callee := .builtin .append, args, argTypes } => match args.toList, argTypes.toList with
    | [x, y], [t, t'] => bif Nat.beq t t' then stepAppend tt t x y o.dst st k else stepZeros tt t t' x y o.dst st k
    | _, _ => none
  | .call { callee := .value f, args, argTypes } => match evalO st.slots f with
    | ⟨.fn g c, d⟩ => bif capOk c then stepSigs (args.toList.map (evalO st.slots) ++ capsOf ⟨c, d⟩) o.dst st k (env g) else none
    | _ => none
  | .makeSlice t l c => stepMake tt t l c o.dst st k
  | .slice t x none (some hi) none => bif memO ow o.dst then stepSub tt t x hi o.dst st k else bif isLocked st o.dst then none else
      act tt (evalO st.slots) st.objs st.next o fun v ob => k { st with slots := putSt st o.dst v, objs := addOb st.objs st.next ob, next := st.next + 1 }
  | .buildSlice t n parts => bif memO ow o.dst then stepLit tt t n parts o.dst st k else bif isLocked st o.dst then none else
      act tt (evalO st.slots) st.objs st.next o fun v ob => k { st with slots := putSt st o.dst v, objs := addOb st.objs st.next ob, next := st.next + 1 }
  | _ => bif isLocked st o.dst then none else
      act tt (evalO st.slots) st.objs st.next o fun v ob => k { st with slots := putSt st o.dst v, objs := addOb st.objs st.next ob, next := st.next + 1 }

/-! an array of the call's own that is only read from here on -/
def fzS (l : Nat) (a : Sh) (xs : List a.D) : (s : Sh) → s.D → SV
  | .ref l' b, d => if Nat.beq l' l = true ∧ b = a then ⟨.slice a, xs⟩ else ⟨.ref l' b, d⟩
  | .pair p q, d => ⟨.pair (fzS l a xs p d.1).s (fzS l a xs q d.2).s, ((fzS l a xs p d.1).d, (fzS l a xs q d.2).d)⟩
  | .tup p q, d => ⟨.tup (fzS l a xs p d.1).s (fzS l a xs q d.2).s, ((fzS l a xs p d.1).d, (fzS l a xs q d.2).d)⟩
  | s, d => ⟨s, d⟩
termination_by structural s => s
def fzOb (l : Nat) (a : Sh) (xs : List a.D) : Ob → Ob
  | .box s d => .box (fzS l a xs s d).s (fzS l a xs s d).d
  | o => o
def fzO (st : St) (l : Nat) (a : Sh) (xs : List a.D) (q : Nat) : Option Ob :=
  bif Nat.beq q l then none else bif st.lockO q then st.objs q else (match st.objs q with | some x => some (fzOb l a xs x) | none => none)
def fz1 (st : St) (l : Nat) : St := match st.objs l with
  | some (.arr _ a xs) => bif st.lockO l then st else
      { st with slots := fun i => bif st.lockS i then st.slots i else fzS l a xs (st.slots i).s (st.slots i).d
                objs := fzO st l a xs }
  | _ => st
def frz : List Nat → St → St
  | [], st => st
  | l :: r, st => frz r (fz1 st l)
def refsOf (st : St) : List Operand → List Nat
  | [] => []
  | x :: r => (evalO st.slots x).s.refs ++ refsOf st r
def partsO : List (Nat × Operand) → List Operand
  | [] => []
  | p :: r => p.2 :: partsO r
/-- the arrays that are only read from this operation on -/
def needs (env : Env) (ow : List Nat) (o : Oper) (st : St) : List Nat := match o.op with
  | .call { callee := .value f, args, argTypes } => match evalO st.slots f with
    | ⟨.fn g _, _⟩ => bif anyB (fun s => anyB RS.imm s.outs) (env g) then refsOf st args.toList else []
    | _ => []
  | .slice _ x _ _ _ => bif memO ow o.dst then [] else refsOf st [x]
  | .buildSlice _ _ parts => refsOf st (partsO parts.toList)
  | .store _ x y => match evalO st.slots x with
    | ⟨.elt _ _ _, _⟩ => refsOf st [y]
    | _ => []
  | _ => []
def stepF {R : Type} (tt : TT) (env : Env) (ow : List Nat) (o : Oper) (st : St) (k : St → Option R) : Option R := stepOp tt env ow o (frz (needs env ow o st) st) k

/-! a region: its operations one by one; what is done under a guard is told up to its 'pick' -/
def isPickOf (d : Nat) (o : Oper) : Bool := match o.op with | .pick (.tmp c) _ _ => Nat.beq c d | _ => false
def splitAtPick (d : Nat) : List (Nat × Oper) → List (Nat × Oper) × Option ((Nat × Oper) × List (Nat × Oper))
  | [] => ([], none)
  | o :: r => bif isPickOf d o.2 then ([], some (o, r)) else (o :: (splitAtPick d r).1, (splitAtPick d r).2)
def dstOf (ops : Array Oper) (j : Nat) : Option Nat := match ops.toList[j]? with | some o => o.dst | none => none
def gEq : Option (Nat × Bool) → Option (Nat × Bool) → Bool
  | none, none => true
  | some a, some b => Nat.beq a.1 b.1 && a.2 == b.2
  | _, _ => false
def dsts : List (Nat × Oper) → List Nat
  | [] => []
  | o :: r => match o.2.dst with | some d => d :: dsts r | none => dsts r
def killS (f : Nat → SV) (l : List Nat) : Nat → SV := fun i => bif memN i l then .undef else f i
/-- all that is under the guard is passed over where the guard says no -/
def skipsB (ops : Array Oper) (j : Nat) (want : Bool) : List Nat → List (Nat × Oper) → Bool
  | _, [] => true
  | seen, o :: r => (match o.2.guard with
      | none => false
      | some (j', w') => (Nat.beq j' j && w' == want) || (match dstOf ops j' with | some d => memN d seen | none => false)) &&
    skipsB ops j want (match o.2.dst with | some d => d :: seen | none => seen) r

/-- does a guard that wants 'want' let by at b? -/
def onG (want b : Bool) : Bool := bif want then b else !b

def evalOps (tt : TT) (env : Env) (ow : List Nat) (ops : Array Oper) : (fuel : Nat) → {R : Type} → Option (Nat × Bool) → List (Nat × Oper) → St → (St → Option R) → Option R
  | 0, _, _, _, _, _ => none
  | _ + 1, _, _, [], st, k => k st
  | fuel + 1, _, g, (i, o) :: rest, st, k =>
    bif gEq o.guard none || gEq o.guard g then stepF tt env ow o st fun st => evalOps tt env ow ops fuel g rest st k
    else match o.guard with
      | none => none
      | some (j, want) => match dstOf ops j with
        | none => none
        | some dj => match splitAtPick dj ((i, o) :: rest) with
          | (inner, some ((_, p), rest')) => match st.slots dj, p.op with
            | ⟨.bool, b⟩, .pick _ x y =>
              bif memN dj (dsts inner) || !(skipsB ops j want [] inner) || !(gEq p.guard none || gEq p.guard g) || isLocked st p.dst || anyB st.lockS (dsts inner) then none else
              match evalO (killS st.slots (dsts inner)) (bif want then y else x) with
              | ⟨.bool, other⟩ =>
                Option.bind (bif onG want b then
                    evalOps tt env ow ops fuel (some (j, want)) inner { st with lockS := fun i => !(memN i (dsts inner)) || st.lockS i, lockO := fun l => Nat.blt l st.next || st.lockO l }
                      fun st' => (match evalO st'.slots (bif want then x else y) with | ⟨.bool, r⟩ => some r | _ => none)
                  else some other) fun r =>
                evalOps tt env ow ops fuel g rest' { st with slots := upd' (killS st.slots (dsts inner)) p.dst ⟨.bool, r⟩, next := st.next + 1 } k
              | _ => none
            | _, _ => none
          | _ => none
where upd' (f : Nat → SV) (d : Option Nat) (v : SV) : Nat → SV := match d with | some d => upd f d v | none => f

/-- words for what denotations come to -/
def chk {R : Type} (c : Bool) (x : Option R) : Option R := bif c then x else none
def joinS {α ρ : Type} (x : Option (α ⊕ ρ)) (f : α → Option ρ) : Option ρ := Option.bind x fun y => match y with
  | .inl d => f d
  | .inr r => some r
end Go.Rai

/- States and what they say of memory; steps that change memory. -/
set_option linter.unusedVariables false
set_option linter.unusedSimpArgs false
namespace Go.Rai
open Go.RowKit
variable {P : Program}

def blk : Value → Option Nat
  | .pointer (some a) => some a.block
  | .slice (some a) _ _ => some a.block
  | _ => none
/-- blocks that are only read: those that no place owns -/
def okOf (G : Nat → Prop) (objs : Nat → Option Ob) (η : Nat → Value) (b : Nat) : Prop := G b ∧ ∀ l x, objs l = some x → blk (η l) ≠ some b

/-- Below block B all is as it was, but for the blocks X. -/
structure KeptX (X : Nat → Prop) (B : Nat) (w w' : World) : Prop where
  os : w'.os = w.os
  tape : w'.tape = w.tape
  output : w'.output = w.output
  size : w.heap.size ≤ w'.heap.size
  block : ∀ k, k < B → ¬ X k → w'.heap[k]? = w.heap[k]?
theorem KeptX.refl (X : Nat → Prop) (B : Nat) (w : World) : KeptX X B w w := ⟨rfl, rfl, rfl, Nat.le_refl _, fun _ _ _ => rfl⟩
theorem KeptX.trans {X : Nat → Prop} {B : Nat} {a b c : World} (h : KeptX X B a b) (k : KeptX X B b c) : KeptX X B a c :=
  ⟨k.os.trans h.os, k.tape.trans h.tape, k.output.trans h.output, Nat.le_trans h.size k.size, fun i hi hx => (k.block i hi hx).trans (h.block i hi hx)⟩
theorem KeptX.below {X : Nat → Prop} {B : Nat} {a b c : World} (h : KeptX X B a b) (hB : B ≤ b.heap.size) (k : Below b.heap.size b c) : KeptX X B a c :=
  h.trans ⟨k.os, k.tape, k.output, k.size, fun i hi _ => k.block i (Nat.lt_of_lt_of_le hi hB)⟩

/-- X: the old blocks that may be written; G: the blocks that may be read as what does not turn -/
structure Fr where
  X : Nat → Prop
  G : Nat → Prop
  S : World → Prop
structure Inv (X : Fr) (w0 : World) (n : Nat) (st : St) (η : Nat → Value) (a : Act) (w : World) : Prop where
  kept : KeptX X.X w0.heap.size w0 w
  gnew : ∀ b, w0.heap.size ≤ b → X.G b
  gold : ∀ b, (w0.heap.size ≤ b ∨ X.X b) → X.G b
  size : a.tmps.size = n
  defers : a.defers = []
  slots : ∀ t, VS w (okOf X.G st.objs η) η (st.slots t) (a.tmps.getD t undef)
  objs : ∀ l x, st.objs l = some x → OK1 w (okOf X.G st.objs η) η l x
  mine : ∀ l x b, st.objs l = some x → blk (η l) = some b → (w0.heap.size ≤ b ∨ X.X b) ∧ b < w.heap.size
  apart : ∀ l l' x x' b, st.objs l = some x → st.objs l' = some x' → blk (η l) = some b → blk (η l') = some b → l = l'
  und : Und st.slots st.objs st.next
  locked : ∀ l, st.lockO l = true → l < st.next

/-- what a later state keeps of an earlier one -/
structure Later (st : St) (η : Nat → Value) (st' : St) (η' : Nat → Value) : Prop where
  place : ∀ l, l < st.next → η' l = η l
  next : st.next ≤ st'.next
  lockS : st'.lockS = st.lockS
  lockO : st'.lockO = st.lockO
  slots : ∀ i, st.lockS i = true → st'.slots i = st.slots i
  objs : ∀ l, st.lockO l = true → st'.objs l = st.objs l
theorem Later.refl (st : St) (η : Nat → Value) : Later st η st η := ⟨fun _ _ => rfl, Nat.le_refl _, rfl, rfl, fun _ _ => rfl, fun _ _ => rfl⟩
theorem Later.trans {st st' st'' : St} {η η' η'' : Nat → Value} (h : Later st η st' η') (k : Later st' η' st'' η'') : Later st η st'' η'' :=
  ⟨fun l hl => (k.place l (Nat.lt_of_lt_of_le hl h.next)).trans (h.place l hl), Nat.le_trans h.next k.next, k.lockS.trans h.lockS, k.lockO.trans h.lockO,
    fun i hi => (k.slots i (by rw [h.lockS]; exact hi)).trans (h.slots i hi), fun l hl => (k.objs l (by rw [h.lockO]; exact hl)).trans (h.objs l hl)⟩

/-- where the walk stands behind a step -/
def Post {R : Type} (X : Fr) (w0 : World) (n : Nat) (st : St) (η : Nat → Value) (k : St → Option R) (r : R) (a' : Act) (w' : World) : Prop :=
  ∃ st' η', Later st η st' η' ∧ Inv X w0 n st' η' a' w' ∧ k st' = some r

theorem upd_same {α : Type} (f : Nat → α) (k : Nat) (v : α) : upd f k v k = v := by unfold upd; rw [show Nat.beq k k = true by simp]; rfl
theorem upd_ne {α : Type} (f : Nat → α) {k i : Nat} (v : α) (h : i ≠ k) : upd f k v i = f i := by
  unfold upd
  have : Nat.beq i k = false := by
    cases hb : Nat.beq i k with
    | true => exact absurd (Nat.eq_of_beq_eq_true hb) h
    | false => rfl
  rw [this]; rfl

theorem getD_put (a : Act) (d t : Nat) (v : Value) (h : d < a.tmps.size) : (a.put (some d) v).tmps.getD t undef = if t = d then v else a.tmps.getD t undef := by
  simp only [Act.put]
  by_cases e : t = d
  · subst e; simp [h]
  · simp [e, Array.getElem?_setIfInBounds_ne (Ne.symm e)]
theorem getD_put_any (a : Act) (d t : Nat) (v : Value) : (a.put (some d) v).tmps.getD t undef = (if t = d ∧ d < a.tmps.size then v else a.tmps.getD t undef) := by
  by_cases h : d < a.tmps.size
  · rw [getD_put a d t v h]; simp [h]
  · simp only [Act.put]
    rw [Array.setIfInBounds, dif_neg h]
    simp [h]
theorem put_size (a : Act) (dst : Option Nat) (v : Value) : (a.put dst v).tmps.size = a.tmps.size := by cases dst <;> simp [Act.put]
theorem put_defers' (a : Act) (dst : Option Nat) (v : Value) : (a.put dst v).defers = a.defers := by cases dst <;> rfl

/-- slots behind a store into one: V of what is undefined is true, so a slot out of bounds does no harm but for its form: hence the bound -/
theorem slots_put {w : World} {ok : Nat → Prop} {η : Nat → Value} {sl : Nat → SV} {a : Act} {dst : Option Nat} {v : SV} {val : Value} (hd : ∀ d, dst = some d → d < a.tmps.size)
    (h : ∀ t, VS w ok η (sl t) (a.tmps.getD t undef)) (hv : VS w ok η v val) (t : Nat) :
    VS w ok η ((match dst with | some d => upd sl d v | none => sl) t) ((a.put dst val).tmps.getD t undef) := by
  cases dst with
  | none => exact h t
  | some d =>
    rw [getD_put a d t val (hd d rfl)]
    by_cases e : t = d
    · subst e; simp only [if_true]; rw [upd_same]; exact hv
    · simp only [e, if_false]; rw [upd_ne _ _ e]; exact h t

/-- AN OPERATION THAT LEAVES WHAT IS THERE ALONE, AS A STEP -/
theorem step_eff {o : Oper} {st : St} {X : Fr} {w0 : World} {n : Nat} {η : Nat → Value} {a : Act} {w : World} {v : SV} {ob : Option Ob}
    (hI : Inv X w0 n st η a w) (hd : ∀ d, o.dst = some d → d < n) (hl : isLocked st o.dst = false)
    (hvu : v.s.under (st.next + 1)) (hou : ∀ x, ob = some x → x.under st.next) {sl : Nat → SV} (hsl : ∀ t, Operand.tmp t ∈ o.op.operands → VS w (okOf X.G st.objs η) η (sl t) (a.tmps.getD t undef)) (hE : Eff P o sl st.objs st.next v ob)
    {K : Act → World → Prop} {Q : Exit → Act → World → Prop}
    (hK : ∀ val w' η', Later st η { st with slots := putSt st o.dst v, objs := addOb st.objs st.next ob, next := st.next + 1 } η' →
      Inv X w0 n { st with slots := putSt st o.dst v, objs := addOb st.objs st.next ob, next := st.next + 1 } η' (a.put o.dst val) w' → K (a.put o.dst val) w') : o.wp P a w K Q := by
  have hB : w0.heap.size ≤ w.heap.size := hI.kept.size
  obtain ⟨val, w', hrun, hbel, hres⟩ := hE w (okOf X.G st.objs η) η a hsl hI.objs
  unfold Oper.wp
  rw [hrun, Oper.upon_value]
  let η' : Nat → Value := match ob with | some _ => upd η st.next (.pointer (some ⟨w.heap.size, 0, none⟩)) | none => η
  have hη : ∀ l, l < st.next → η' l = η l := by
    intro l hl
    cases ob with
    | none => rfl
    | some x => exact upd_ne _ _ (Nat.ne_of_lt hl)
  have hob : ∀ x, ob = some x → η' st.next = .pointer (some ⟨w.heap.size, 0, none⟩) := by
    rintro x rfl
    exact upd_same _ _ _
  have hnone : ∀ l x, addOb st.objs st.next ob l = some x → (l < st.next ∧ st.objs l = some x) ∨ (l = st.next ∧ ob = some x) := by
    intro l x hx
    cases ob with
    | none => exact .inl ⟨(hI.und.objs l x hx).2, hx⟩
    | some y =>
      by_cases e : l = st.next
      · subst e; rw [addOb, upd_same] at hx; exact .inr ⟨rfl, hx⟩
      · rw [addOb, upd_ne _ _ e] at hx; exact .inl ⟨(hI.und.objs l x hx).2, hx⟩
  have hsame : ∀ l x, st.objs l = some x → addOb st.objs st.next ob l = some x := by
    intro l x hx
    cases ob with
    | none => exact hx
    | some y => rw [addOb, upd_ne _ _ (Nat.ne_of_lt (hI.und.objs l x hx).2)]; exact hx
  have hcell : ∀ (ad : Addr) u, w.cell? ad = some u → w'.cell? ad = some u := fun ad u hu => (hbel.cell (World.block_lt_of_cell? w ad hu)).trans hu
  have Kp : Keeps w (okOf X.G st.objs η) η w' (okOf X.G (addOb st.objs st.next ob) η') η' st.next := by
    refine ⟨fun ad u ho hu => ⟨⟨ho.1, ?_⟩, hcell ad u hu⟩, hη⟩
    intro l x hx hb
    rcases hnone l x hx with ⟨h1, h2⟩ | ⟨rfl, h2⟩
    · rw [hη l h1] at hb; exact ho.2 l x h2 hb
    · rw [hob x h2] at hb
      have := World.block_lt_of_cell? w ad hu
      simp [blk] at hb
      omega
  have hfree : ob = none → ∀ b, w.heap.size ≤ b → okOf X.G (addOb st.objs st.next ob) η' b := by
    rintro rfl b hb
    refine ⟨hI.gnew b (Nat.le_trans hB hb), ?_⟩
    intro l x hx hbl
    have := (hI.mine l x b hx hbl).2
    omega
  obtain ⟨hv, hnew⟩ := hres _ η' Kp hfree hob
  refine hK val w' η' ⟨hη, Nat.le_succ _, rfl, rfl, ?_, ?_⟩ ⟨hI.kept.below hB hbel, hI.gnew, hI.gold, ?_, ?_, ?_, ?_, ?_, ?_, ?_, fun l hl => Nat.lt_succ_of_lt (hI.locked l hl)⟩
  · intro i hi
    show putSt st o.dst v i = st.slots i
    cases hdst : o.dst with
    | none => rfl
    | some d =>
      have : i ≠ d := by
        rintro rfl
        rw [hdst] at hl
        simp only [isLocked] at hl
        rw [hl] at hi; cases hi
      exact upd_ne _ _ this
  · intro l hl
    show addOb st.objs st.next ob l = st.objs l
    cases ob with
    | none => rfl
    | some y =>
      by_cases e : l = st.next
      · exact absurd (hI.locked l hl) (by omega)
      · exact upd_ne _ _ e
  · rw [put_size]; exact hI.size
  · rw [put_defers']; exact hI.defers
  · exact slots_put (fun d hd' => by rw [hI.size]; exact hd d hd') (fun t => V_keeps Kp (hI.und.slots t) (hI.slots t)) hv
  · intro l x hx
    rcases hnone l x hx with ⟨h1, h2⟩ | ⟨rfl, h2⟩
    · have hold := hI.objs l x h2
      have hu := (hI.und.objs l x h2).1
      cases x with
      | box s d =>
        obtain ⟨b, cs, T, e1, e2, e3⟩ := hold
        refine ⟨b, cs, T, (hη l h1).trans e1, ?_, C_keeps Kp hu e3⟩
        rw [hbel.block b (by rcases Nat.lt_or_ge b w.heap.size with h | h; exact h; rw [Array.getElem?_eq_none h] at e2; cases e2)]
        exact e2
      | arr ty s xs =>
        rcases hold with ⟨e1, e2⟩ | ⟨b, cap, cs, e1, e2, e3, e4, e4', e5⟩
        · exact .inl ⟨(hη l h1).trans e1, e2⟩
        · refine .inr ⟨b, cap, cs, (hη l h1).trans e1, ?_, e3, e4, e4', fun i hi => C_keeps Kp (under_mono (Nat.zero_le _) hu) (e5 i hi)⟩
          rw [hbel.block b (by rcases Nat.lt_or_ge b w.heap.size with h | h; exact h; rw [Array.getElem?_eq_none h] at e2; cases e2)]
          exact e2
    · exact (hnew x h2).1
  · intro l x b hx hb
    rcases hnone l x hx with ⟨h1, h2⟩ | ⟨rfl, h2⟩
    · rw [hη l h1] at hb
      obtain ⟨h3, h4⟩ := hI.mine l x b h2 hb
      exact ⟨h3, Nat.lt_of_lt_of_le h4 hbel.size⟩
    · rw [hob x h2] at hb
      obtain rfl : w.heap.size = b := by simpa [blk] using hb
      have := (hnew x h2).2
      exact ⟨.inl hB, by omega⟩
  · intro l l' x x' b hx hx' hb hb'
    rcases hnone l x hx with ⟨h1, h2⟩ | ⟨rfl, h2⟩ <;> rcases hnone l' x' hx' with ⟨h1', h2'⟩ | ⟨rfl, h2'⟩
    · rw [hη l h1] at hb; rw [hη l' h1'] at hb'; exact hI.apart l l' x x' b h2 h2' hb hb'
    · rw [hη l h1] at hb; rw [hob x' h2'] at hb'
      have := (hI.mine l x b h2 hb).2
      simp [blk] at hb'; omega
    · rw [hη l' h1'] at hb'; rw [hob x h2] at hb
      have := (hI.mine l' x' b h2' hb').2
      simp [blk] at hb; omega
    · rfl
  · refine ⟨fun t => ?_, fun l x hx => ?_⟩
    · show (putSt st o.dst v t).s.under (st.next + 1)
      cases hdst : o.dst with
      | none => exact under_mono (Nat.le_succ _) (hI.und.slots t)
      | some d =>
        by_cases e : t = d
        · subst e; simp only [putSt, upd_same]; exact hvu
        · simp only [putSt]; rw [upd_ne _ _ e]; exact under_mono (Nat.le_succ _) (hI.und.slots t)
    · rcases hnone l x hx with ⟨h1, h2⟩ | ⟨rfl, h2⟩
      · refine ⟨?_, Nat.lt_succ_of_lt h1⟩
        have := (hI.und.objs l x h2).1
        cases x with
        | box s d => exact under_mono (Nat.le_succ _) this
        | arr ty s xs => exact this
      · refine ⟨?_, Nat.lt_succ_self _⟩
        have := hou x h2
        cases x with
        | box s d => exact under_mono (Nat.le_succ _) this
        | arr ty s xs => exact this

/-- AN OPERATION OF 'act' AS A STEP -/
theorem step_act {R : Type} {tt : TT} (hT : TTok P tt) {o : Oper} {st : St} {k : St → Option R} {r : R} {X : Fr} {w0 : World} {n : Nat} {η : Nat → Value} {a : Act} {w : World}
    (hI : Inv X w0 n st η a w) (hB : w0.heap.size ≤ w.heap.size) (hd : ∀ d, o.dst = some d → d < n) (hl : isLocked st o.dst = false)
    (h : act tt (evalO st.slots) st.objs st.next o (fun v ob => k { st with slots := putSt st o.dst v, objs := addOb st.objs st.next ob, next := st.next + 1 }) = some r)
    {K : Act → World → Prop} {Q : Exit → Act → World → Prop} (hK : ∀ a' w', Post X w0 n st η k r a' w' → K a' w') : o.wp P a w K Q := by
  obtain ⟨v, ob, hk, hvu, hvn, hou, hE⟩ := act_sound hT hI.und h
  exact step_eff hI hd hl hvu hou (fun t _ => hI.slots t) hE fun val w' η' hL hI' => hK _ _ ⟨_, η', hL, hI', hk⟩
end Go.Rai

/- Steps that change memory: a store, an append. -/
set_option linter.unusedVariables false
set_option linter.unusedSimpArgs false
namespace Go.Rai
open Go.RowKit
variable {P : Program}

theorem okOf_upd {G : Nat → Prop} {objs : Nat → Option Ob} {η : Nat → Value} {l : Nat} {x y : Ob} (h : objs l = some x) (b : Nat) : okOf G (upd objs l (some y)) η b ↔ okOf G objs η b := by
  constructor
  · rintro ⟨hg, ho⟩
    refine ⟨hg, ?_⟩
    intro l' x' hx'
    by_cases e : l' = l
    · subst e; exact ho l' y (upd_same _ _ _)
    · exact ho l' x' (by rw [upd_ne _ _ e]; exact hx')
  · rintro ⟨hg, ho⟩
    refine ⟨hg, ?_⟩
    intro l' x' hx'
    by_cases e : l' = l
    · subst e; exact ho l' x h
    · rw [upd_ne _ _ e] at hx'; exact ho l' x' hx'

theorem Ob.under_mono {x : Ob} {m n : Nat} (h : m ≤ n) (hx : x.under m) : x.under n := by
  cases x with
  | box s d => exact Rai.under_mono h hx
  | arr e s xs => exact hx

theorem OK1_keeps {w w' : World} {ok ok' : Nat → Prop} {η η' : Nat → Value} {n l l' : Nat} {x : Ob} (K : Keeps w ok η w' ok' η' n) (hp : η' l' = η l) (hu : x.under n) (hb : ∀ b, blk (η l) = some b → w'.heap[b]? = w.heap[b]?) (h : OK1 w ok η l x) : OK1 w' ok' η' l' x := by
  cases x with
  | box s d =>
    obtain ⟨b, cs, T, e1, e2, e3⟩ := h
    exact ⟨b, cs, T, hp.trans e1, by rw [hb b (by rw [e1]; rfl)]; exact e2, C_keeps K hu e3⟩
  | arr e s xs =>
    rcases h with ⟨e1, e2⟩ | ⟨b, cap, cs, e1, e2, e3, e4, e4', e5⟩
    · exact .inl ⟨hp.trans e1, e2⟩
    · exact .inr ⟨b, cap, cs, hp.trans e1, by rw [hb b (by rw [e1]; rfl)]; exact e2, e3, e4, e4', fun i hi => C_keeps K (Rai.under_mono (Nat.zero_le _) hu) (e5 i hi)⟩

/-- what is written at one place of the call's own -/
theorem inv_write {X : Fr} {w0 : World} {n : Nat} {st : St} {η : Nat → Value} {a : Act} {w w' : World} (hI : Inv X w0 n st η a w) {l b : Nat} {x y : Ob} (hx : st.objs l = some x) (hb : blk (η l) = some b)
    (hos : w'.os = w.os) (htape : w'.tape = w.tape) (hout : w'.output = w.output) (hsize : w'.heap.size = w.heap.size) (hheap : ∀ k, k ≠ b → w'.heap[k]? = w.heap[k]?) (hlock : st.lockO l = false)
    (hy : y.under st.next) (hnew : ∀ ok', Keeps w (okOf X.G st.objs η) η w' ok' η st.next → OK1 w' ok' η l y) :
    Later st η { st with objs := upd st.objs l (some y), next := st.next + 1 } η ∧ Inv X w0 n { st with objs := upd st.objs l (some y), next := st.next + 1 } η a w' := by
  have Kp : Keeps w (okOf X.G st.objs η) η w' (okOf X.G (upd st.objs l (some y)) η) η st.next := by
    refine ⟨fun ad u ho hu => ⟨(okOf_upd hx _).2 ho, ?_⟩, fun _ _ => rfl⟩
    have hne : ad.block ≠ b := by
      rintro rfl
      exact ho.2 l x hx hb
    rw [World.cell?_of_block (w := w) (hheap _ hne)]
    exact hu
  have hl : l < st.next := (hI.und.objs l x hx).2
  refine ⟨⟨fun _ _ => rfl, Nat.le_succ _, rfl, rfl, fun _ _ => rfl, fun l' hl' => upd_ne _ _ (by rintro rfl; rw [hlock] at hl'; cases hl')⟩,
    ⟨hI.kept.trans ⟨hos, htape, hout, Nat.le_of_eq hsize.symm, fun k hk hX => ?_⟩, hI.gnew, hI.gold, hI.size, hI.defers, fun t => V_keeps Kp (hI.und.slots t) (hI.slots t), ?_, ?_, ?_, ⟨fun t => under_mono (Nat.le_succ _) (hI.und.slots t), ?_⟩, fun l' hl' => Nat.lt_succ_of_lt (hI.locked l' hl')⟩⟩
  · refine hheap k ?_
    rintro rfl
    rcases (hI.mine l x k hx hb).1 with h | h
    · omega
    · exact hX h
  · intro l' x' hx'
    by_cases e : l' = l
    · subst e
      have hx' : upd st.objs l' (some y) l' = some x' := hx'
      rw [upd_same] at hx'
      cases hx'
      exact hnew _ Kp
    · have hx' : upd st.objs l (some y) l' = some x' := hx'
      rw [upd_ne _ _ e] at hx'
      refine OK1_keeps Kp rfl (hI.und.objs l' x' hx').1 (fun b' hb' => hheap b' ?_) (hI.objs l' x' hx')
      rintro rfl
      exact e (hI.apart l' l x' x b' hx' hx hb' hb)
  · intro l' x' b' hx' hb'
    by_cases e : l' = l
    · subst e
      obtain ⟨h1, h2⟩ := hI.mine l' x b' hx hb'
      exact ⟨h1, by omega⟩
    · have hx' : upd st.objs l (some y) l' = some x' := hx'
      rw [upd_ne _ _ e] at hx'
      obtain ⟨h1, h2⟩ := hI.mine l' x' b' hx' hb'
      exact ⟨h1, by omega⟩
  · intro l1 l2 x1 x2 b' h1 h2 hb1 hb2
    have conv : ∀ l' x', upd st.objs l (some y) l' = some x' → ∃ x'', st.objs l' = some x'' := by
      intro l' x' h
      by_cases e : l' = l
      · subst e; exact ⟨x, hx⟩
      · rw [upd_ne _ _ e] at h; exact ⟨x', h⟩
    obtain ⟨y1, hy1⟩ := conv l1 x1 h1
    obtain ⟨y2, hy2⟩ := conv l2 x2 h2
    exact hI.apart l1 l2 y1 y2 b' hy1 hy2 hb1 hb2
  · intro l' x' hx'
    by_cases e : l' = l
    · subst e
      have hx' : upd st.objs l' (some y) l' = some x' := hx'
      rw [upd_same] at hx'
      cases hx'
      exact ⟨Ob.under_mono (Nat.le_succ _) hy, Nat.lt_succ_of_lt hl⟩
    · have hx' : upd st.objs l (some y) l' = some x' := hx'
      rw [upd_ne _ _ e] at hx'
      obtain ⟨h1, h2⟩ := hI.und.objs l' x' hx'
      exact ⟨Ob.under_mono (Nat.le_succ _) h1, Nat.lt_succ_of_lt h2⟩

theorem setRow_heap (w : World) (g k : Nat) (cs : Array Value) (h : k ≠ g) : (w.setRow g cs).heap[k]? = w.heap[k]? := by
  simp only [World.setRow, Array.getElem?_modify]
  rw [if_neg (Ne.symm h)]
theorem setRow_at (w : World) (g : Nat) (cs old : Array Value) (T : TypeId) (fr : Nat × Nat) (h : w.heap[g]? = some (.cells old T fr)) : (w.setRow g cs).heap[g]? = some (.cells cs T fr) := by
  simp only [World.setRow, Array.getElem?_modify, if_true, h, Option.map_some]
theorem setRow_size (w : World) (g : Nat) (cs : Array Value) : (w.setRow g cs).heap.size = w.heap.size := by simp [World.setRow]

theorem row_sizeIs {t : Nat} {q : TK} (h : rowOk P t q = true) : sizeIs P t q.size = true := by
  cases q with
  | cell s => exact (row_cell h).2.1
  | struct s offs szs eq => exact (row_struct h).choose_spec.2.2.1
  | slice e a => exact (row_slice h).2.1
  | arr n e sz s => exact (row_arr h).2.2.1

/-- a store of cells into a row of the call's own -/
theorem run_store_row {t : Nat} {q : TK} (hq : rowOk P t q = true) {w : World} {g o : Nat} {T : TypeId} {cur : Array Value} {val : Value} (hg : w.heap[g]? = some (.cells cur T (0, 0))) (hs : val.cells.size = q.size) (hfit : o + val.cells.size ≤ cur.size)
    (h1 : ∀ v ∈ val.cells.toList, v.oneCell' = true) :
    (Instr.storeAt t (.pointer (some ⟨g, o, none⟩)) val).run P w = .ok () (w.setRow g (cur.toList.take o ++ val.cells.toList ++ cur.toList.drop (o + val.cells.toList.length)).toArray) := by
  have hst := run_storeCells_at P g o T val.cells.toList 0 cur w hg (by simp; omega) h1
  have hsz := run_sizeOf_is (row_sizeIs hq) w
  simp only [Instr.storeAt, Instr.sureAddr, pure_bind, storeVar, Sem.run_bind, hsz, Result.andThen_ok, hs, ne_eq, not_true_eq_false, if_false]
  simpa using hst

theorem putC_under {s : Sh} {d : s.D} {n m : Nat} {v r : SV} (hs : s.under m) (hv : v.s.under m) (e : putC n ⟨s, d⟩ v = some r) : r.s.under m := by
  have put : ∀ {s : Sh} {d : s.D} {n : Nat} {v r : SV}, s.under m → v.s.under m → putS s d n v = some r → r.s.under m := by
    intro s
    induction s with
    | pair a b iha ihb =>
      intro d n v r hs hv e
      cases n with
      | succ n =>
        simp only [putS] at e
        split at e
        · rename_i r' e'
          simp only [Option.some.injEq] at e
          subst e
          exact ⟨hs.1, ihb hs.2 hv e'⟩
        · cases e
      | zero =>
        obtain ⟨vs, vd⟩ := v
        cases vs <;> simp only [putS, reduceCtorEq, Option.some.injEq] at e
        · subst e; exact hs
        · split at e
          · rename_i r' e'
            simp only [Option.some.injEq] at e
            subst e
            exact ⟨hv.1, ihb (v := ⟨_, _⟩) hs.2 hv.2 e'⟩
          · cases e
    | _ =>
      intro d n v r hs hv e
      obtain ⟨vs, vd⟩ := v
      cases n <;> cases vs <;> simp only [putS, reduceCtorEq, Option.some.injEq] at e <;> (subst e; exact hs)
  exact put hs hv e

/-- the element behind a store into its cells -/
theorem unbox_C {w : World} {ok : Nat → Prop} {η : Nat → Value} {a : Sh} {r : SV} {x : a.D} {m : List Value} {n : Nat} (hn : r.s.under n) (ha : a.under 0) (h : C w ok η r.s r.d m) (hl : m.length = a.cells) (e : unbox a r = some x) : C w ok η a x m := by
  unfold unbox at e
  cases hs : a.single with
  | true =>
    rw [hs, cond_true] at e
    split at e
    · rename_i v hv
      obtain ⟨h1, u, rest, rfl, h2⟩ := headC_C h hv
      have : a.cells = 1 := by cases a <;> first | rfl | simp [Sh.single] at hs
      have : rest = [] := by
        simp only [List.length_cons] at hl
        exact List.eq_nil_of_length_eq_zero (by omega)
      subst this
      exact co_C (headC_under hn hv) h2 e (by rw [mat_nil ha]; exact fun L o h => by simp at h)
    · cases e
  | false =>
    rw [hs, cond_false] at e
    exact co_C hn h e (by rw [mat_nil ha]; exact fun L o h => by simp at h)

theorem put_get {m vs : List Value} {p q : Nat} (h : p + vs.length ≤ m.length) : (m.take p ++ vs ++ m.drop (p + vs.length))[q]? = if q < p then m[q]? else if q < p + vs.length then vs[q - p]? else m[q]? := by
  rw [List.getElem?_append, List.getElem?_append]
  simp only [List.length_append, List.length_take, show min p m.length = p by omega]
  by_cases h1 : q < p
  · rw [if_pos (by omega), if_pos h1, if_pos h1, List.getElem?_take, if_pos h1]
  · by_cases h2 : q < p + vs.length
    · rw [if_pos h2, if_neg h1, if_neg h1, if_pos h2]
    · rw [if_neg h2, if_neg h1, if_neg h2, List.getElem?_drop]
      congr 1
      omega
theorem seg_get {m : List Value} {i n q : Nat} : (seg m i n)[q]? = if q < n then m[i + q]? else none := by
  unfold seg
  rw [List.getElem?_take]
  split
  · rw [List.getElem?_drop]
  · rfl
theorem seg_put {m vs : List Value} {b off sz : Nat} (h1 : off + vs.length ≤ sz) (h2 : b + sz ≤ m.length) :
    seg (m.take (b + off) ++ vs ++ m.drop (b + off + vs.length)) b sz = (seg m b sz).take off ++ vs ++ (seg m b sz).drop (off + vs.length) := by
  have hl : (seg m b sz).length = sz := by simp only [seg, List.length_take, List.length_drop]; omega
  apply List.ext_getElem?
  intro q
  rw [seg_get, put_get (by omega), put_get (by omega), seg_get]
  by_cases hq : q < sz
  · rw [if_pos hq, if_pos hq]
    by_cases a1 : q < off
    · rw [if_pos (by omega), if_pos a1]
    · rw [if_neg (by omega), if_neg a1]
      by_cases a2 : q < off + vs.length
      · rw [if_pos (by omega), if_pos a2]
        congr 1
        omega
      · rw [if_neg (by omega), if_neg a2]
  · rw [if_neg hq, if_neg hq, if_neg (by omega), if_neg (by omega)]
theorem seg_put_ne {m vs : List Value} {b b' off sz : Nat} (h1 : off + vs.length ≤ sz) (h2 : b + sz ≤ m.length) (h : b' + sz ≤ b ∨ b + sz ≤ b') :
    seg (m.take (b + off) ++ vs ++ m.drop (b + off + vs.length)) b' sz = seg m b' sz := by
  apply List.ext_getElem?
  intro q
  rw [seg_get, put_get (by omega), seg_get]
  by_cases hq : q < sz
  · rw [if_pos hq, if_pos hq]
    rcases h with h | h
    · rw [if_pos (by omega)]
    · rw [if_neg (by omega), if_neg (by omega)]
  · rw [if_neg hq, if_neg hq]

theorem step_store {R : Type} {tt : TT} (hT : TTok P tt) {o : Oper} {t : Nat} {x y : Operand} (ho : o.op = .store t x y) (hdst : o.dst = none) {st : St} {k : St → Option R} {r : R} {X : Fr} {w0 : World} {n : Nat} {η : Nat → Value} {a : Act} {w : World}
    (hI : Inv X w0 n st η a w) (h : stepStore tt t x y st k = some r)
    {K : Act → World → Prop} {Q : Exit → Act → World → Prop} (hK : ∀ a' w', Post X w0 n st η k r a' w' → K a' w') : o.wp P a w K Q := by
  have hsl : ∀ z, z ∈ o.op.operands → VS w (okOf X.G st.objs η) η (evalO st.slots z) (a.eval z) := fun z hz => evalO_VS (fun t _ => hI.slots t) hz
  have hvx := hsl x (by simp [ho, Op.operands])
  have hvy := hsl y (by simp [ho, Op.operands])
  have hput : a.put o.dst undef = a := by rw [hdst]; rfl
  unfold stepStore at h
  split at h
  · rename_i q v ht hv
    have hc := boxIn_C hvy hv
    have hvu : v.s.under st.next := boxIn_under (evalO_under hI.und.slots y) hv
    have hone := C_one hc
    have hlen := C_length hc
    by_cases hsz : Nat.beq v.s.cells q.size = true
    · rw [hsz, cond_true] at h
      have hsz := Nat.eq_of_beq_eq_true hsz
      have hcs : (a.eval y).cells.size = q.size := by rw [← Array.length_toList, hlen, hsz]
      split at h
      · rename_i l off d ex
        cases hlk : st.lockO l with
        | true => rw [hlk, cond_true] at h; cases h
        | false =>
          rw [hlk, cond_false] at h
          split at h
          · rename_i s d' hl
            split at h
            · rename_i r' hr'
              obtain ⟨b, hb, hx'⟩ := V_ptr hvx ex
              obtain ⟨b', cs, T, e1, e2, e3⟩ := hI.objs l _ hl
              obtain rfl : b' = b := by rw [e1] at hb; simpa using hb
              obtain ⟨f1, f2⟩ := putC_C (x := ⟨s, d'⟩) e3 hc hr'
              have hrun := run_store_row (hT t _ ht) (o := off) (val := a.eval y) e2 hcs (by simpa using f1) hone
              obtain ⟨row, hrow⟩ : ∃ row, row = (cs.toList.take off ++ (a.eval y).cells.toList ++ cs.toList.drop (off + (a.eval y).cells.toList.length)).toArray := ⟨_, rfl⟩
              rw [← hrow] at hrun
              have hw : (execOp a.eval o).run P w = .ok .skip (w.setRow b' row) := by
                simp only [execOp, ho, hx']
                simp only [Sem.run_bind, hrun, Result.andThen_ok, Sem.run_pure]
              unfold Oper.wp
              rw [hw, Oper.upon_skip, hput]
              refine hK _ _ ?_
              obtain ⟨g1, g2⟩ := inv_write (w' := w.setRow b' row) (y := .box r'.s r'.d) hI hl (by rw [e1]; rfl : blk (η l) = some b') rfl rfl rfl (setRow_size w b' _) (fun k hk => setRow_heap w b' k _ hk) hlk
                (putC_under (hI.und.objs l _ hl).1 hvu hr') (fun ok' Kp => ⟨b', row, T, e1, setRow_at w b' _ cs T (0, 0) e2, by
                  have := C_keeps Kp (putC_under (hI.und.objs l _ hl).1 hvu hr') f2
                  have hcsL : row.toList = cs.toList.take off ++ (a.eval y).cells.toList ++ cs.toList.drop (off + (a.eval y).cells.toList.length) := by rw [hrow]
                  rw [hcsL]
                  exact this⟩)
              exact ⟨_, η, g1, g2, h⟩
            · cases h
          · cases h
      · rename_i l c off i ex
        cases hlk : st.lockO l with
        | true => rw [hlk, cond_true] at h; cases h
        | false =>
          rw [hlk, cond_false] at h
          split at h
          · rename_i q' b xs hl
            split at h
            · rename_i hba
              subst hba
              obtain ⟨el, hel, h⟩ := bind_some h
              obtain ⟨hi, h0, rfl⟩ := geti_some hel
              split at h
              · rename_i r' hr'
                split at h
                · rename_i e' he'
                  obtain ⟨g, n', cap', hb, hx'⟩ := V_elt hvx ex
                  have hbu : b.under 0 := (hI.und.objs l _ hl).1
                  rcases hI.objs l _ hl with ⟨e1, e2⟩ | ⟨g', cap, cs, e1, e2, e3, e4, e4', e5⟩
                  · rw [e1] at hb; simp at hb
                  · obtain rfl : g' = g := by rw [e1] at hb; simp at hb; exact hb.1
                    have hce := C_boxOf (e5 i.toNat hi)
                    obtain ⟨f1, f2⟩ := putC_C (x := boxOf ⟨b, xs[i.toNat]⟩) hce hc hr'
                    have hseg : (seg cs.toList (i.toNat * b.cells) b.cells).length = b.cells := C_length (e5 i.toNat hi)
                    have hmul : (i.toNat + 1) * b.cells ≤ cap * b.cells := Nat.mul_le_mul_right _ (Nat.le_trans (Nat.succ_le_of_lt hi) e4)
                    have hmul' : (i.toNat + 1) * b.cells = i.toNat * b.cells + b.cells := Nat.succ_mul _ _
                    have hfit : i.toNat * b.cells + off + (a.eval y).cells.size ≤ cs.size := by
                      rw [hseg, Array.length_toList] at f1
                      omega
                    have hrun := run_store_row (hT t _ ht) (o := i.toNat * b.cells + off) (val := a.eval y) e2 hcs hfit hone
                    obtain ⟨row, hrow⟩ : ∃ row, row = (cs.toList.take (i.toNat * b.cells + off) ++ (a.eval y).cells.toList ++ cs.toList.drop (i.toNat * b.cells + off + (a.eval y).cells.toList.length)).toArray := ⟨_, rfl⟩
                    rw [← hrow] at hrun
                    have hbase : i.toNat * b.cells + b.cells ≤ cs.toList.length := by rw [Array.length_toList]; omega
                    rw [hseg] at f1
                    have hw : (execOp a.eval o).run P w = .ok .skip (w.setRow g' row) := by
                      simp only [execOp, ho, hx']
                      simp only [Sem.run_bind, hrun, Result.andThen_ok, Sem.run_pure]
                    unfold Oper.wp
                    rw [hw, Oper.upon_skip, hput]
                    refine hK _ _ ?_
                    obtain ⟨g1, g2⟩ := inv_write (w' := w.setRow g' row) (y := .arr q' b (xs.set i.toNat e')) hI hl (by rw [e1]; rfl : blk (η l) = some g') rfl rfl rfl (setRow_size w g' _) (fun k hk => setRow_heap w g' k _ hk) hlk hbu
                      (fun ok' Kp => by
                        refine .inr ⟨g', cap, row, by rw [List.length_set]; exact e1, setRow_at w g' _ cs q' (0, 0) e2, ?_, by rw [List.length_set]; exact e4, e4', ?_⟩
                        · rw [hrow]
                          simp only [List.size_toArray, List.length_append, List.length_take, List.length_drop, Array.length_toList]
                          omega
                        · intro j hj
                          rw [List.length_set] at hj
                          have hcsL : row.toList = cs.toList.take (i.toNat * b.cells + off) ++ (a.eval y).cells.toList ++ cs.toList.drop (i.toNat * b.cells + off + (a.eval y).cells.toList.length) := by rw [hrow]
                          rw [hcsL]
                          by_cases hji : j = i.toNat
                          · subst hji
                            rw [seg_put f1 hbase, List.getElem_set_self]
                            have f3 := C_keeps Kp (putC_under (boxOf_under (x := ⟨b, _⟩) (under_mono (Nat.zero_le _) hbu)) hvu hr') f2
                            refine unbox_C (putC_under (boxOf_under (x := ⟨b, _⟩) (under_mono (Nat.zero_le _) hbu)) hvu hr') hbu f3 ?_ he'
                            simp only [List.length_append, List.length_take, List.length_drop, hseg]
                            omega
                          · have hmulj : (j + 1) * b.cells = j * b.cells + b.cells := Nat.succ_mul _ _
                            rw [seg_put_ne f1 hbase (by
                              rcases Nat.lt_or_gt_of_ne hji with h | h
                              · left
                                have : (j + 1) * b.cells ≤ i.toNat * b.cells := Nat.mul_le_mul_right _ h
                                omega
                              · right
                                have : (i.toNat + 1) * b.cells ≤ j * b.cells := Nat.mul_le_mul_right _ h
                                omega), List.getElem_set_ne (Ne.symm hji)]
                            exact C_keeps Kp (under_mono (Nat.zero_le _) hbu) (e5 j hj))
                    exact ⟨_, η, g1, g2, h⟩
                · cases h
              · cases h
            · cases h
          · cases h
      · cases h
    · rw [Bool.not_eq_true] at hsz
      rw [hsz, cond_false] at h
      cases h
  · cases h
end Go.Rai

/- Steps that change memory: an append. -/
set_option linter.unusedVariables false
set_option linter.unusedSimpArgs false
namespace Go.Rai
open Go.RowKit
variable {P : Program}

/-- cells of a row of elements -/
def CL (w : World) (ok : Nat → Prop) (η : Nat → Value) (a : Sh) (xs : List a.D) (m : List Value) : Prop :=
  m.length = xs.length * a.cells ∧ ∀ i (h : i < xs.length), C w ok η a xs[i] (seg m (i * a.cells) a.cells)
theorem CL_nil {w : World} {ok : Nat → Prop} {η : Nat → Value} {a : Sh} : CL w ok η a [] [] := ⟨by simp, fun i h => by simp at h⟩
theorem CL_append {w : World} {ok : Nat → Prop} {η : Nat → Value} {a : Sh} {xs ys : List a.D} {m l : List Value} (h : CL w ok η a xs m) (k : CL w ok η a ys l) : CL w ok η a (xs ++ ys) (m ++ l) := by
  refine ⟨by rw [List.length_append, h.1, k.1, List.length_append, Nat.add_mul], fun i hi => ?_⟩
  by_cases h1 : i < xs.length
  · rw [List.getElem_append_left h1]
    have hs : seg (m ++ l) (i * a.cells) a.cells = seg m (i * a.cells) a.cells := by
      have := Nat.mul_le_mul_right a.cells (Nat.succ_le_of_lt h1)
      have e : (i + 1) * a.cells = i * a.cells + a.cells := Nat.succ_mul _ _
      have := h.1
      apply List.ext_getElem?
      intro q
      rw [seg_get, seg_get]
      by_cases hq : q < a.cells
      · rw [if_pos hq, if_pos hq, List.getElem?_append_left (by simp only [Nat.succ_eq_add_one] at *; omega)]
      · rw [if_neg hq, if_neg hq]
    rw [hs]
    exact h.2 i h1
  · have hi' : i - xs.length < ys.length := by simp at hi; omega
    rw [List.getElem_append_right (by omega)]
    have hs : seg (m ++ l) (i * a.cells) a.cells = seg l ((i - xs.length) * a.cells) a.cells := by
      have e : (i - xs.length) * a.cells = i * a.cells - xs.length * a.cells := Nat.sub_mul _ _ _
      have hle : xs.length * a.cells ≤ i * a.cells := Nat.mul_le_mul_right _ (by omega)
      have := h.1
      apply List.ext_getElem?
      intro q
      rw [seg_get, seg_get]
      by_cases hq : q < a.cells
      · rw [if_pos hq, if_pos hq, List.getElem?_append_right (by omega)]
        congr 1
        omega
      · rw [if_neg hq, if_neg hq]
    rw [hs]
    exact k.2 _ hi'
theorem CL_one {w : World} {ok : Nat → Prop} {η : Nat → Value} {a : Sh} {xs : List a.D} {m : List Value} (h : CL w ok η a xs m) : ∀ u ∈ m, u.oneCell' = true := by
  intro u hu
  obtain ⟨q, hq, rfl⟩ := List.getElem_of_mem hu
  by_cases h0 : a.cells = 0
  · have := h.1; rw [h0, Nat.mul_zero] at this; omega
  · have hlt : q / a.cells < xs.length := by
      have := h.1
      exact Nat.div_lt_of_lt_mul (by rw [Nat.mul_comm]; omega)
    have hc := C_one (h.2 _ hlt)
    refine hc _ ?_
    have hmod : q % a.cells < a.cells := Nat.mod_lt _ (by omega)
    have hdm : a.cells * (q / a.cells) + q % a.cells = q := Nat.div_add_mod q a.cells
    have : (seg m (q / a.cells * a.cells) a.cells)[q % a.cells]? = some m[q] := by
      rw [seg_get, if_pos hmod, show q / a.cells * a.cells + q % a.cells = q by rw [Nat.mul_comm]; exact hdm, List.getElem?_eq_getElem hq]
    exact List.mem_of_getElem? this
theorem CL_keeps {w w' : World} {ok ok' : Nat → Prop} {η η' : Nat → Value} {n : Nat} (K : Keeps w ok η w' ok' η' n) {a : Sh} (ha : a.under 0) {xs : List a.D} {m : List Value} (h : CL w ok η a xs m) : CL w' ok' η' a xs m :=
  ⟨h.1, fun i hi => C_keeps K (under_mono (Nat.zero_le _) ha) (h.2 i hi)⟩

/-- an array of the call's own, as the kit tells it -/
theorem OK1_owns {w : World} {ok : Nat → Prop} {η : Nat → Value} {l e : Nat} {a : Sh} {xs : List a.D} (h : OK1 w ok η l (.arr e a xs)) : ∃ m, w.ownsRow 0 e a.cells (η l) xs.length m ∧ CL w ok η a xs m := by
  rcases h with ⟨h1, h2⟩ | ⟨b, cap, cs, h1, h2, h3, h4, h5, h6⟩
  · obtain rfl := List.eq_nil_of_length_eq_zero h2
    exact ⟨[], ⟨by simp, .inl ⟨h1, rfl⟩⟩, CL_nil⟩
  · have hle : xs.length * a.cells ≤ cap * a.cells := Nat.mul_le_mul_right _ h4
    have hlen : (cs.toList.take (xs.length * a.cells)).length = xs.length * a.cells := by simp; omega
    refine ⟨cs.toList.take (xs.length * a.cells), ⟨hlen, .inr ⟨b, cap, cs, h1, Nat.zero_le _, h2, h4, h5, h3, rfl⟩⟩, hlen, fun i hi => ?_⟩
    have : seg (cs.toList.take (xs.length * a.cells)) (i * a.cells) a.cells = seg cs.toList (i * a.cells) a.cells := by
      have hm : (i + 1) * a.cells ≤ xs.length * a.cells := Nat.mul_le_mul_right _ hi
      have e : (i + 1) * a.cells = i * a.cells + a.cells := Nat.succ_mul _ _
      apply List.ext_getElem?
      intro q
      rw [seg_get, seg_get]
      by_cases hq : q < a.cells
      · rw [if_pos hq, if_pos hq, List.getElem?_take, if_pos (by omega)]
      · rw [if_neg hq, if_neg hq]
    rw [this]
    exact h6 i hi
theorem owns_OK1 {w : World} {ok : Nat → Prop} {η : Nat → Value} {l e : Nat} {a : Sh} {xs : List a.D} {m : List Value} (h : w.ownsRow 0 e a.cells (η l) xs.length m) (k : CL w ok η a xs m) : OK1 w ok η l (.arr e a xs) := by
  rcases h.2 with ⟨h1, h2⟩ | ⟨g, cap, cur, h1, _, h2, h3, h4, h5, h6⟩
  · exact .inl ⟨h1, h2⟩
  · refine .inr ⟨g, cap, cur, h1, h2, h5, h3, h4, fun i hi => ?_⟩
    have : seg m (i * a.cells) a.cells = seg cur.toList (i * a.cells) a.cells := by
      have hm : (i + 1) * a.cells ≤ xs.length * a.cells := Nat.mul_le_mul_right _ hi
      have e : (i + 1) * a.cells = i * a.cells + a.cells := Nat.succ_mul _ _
      rw [← h6]
      apply List.ext_getElem?
      intro q
      rw [seg_get, seg_get]
      by_cases hq : q < a.cells
      · rw [if_pos hq, if_pos hq, List.getElem?_take, if_pos (by omega)]
      · rw [if_neg hq, if_neg hq]
    rw [← this]
    exact k.2 i hi

theorem blk_own (v : Value) (h : v = .slice none 0 0 ∨ ∃ b n c, v = .slice (some ⟨b, 0, none⟩) n c) : blk v = v.ownBlock := by
  rcases h with rfl | ⟨b, n, c, rfl⟩ <;> rfl
theorem owns_form {w : World} {B e sz n : Nat} {v : Value} {m : List Value} (h : w.ownsRow B e sz v n m) : v = .slice none 0 0 ∨ ∃ b n c, v = .slice (some ⟨b, 0, none⟩) n c := by
  rcases h.2 with ⟨h1, _⟩ | ⟨g, cap, cur, h1, _⟩
  · exact .inl h1
  · exact .inr ⟨g, _, _, h1⟩

/-- places without one -/
def without (objs : Nat → Option Ob) : Option Nat → Nat → Option Ob
  | none => objs
  | some l => upd objs l none

/-- an array is made, or takes the place of another one -/
theorem inv_append {X : Fr} {w0 : World} {n : Nat} {st : St} {η : Nat → Value} {a : Act} {w w' : World} (hI : Inv X w0 n st η a w) {dst : Option Nat} (hd : ∀ d, dst = some d → d < n) (hl : isLocked st dst = false)
    {rem : Option Nat} (hrem : ∀ l, rem = some l → st.lockO l = false ∧ ∃ x, st.objs l = some x)
    {row : Option Nat} (hrow : ∀ b, row = some b → ∃ l, rem = some l ∧ blk (η l) = some b) (hg : w.grownBy w' row)
    {e : Nat} {s : Sh} {xs : List s.D} (hs : s.under 0) {v : Value} (hone : v.oneCell' = true) (hblk : ∀ b, blk v = some b → (row = some b ∨ w.heap.size ≤ b) ∧ b < w'.heap.size)
    (hnew : ∀ ok' η', Keeps w (okOf X.G st.objs η) η w' ok' η' st.next → η' st.next = v → OK1 w' ok' η' st.next (.arr e s xs)) :
    ∃ η', Later st η { st with slots := putSt st dst ⟨.ref st.next s, ()⟩, objs := upd (without st.objs rem) st.next (some (.arr e s xs)), next := st.next + 1 } η' ∧
      Inv X w0 n { st with slots := putSt st dst ⟨.ref st.next s, ()⟩, objs := upd (without st.objs rem) st.next (some (.arr e s xs)), next := st.next + 1 } η' (a.put dst v) w' := by
  have hη : ∀ l, l < st.next → upd η st.next v l = η l := fun l hl => upd_ne _ _ (Nat.ne_of_lt hl)
  have hcase : ∀ l x, upd (without st.objs rem) st.next (some (.arr e s xs)) l = some x → (l < st.next ∧ st.objs l = some x ∧ rem ≠ some l) ∨ (l = st.next ∧ x = .arr e s xs) := by
    intro l x hx
    by_cases h1 : l = st.next
    · subst h1; rw [upd_same] at hx; cases hx; exact .inr ⟨rfl, rfl⟩
    · rw [upd_ne _ _ h1] at hx
      cases hr : rem with
      | none => rw [hr] at hx; exact .inl ⟨(hI.und.objs l x hx).2, hx, by simp⟩
      | some q =>
        rw [hr] at hx
        by_cases h2 : l = q
        · subst h2; simp only [without, upd_same] at hx; cases hx
        · simp only [without] at hx; rw [upd_ne _ _ h2] at hx
          exact .inl ⟨(hI.und.objs l x hx).2, hx, by simp; exact fun e => h2 e.symm⟩
  have hother : ∀ l x b, st.objs l = some x → rem ≠ some l → blk (η l) = some b → row ≠ some b := by
    intro l x b hx hr hb hrw
    obtain ⟨q, h1, h2⟩ := hrow b hrw
    obtain ⟨_, x', hx'⟩ := hrem q h1
    have := hI.apart l q x x' b hx hx' hb h2
    subst this
    exact hr h1
  have Kp : Keeps w (okOf X.G st.objs η) η w' (okOf X.G (upd (without st.objs rem) st.next (some (.arr e s xs))) (upd η st.next v)) (upd η st.next v) st.next := by
    refine ⟨fun ad u ho hu => ?_, hη⟩
    have hlt := World.block_lt_of_cell? w ad hu
    have hne : row ≠ some ad.block := by
      intro hr
      obtain ⟨q, h1, h2⟩ := hrow _ hr
      obtain ⟨_, x', hx'⟩ := hrem q h1
      exact ho.2 q x' hx' h2
    refine ⟨⟨ho.1, ?_⟩, by rw [World.cell?_of_block (w := w) (hg.block _ hlt (Ne.symm hne))]; exact hu⟩
    intro l x hx hb
    rcases hcase l x hx with ⟨h1, h2, _⟩ | ⟨rfl, _⟩
    · rw [hη l h1] at hb; exact ho.2 l x h2 hb
    · rw [upd_same] at hb
      rcases (hblk _ hb).1 with h | h
      · exact hne h
      · omega
  have hnew' := hnew _ _ Kp (upd_same _ _ _)
  refine ⟨upd η st.next v, ⟨hη, Nat.le_succ _, rfl, rfl, ?_, ?_⟩, ⟨hI.kept.trans ⟨hg.os, hg.tape, hg.output, hg.size, fun k hk hX => hg.block k ?_ ?_⟩, hI.gnew, hI.gold, ?_, ?_, ?_, ?_, ?_, ?_, ?_, fun l hl => Nat.lt_succ_of_lt (hI.locked l hl)⟩⟩
  · intro i hi
    cases hdst : dst with
    | none => rfl
    | some d =>
      have : i ≠ d := by
        rintro rfl
        rw [hdst] at hl
        simp only [isLocked] at hl
        rw [hl] at hi; cases hi
      exact upd_ne _ _ this
  · intro l hl'
    have h1 : l ≠ st.next := Nat.ne_of_lt (hI.locked l hl')
    show upd (without st.objs rem) st.next (some (.arr e s xs)) l = st.objs l
    rw [upd_ne _ _ h1]
    cases hr : rem with
    | none => rfl
    | some q =>
      have : l ≠ q := by
        rintro rfl
        have := (hrem l hr).1
        rw [this] at hl'; cases hl'
      exact upd_ne _ _ this
  · exact Nat.lt_of_lt_of_le hk hI.kept.size
  · intro hr
    obtain ⟨q, h1, h2⟩ := hrow k hr.symm
    obtain ⟨_, x', hx'⟩ := hrem q h1
    rcases (hI.mine q x' k hx' h2).1 with h | h
    · omega
    · exact hX h
  · rw [put_size]; exact hI.size
  · rw [put_defers']; exact hI.defers
  · exact slots_put (fun d hd' => by rw [hI.size]; exact hd d hd') (fun t => V_keeps Kp (hI.und.slots t) (hI.slots t)) ⟨by rw [upd_same], by rw [upd_same]; exact hone⟩
  · intro l x hx
    rcases hcase l x hx with ⟨h1, h2, h3⟩ | ⟨rfl, rfl⟩
    · refine OK1_keeps Kp (hη l h1) (hI.und.objs l x h2).1 (fun b hb => hg.block b (hI.mine l x b h2 hb).2 ?_) (hI.objs l x h2)
      exact Ne.symm (hother l x b h2 h3 hb)
    · exact hnew'
  · intro l x b hx hb
    rcases hcase l x hx with ⟨h1, h2, h3⟩ | ⟨rfl, rfl⟩
    · rw [hη l h1] at hb
      obtain ⟨h4, h5⟩ := hI.mine l x b h2 hb
      exact ⟨h4, Nat.lt_of_lt_of_le h5 hg.size⟩
    · rw [upd_same] at hb
      obtain ⟨h4, h5⟩ := hblk b hb
      refine ⟨?_, h5⟩
      rcases h4 with h4 | h4
      · obtain ⟨q, q1, q2⟩ := hrow b h4
        obtain ⟨_, x', hx'⟩ := hrem q q1
        exact (hI.mine q x' b hx' q2).1
      · exact .inl (Nat.le_trans hI.kept.size h4)
  · intro l l' x x' b hx hx' hb hb'
    rcases hcase l x hx with ⟨h1, h2, h3⟩ | ⟨rfl, rfl⟩ <;> rcases hcase l' x' hx' with ⟨h1', h2', h3'⟩ | ⟨rfl, rfl⟩
    · rw [hη l h1] at hb; rw [hη l' h1'] at hb'; exact hI.apart l l' x x' b h2 h2' hb hb'
    · rw [hη l h1] at hb; rw [upd_same] at hb'
      rcases (hblk b hb').1 with h | h
      · exact absurd h (hother l x b h2 h3 hb)
      · have := (hI.mine l x b h2 hb).2; omega
    · rw [hη l' h1'] at hb'; rw [upd_same] at hb
      rcases (hblk b hb).1 with h | h
      · exact absurd h (hother l' x' b h2' h3' hb')
      · have := (hI.mine l' x' b h2' hb').2; omega
    · rfl
  · refine ⟨fun t => ?_, fun l x hx => ?_⟩
    · show (putSt st dst ⟨.ref st.next s, ()⟩ t).s.under (st.next + 1)
      cases hdst : dst with
      | none => exact under_mono (Nat.le_succ _) (hI.und.slots t)
      | some d =>
        by_cases e : t = d
        · subst e; simp only [putSt, upd_same]; exact Nat.lt_succ_self _
        · simp only [putSt]; rw [upd_ne _ _ e]; exact under_mono (Nat.le_succ _) (hI.und.slots t)
    · rcases hcase l x hx with ⟨h1, h2, h3⟩ | ⟨rfl, rfl⟩
      · exact ⟨Ob.under_mono (Nat.le_succ _) (hI.und.objs l x h2).1, Nat.lt_succ_of_lt h1⟩
      · exact ⟨hs, Nat.lt_succ_self _⟩
end Go.Rai
