/- The abstract machine: Go code run over symbolic values and a symbolic heap. Definitions alone. -/
import GoSem.Core.World
namespace Go.Pt
open Go

/-- The right to append to a slice: none known, no spare place at all, or that of the tip 'id' when it stands at 'pos'. -/
inductive Tok where
  | no
  | full
  | tip (id pos : Nat)

/-- Values. 'sl s xs t': a slice by value (s cells an element), whose elements nobody writes. 'ms': a slice of the block 'id' that may be written. 'vs': n elements from 'lo' on of the row 'id', of which N are surely behind its header; 'vp': the address of a row's element. 'cptr': an address whose cells read so for ever. 'bl': a bool that is written out. 'cond g a': a, if g; else undefined. 'yld': what a function that is ranged over calls, in the loop 'id'. -/
inductive AV where
  | int (k : IntKind) (n : Int)
  | bool (b : Bool)
  | bl (b : Bool)
  | str (s : ByteArray)
  | agg (cs : List AV)
  | tup (vs : List AV)
  | sl (s : Nat) (xs : List AV) (t : Tok)
  | nils
  | ms (id off s len : Nat)
  | vs (id s : Nat) (lo n N : Int)
  | vp (id s : Nat) (i : Int) (off : Nat)
  | ptr (id off : Nat)
  | cptr (cs : List AV) (off : Nat)
  | nilp
  | mp (id : Nat)
  | nilm
  | func (f : FuncId) (caps : List AV)
  | nilf
  | iface (t : TypeId) (v : AV)
  | nili
  | cond (g : Bool) (a : AV)
  | yld (id : Nat)
  | junk

/-- What the heap's place 'id' holds: a variable (a block), a tip, a row of elements that may be written, a map, a loop over a function (what its rounds run), nothing known. -/
inductive Ent where
  | var (cs : List AV)
  | tip (pos : Nat)
  | vec (s : Nat) (xs : List AV)
  | mp (es : List (AV × AV))
  | lp (ps : List Nat) (asg body : Code) (env : List (Nat × AV)) (n : Nat) (st : LoopState) (pend : Option Code)
  | dead

/-- A type as the machine needs it. -/
inductive TK where
  | int (k : IntKind)
  | bool
  | str
  | slice (e : Nat)
  | ptr (e : Nat)
  | struct (fs : List (Nat × Nat))
  | arr (n e : Nat)
  | map (k e : Nat)
  | func
  | iface
  | tup
  | other

structure Ty where
  k : TK
  size : Nat
  bytes : Nat
  agg : Bool
  zero : List AV
  lv : List TK
  ok : Bool
  md : Nat := 0

structure Ops where
  ar : BinOp → IntKind → Int → Int → Int
  sh : BinOp → IntKind → Int → Int → Int
  cmp : BinOp → Int → Int → Bool
  seq : ByteArray → ByteArray → Bool
  scmp : BinOp → ByteArray → ByteArray → Bool
  cat : ByteArray → ByteArray → ByteArray
  wrap : IntKind → Int → Int
  neg : IntKind → Int → Int
  com : IntKind → Int → Int
  mx : Int → Int → Int
  mn : Int → Int → Int
  band : Bool → Bool → Bool
  bnot : Bool → Bool
  pick : Bool → Bool → Bool → Bool
  same : Bool → Bool → Bool
  nat : Nat → Int
  len : List AV → Int
  get : List AV → Int → Option AV
  apnd : List AV → List AV → List AV
  pos : List AV → List AV → Nat
  padd : Nat → List AV → Nat
  room : List AV → List AV → Nat → Prop
  slen : ByteArray → Int
  byte : ByteArray → Int → Option UInt8
  bytes : ByteArray → List AV
  inb : Int → Int → Prop
  nz : Int → Prop
  nn : Int → Prop
  mks : Int → Int → Nat → Prop
  le : Int → Int → Prop
  sub : List AV → Int → Int → List AV
  drop : List AV → Int → List AV
  ssub : ByteArray → Int → Int → ByteArray
  mfind : List (AV × AV) → AV → Option AV
  mput : List (AV × AV) → AV → AV → List (AV × AV)
  mdel : List (AV × AV) → AV → List (AV × AV)
  mok : Bool → List TK → List (AV × AV) → Prop
  sum : Int → Int → Int
  dif : Int → Int → Int
  upd : List AV → Int → AV → List AV
  lay : List AV → Int → List AV → List AV
  rep : Int → AV → List AV
  emp : List AV → Prop
  is : Int → Int → Prop

structure St where
  env : List (Nat × AV)
  hp : List Ent
  n : Nat

inductive Ex where
  | normal
  | exit (id : Nat)
  | ret
  | pan (v : AV)

structure Jd where
  o : Ops
  call : FuncId → List AV → List Ent → (AV → List Ent → Prop) → (AV → List Ent → Prop) → Prop
  code : Code → (Ex → St → Prop) → St → Prop
  pure : FuncId → List AV → (AV → Prop) → Prop
  yld : Nat → List AV → List Ent → (AV → List Ent → Prop) → Prop

def look : List (Nat × AV) → Nat → AV
  | [], _ => .junk
  | (k, v) :: r, t => match Nat.beq k t with | true => v | false => look r t

def nth {α : Type} : List α → Nat → Option α
  | [], _ => none
  | x :: _, 0 => some x
  | _ :: r, n + 1 => nth r n

def setN {α : Type} : List α → Nat → α → List α
  | [], _, _ => []
  | _ :: r, 0, v => v :: r
  | x :: r, n + 1, v => x :: setN r n v

def snoc {α : Type} : List α → α → List α
  | [], v => [v]
  | x :: r, v => x :: snoc r v

def lenN {α : Type} : List α → Nat
  | [] => 0
  | _ :: r => lenN r + 1

/-- n elements from the place 'off' on. -/
def cut {α : Type} : List α → Nat → Nat → Option (List α)
  | _, _, 0 => some []
  | [], _, _ + 1 => none
  | x :: r, 0, n + 1 => (cut r 0 n).map (x :: ·)
  | _ :: r, o + 1, n + 1 => cut r o (n + 1)

/-- l, with ys upon it from the place 'off' on. -/
def upon {α : Type} : List α → Nat → List α → Option (List α)
  | l, _, [] => some l
  | [], _, _ :: _ => none
  | _ :: r, 0, y :: ys => (upon r 0 ys).map (y :: ·)
  | x :: r, o + 1, y :: ys => (upon r o (y :: ys)).map (x :: ·)

def AV.cells : AV → List AV
  | .agg cs => cs
  | v => [v]

/-- A value of one cell, surely. -/
def AV.one : AV → Bool
  | .agg _ | .tup _ | .cond _ _ | .junk => false
  | _ => true

def lit : Value → AV
  | .int k n => .int k n
  | .bool b => .bl b
  | .string s => .str s
  | .pointer none => .nilp
  | .slice none 0 0 => .nils
  | .map none => .nilm
  | .nilFunc => .nilf
  | .nilIface => .nili
  | _ => .junk

def St.ev (s : St) : Operand → AV
  | .tmp t => look s.env t
  | .const v => lit v
  | .func f => .func f []
  | .global _ => .junk

/-- Is a slot's value there, if g is? Then the value. -/
def under (g : Bool) : AV → (AV → Prop) → Prop
  | .cond g' a, K => (g = true → g' = true) ∧ K a
  | a, K => K a

/-- A bool's truth. -/
def AV.tell : AV → Option Bool
  | .bool b => some b
  | .bl b => some b
  | _ => none

def evs (s : St) : List Operand → List AV
  | [] => []
  | x :: r => s.ev x :: evs s r

/-- A slot is written, if there is one. -/
def St.put (s : St) (d : Option Nat) (v : AV) (h : List Ent) : St :=
  match d with
  | some t => ⟨(t, v) :: s.env, h, s.n⟩
  | none => ⟨s.env, h, s.n⟩

/-- The cells of a variable of type T, as a value. -/
def rd (T : Ty) (cs : List AV) (off : Nat) : Option AV :=
  match T.ok with
  | true => match T.agg with
    | true => (cut cs off T.size).map .agg
    | false => nth cs off
  | false => none

def TK.fld (k : TK) (i : Nat) : Option (Nat × Nat) :=
  match k with
  | .struct fs => nth fs i
  | _ => none

def Ty.no : Ty := ⟨.other, 0, 0, false, [], [], false, 0⟩

/-- A slice's elements. -/
def asSl (s : Nat) : AV → Option (List AV × Tok)
  | .sl s' xs t => match Nat.beq s s' with | true => some (xs, t) | false => none
  | .nils => some ([], .full)
  | _ => none

section
variable (J : Jd) (tab : Nat → Ty)

def kn : IntKind → Nat
  | .i8 => 0 | .i16 => 1 | .i32 => 2 | .i64 => 3 | .u8 => 4 | .u16 => 5 | .u32 => 6 | .u64 => 7

/-- Are two cells of one kind the same? 'none': this machine does not tell. -/
def eqLeaf (k : TK) (x y : AV) : Option Bool :=
  match k with
  | .int _ => match x with
    | .int k a => match y with
      | .int k' b => match Nat.beq (kn k) (kn k') with
        | true => some (J.o.cmp .eql a b)
        | false => none
      | _ => none
    | _ => none
  | .bool => match x.tell with
    | some a => match y.tell with
      | some b => some (J.o.same a b)
      | none => none
    | none => none
  | .str => match x with
    | .str a => match y with
      | .str b => some (J.o.seq a b)
      | _ => none
    | _ => none
  | .ptr _ => match x with
    | .nilp => match y with
      | .nilp => some true
      | .ptr _ _ => some false
      | .cptr _ _ => some false
      | _ => none
    | .ptr _ _ => match y with | .nilp => some false | _ => none
    | .cptr _ _ => match y with | .nilp => some false | _ => none
    | _ => none
  | .map _ _ => match x with
    | .nilm => match y with
      | .nilm => some true
      | .mp _ => some false
      | _ => none
    | .mp _ => match y with | .nilm => some false | _ => none
    | _ => none
  | .func => match x with
    | .nilf => match y with
      | .nilf => some true
      | .func _ _ => some false
      | _ => none
    | .func _ _ => match y with | .nilf => some false | _ => none
    | _ => none
  | _ => none

def eqAll : List TK → List AV → List AV → Option Bool
  | [], [], [] => some true
  | k :: ks, x :: xs, y :: ys => match eqLeaf J k x y with
    | none => none
    | some b => match ks with
      | [] => match xs with
        | [] => match ys with
          | [] => some b
          | _ => none
        | _ => none
      | _ => match eqAll ks xs ys with
        | none => none
        | some c => some (J.o.band b c)
  | _, _, _ => none

/-- Are two values of a type the same? -/
def eqT (T : Ty) (x y : AV) : Option Bool :=
  match T.lv with
  | [] => none
  | ks => match T.agg with
    | true => match x with
      | .agg xs => match y with
        | .agg ys => eqAll J ks xs ys
        | _ => none
      | _ => none
    | false => eqAll J ks [x] [y]

/-- n cells for each value. -/
def cellsL : List AV → List AV
  | [] => []
  | x :: r => x.cells ++ cellsL r

def allOne : List AV → Bool
  | [] => true
  | x :: r => match x.one with | true => allOne r | false => false

/-- The cells of a struct or array, some parts written. -/
def fillA (place : Nat → Option (Nat × Nat)) : List AV → List (Nat × AV) → Option (List AV)
  | cs, [] => some cs
  | cs, (i, v) :: r => match place i with
    | none => none
    | some (off, size) => match Nat.beq (lenN v.cells) size with
      | false => none
      | true => match v.cells with
        | [] => none
        | _ => match allOne v.cells with
          | false => none
          | true => match upon cs off v.cells with
            | none => none
            | some cs' => fillA place cs' r

def parts (s : St) : List (Nat × Operand) → List (Nat × AV)
  | [] => []
  | (i, x) :: r => (i, s.ev x) :: parts s r

def repl {α : Type} : Nat → List α → List α
  | 0, _ => []
  | n + 1, l => l ++ repl n l

/-- What a cell holds, as something that names no place of the heap. -/
def AV.free : AV → Option AV
  | .int k n => some (.int k n)
  | .bool b => some (.bool b)
  | .bl b => some (.bool b)
  | .str s => some (.str s)
  | .sl s xs t => some (.sl s xs (match t with | .full => .full | _ => .no))
  | .nils => some .nils
  | .cptr cs o => some (.cptr cs o)
  | .nilp => some .nilp
  | .nilm => some .nilm
  | .nilf => some .nilf
  | .nili => some .nili
  | _ => none

def freeL : List AV → Option (List AV)
  | [] => some []
  | x :: r => match x.free with
    | none => none
    | some y => match freeL r with
      | none => none
      | some l => some (y :: l)

/-- The value of these cells, of the form of a. -/
def unc (a : AV) (ys : List AV) : AV :=
  match a with
  | .agg _ => .agg ys
  | _ => match ys with
    | [y] => y
    | _ => .junk

/-- l in pieces of s (s > 0), n of them. -/
def chunks (T : Ty) : Nat → List AV → Option (List AV)
  | 0, [] => some []
  | 0, _ :: _ => none
  | n + 1, l => match rd T l 0 with
    | none => none
    | some v => (chunks T n (l.drop T.size)).map (v :: ·)

def places (tab : Nat → Ty) : TK → Nat → Option (Nat × Nat)
  | .struct fs, i => match nth fs i with
    | some (t, off) => match (tab t).ok with | true => some (off, (tab t).size) | false => none
    | none => none
  | .arr _ e, i => match (tab e).ok with | true => some (i * (tab e).size, (tab e).size) | false => none
  | _, _ => none

/-- Where the element xs[i] is: what holds, if it is there. -/
def atIx (xs : List AV) (i : Int) (K : AV → Prop) : Prop :=
  J.o.inb i (J.o.len xs) ∧ ∀ e, J.o.get xs i = some e → K e

/-- The result of an append: a slice of the elements zs, of which the first come from (xs, t). -/
def app (s : Nat) (xs ys : List AV) (t : Tok) (h : List Ent) (K : AV → List Ent → Prop) : Prop :=
  match t with
  | .no => False
  | .full => K (.sl s (J.o.apnd xs ys) (.tip (lenN h) (J.o.pos xs ys))) (snoc h (.tip (J.o.pos xs ys)))
  | .tip id pos => match nth h id with
    | some (.tip p) => p = pos ∧ K (.sl s (J.o.apnd xs ys) (.tip id (J.o.padd pos ys))) (setN h id (.tip (J.o.padd pos ys)))
    | _ => False

def bytesOf (s : ByteArray) : List AV := s.data.toList.map fun b => .int .u8 b.toNat

/-- len -/
def lenA (k : TK) (x : AV) (h : List Ent) (K : AV → Prop) : Prop :=
  match k with
  | .str => match x with
    | .str s => K (.int .i64 (J.o.slen s))
    | _ => False
  | .slice _ => match x with
    | .sl _ xs _ => K (.int .i64 (J.o.len xs))
    | .nils => K (.int .i64 0)
    | .ms _ _ _ n => K (.int .i64 (J.o.nat n))
    | .vs _ _ _ n _ => K (.int .i64 n)
    | _ => False
  | .map _ _ => match x with
    | .nilm => K (.int .i64 0)
    | .mp id => match nth h id with
      | some (.mp es) => K (.int .i64 (J.o.nat es.length))
      | _ => False
    | _ => False
  | _ => False

/-- A type's zero value. -/
def Ty.zeroV (T : Ty) : Option AV :=
  match T.ok with
  | true => match allOne T.zero with
    | true => match T.agg with
      | true => some (.agg T.zero)
      | false => nth T.zero 0
    | false => none
  | false => none

/-- The elements that are appended; what is to be shown first. -/
def srcV (u e : Ty) (y : AV) (h : List Ent) : Option (List AV × Prop) :=
  match u.k with
  | .slice _ => match y with
    | .vs id z lo n _ => match Nat.beq z e.size with
      | true => match nth h id with
        | some (.vec z' xs) => match Nat.beq z' e.size with
          | true => some (J.o.sub xs lo (J.o.sum lo n), J.o.le 0 lo ∧ J.o.le 0 n ∧ J.o.le (J.o.sum lo n) (J.o.len xs))
          | false => none
        | _ => none
      | false => none
    | y => match asSl e.size y with
      | some (ys, _) => some (ys, True)
      | none => none
  | .str => match Nat.beq e.size 1 with
    | true => match y with
      | .str s => some (J.o.bytes s, True)
      | _ => none
    | false => none
  | _ => none

/-- append to a row -/
def apV (md : Nat) (u e : Ty) (x y : AV) (h : List Ent) (K : AV → List Ent → Prop) : Prop :=
  match Nat.blt 0 e.bytes with
  | true => match Nat.blt 0 e.size with
    | true => match srcV J u e y h with
      | none => False
      | some (ys, p) => p ∧ match x with
        | .vs id z lo n N => match Nat.beq z e.size with
          | true => match nth h id with
            | some (.vec z' xs) => match Nat.beq z' e.size with
              | true => match md with
                | 1 => J.o.is lo 0 ∧ J.o.is n (J.o.len xs) ∧ J.o.room xs ys e.bytes ∧
                    K (.vs (lenN h) e.size 0 (J.o.len (J.o.apnd xs ys)) (J.o.len (J.o.apnd xs ys))) (snoc (setN h id .dead) (.vec e.size (J.o.apnd xs ys)))
                | _ => J.o.le 0 lo ∧ J.o.le 0 n ∧ J.o.le (J.o.sum (J.o.sum lo n) (J.o.len ys)) N ∧ J.o.le (J.o.sum (J.o.sum lo n) (J.o.len ys)) (J.o.len xs) ∧ J.o.room xs ys e.bytes ∧
                    K (.vs id e.size lo (J.o.sum n (J.o.len ys)) N) (setN h id (.vec e.size (J.o.lay xs (J.o.sum lo n) ys)))
              | false => False
            | _ => False
          | false => False
        | x => match asSl e.size x with
          | some (xs, .full) => J.o.emp xs ∧ J.o.room [] ys e.bytes ∧ K (.vs (lenN h) e.size 0 (J.o.len ys) (J.o.len ys)) (snoc h (.vec e.size ys))
          | _ => False
    | false => False
  | false => False

/-- append -/
def apA (u e : Ty) (x y : AV) (h : List Ent) (K : AV → List Ent → Prop) : Prop :=
  match Nat.blt 0 e.bytes with
  | true => match asSl e.size x with
    | none => False
    | some (xs, tok) => match u.k with
      | .slice _ => match asSl e.size y with
        | none => False
        | some (ys, _) => J.o.room xs ys e.bytes ∧ app J e.size xs ys tok h K
      | .str => match Nat.beq e.size 1 with
        | true => match y with
          | .str s => J.o.room xs (J.o.bytes s) e.bytes ∧ app J e.size xs (J.o.bytes s) tok h K
          | _ => False
        | false => False
      | _ => False
  | false => False

/-- Builtins. -/
def bi (b : Builtin) (ts : List TypeId) (args : List AV) (h : List Ent) (K : AV → List Ent → Prop) : Prop :=
  match b with
  | .len => match args with
    | [x] => match ts with
      | t :: _ => lenA J (tab t).k x h fun v => K v h
      | _ => False
    | _ => False
  | .min => match args with
    | [.int k a, .int _ b] => K (.int k (J.o.mn a b)) h
    | [.int k a, .int _ b, .int _ c] => K (.int k (J.o.mn (J.o.mn a b) c)) h
    | _ => False
  | .max => match args with
    | [.int k a, .int _ b] => K (.int k (J.o.mx a b)) h
    | [.int k a, .int _ b, .int _ c] => K (.int k (J.o.mx (J.o.mx a b) c)) h
    | _ => False
  | .append => match args with
    | [x, y] => match ts with
      | t :: u :: _ => match (tab t).k with
        | .slice e => match (tab t).md with
          | 0 => apA J (tab u) (tab e) x y h K
          | md => apV J md (tab u) (tab e) x y h K
        | _ => False
      | _ => False
    | _ => False
  | _ => False

/-- Sums, bits. -/
def arA (p : BinOp) (x y : AV) (K : AV → Prop) : Prop :=
  match x with
  | .int k a => match y with
    | .int k' b => match Nat.beq (kn k) (kn k') with
      | true => K (.int k (J.o.ar p k a b))
      | false => False
    | _ => False
  | .str a => match y with
    | .str b => match p with
      | .add => a.size + b.size < 2 ^ 62 ∧ K (.str (J.o.cat a b))
      | _ => False
    | _ => False
  | _ => False

def dvA (p : BinOp) (x y : AV) (K : AV → Prop) : Prop :=
  match x with
  | .int k a => match y with
    | .int k' b => match Nat.beq (kn k) (kn k') with
      | true => J.o.nz b ∧ K (.int k (J.o.ar p k a b))
      | false => False
    | _ => False
  | _ => False

def shA (p : BinOp) (x y : AV) (K : AV → Prop) : Prop :=
  match x with
  | .int k a => match y with
    | .int _ b => J.o.nn b ∧ K (.int k (J.o.sh p k a b))
    | _ => False
  | _ => False

/-- '<' and its like. -/
def cpA (p : BinOp) (x y : AV) (K : AV → Prop) : Prop :=
  match x with
  | .int k a => match y with
    | .int k' b => match Nat.beq (kn k) (kn k') with
      | true => K (.bool (J.o.cmp p a b))
      | false => False
    | _ => False
  | .str a => match y with
    | .str b => K (.bool (J.o.scmp p a b))
    | _ => False
  | _ => False

/-- '==' (n: is it '!='?). -/
def eqA (T : Ty) (n : Bool) (x y : AV) (K : AV → Prop) : Prop :=
  match x, y with
  | .sl _ xs _, .nils => (∃ e, T.k = .slice e) ∧ ∀ b : Bool, (xs ≠ [] → b = n) → K (.bool b)
  | x, y => match eqT J T x y with
    | some b => match n with
      | false => K (.bool b)
      | true => K (.bool (J.o.bnot b))
    | none => False

def binA (T : Ty) (p : BinOp) (x y : AV) (K : AV → Prop) : Prop :=
  match p with
  | .add => arA J .add x y K
  | .sub => arA J .sub x y K
  | .mul => arA J .mul x y K
  | .and => arA J .and x y K
  | .or => arA J .or x y K
  | .xor => arA J .xor x y K
  | .andNot => arA J .andNot x y K
  | .quo => dvA J .quo x y K
  | .rem => dvA J .rem x y K
  | .shl => shA J .shl x y K
  | .shr => shA J .shr x y K
  | .eql => eqA J T false x y K
  | .neq => eqA J T true x y K
  | p => cpA J p x y K

/-- A bound of a slice expression. -/
def optI (s : St) : Option Operand → Option (Option Int)
  | none => some none
  | some x => match s.ev x with
    | .int _ n => some (some n)
    | _ => none

/-- x[lo:hi:mx] of a slice by value. -/
def slX (z : Nat) (xs : List AV) (tk : Tok) (lo hi mx : Option Int) (K : AV → Prop) : Prop :=
  match hi with
  | none => match mx with
    | none => match lo with
      | none => K (.sl z xs tk)
      | some l => J.o.le 0 l ∧ J.o.le l (J.o.len xs) ∧ K (.sl z (J.o.drop xs l) tk)
    | some _ => False
  | some h => match mx with
    | none => match lo with
      | none => J.o.le 0 h ∧ J.o.le h (J.o.len xs) ∧ K (.sl z (J.o.sub xs 0 h) .no)
      | some l => J.o.le 0 l ∧ J.o.le l h ∧ J.o.le h (J.o.len xs) ∧ K (.sl z (J.o.sub xs l h) .no)
    | some m => match lo with
      | none => J.o.le 0 h ∧ J.o.le h m ∧ J.o.le m (J.o.len xs) ∧ ∀ t : Tok, (h = m → t = .full) → K (.sl z (J.o.sub xs 0 h) t)
      | some l => J.o.le 0 l ∧ J.o.le l h ∧ J.o.le h m ∧ J.o.le m (J.o.len xs) ∧ ∀ t : Tok, (h = m → t = .full) → K (.sl z (J.o.sub xs l h) t)

/-- s[lo:hi] of a string. -/
def slS (b : ByteArray) (lo hi mx : Option Int) (K : AV → Prop) : Prop :=
  match mx with
  | some _ => False
  | none => match hi with
    | none => match lo with
      | none => K (.str b)
      | some l => J.o.le 0 l ∧ J.o.le l (J.o.slen b) ∧ K (.str (J.o.ssub b l (J.o.slen b)))
    | some h => match lo with
      | none => J.o.le 0 h ∧ J.o.le h (J.o.slen b) ∧ K (.str (J.o.ssub b 0 h))
      | some l => J.o.le 0 l ∧ J.o.le l h ∧ J.o.le h (J.o.slen b) ∧ K (.str (J.o.ssub b l h))

/-- x[lo:hi:mx] of a row's slice. -/
def slV (id z : Nat) (o n N : Int) (lo hi mx : Option Int) (K : AV → Prop) : Prop :=
  match mx with
  | none => match hi with
    | none => match lo with
      | none => K (.vs id z o n N)
      | some l => J.o.le 0 l ∧ J.o.le l n ∧ K (.vs id z (J.o.sum o l) (J.o.dif n l) N)
    | some h => match lo with
      | none => J.o.le 0 h ∧ J.o.le (J.o.sum o h) N ∧ K (.vs id z o h N)
      | some l => J.o.le 0 l ∧ J.o.le l h ∧ J.o.le (J.o.sum o h) N ∧ K (.vs id z (J.o.sum o l) (J.o.dif h l) N)
  | some m => match hi with
    | none => False
    | some h => match lo with
      | none => J.o.le 0 h ∧ J.o.le h m ∧ J.o.le (J.o.sum o m) N ∧ K (.vs id z o h (J.o.sum o m))
      | some l => J.o.le 0 l ∧ J.o.le l h ∧ J.o.le h m ∧ J.o.le (J.o.sum o m) N ∧ K (.vs id z (J.o.sum o l) (J.o.dif h l) (J.o.sum o m))

def slA (T : Ty) (x : AV) (lo hi mx : Option Int) (K : AV → Prop) : Prop :=
  match T.k with
  | .slice e => match (tab e).ok with
    | false => False
    | true => match x with
      | .sl z xs tk => match Nat.beq z (tab e).size with
        | true => slX J z xs tk lo hi mx K
        | false => False
      | .nils => slX J (tab e).size [] .full lo hi mx K
      | .vs id z o n N => match Nat.beq z (tab e).size with
        | true => slV J id z o n N lo hi mx K
        | false => False
      | _ => False
  | .str => match x with
    | .str b => slS J b lo hi mx K
    | _ => False
  | _ => False

def shape1 : TK → AV → Bool
  | .int k, .int k' _ => Nat.beq (kn k) (kn k')
  | .str, .str _ => true
  | .bool, .bool _ => true
  | .bool, .bl _ => true
  | _, _ => false

def shapes : List TK → List AV → Bool
  | [], [] => true
  | k :: ks, a :: l => match shape1 k a with
    | true => shapes ks l
    | false => false
  | _, _ => false

/-- A key of a type whose cells are of these kinds. -/
def keyOk (agg : Bool) (lv : List TK) (k : AV) : Bool :=
  match agg with
  | true => match k with
    | .agg cs => shapes lv cs
    | _ => false
  | false => shapes lv [k]

def TK.plain : TK → Bool
  | .int _ | .str | .bool => true
  | _ => false

def flds (n : Nat) : List (Nat × Nat) → Bool
  | [] => true
  | (t, off) :: r => match (tab t).k.plain with
    | true => match Nat.blt off n with
      | true => flds n r
      | false => false
    | false => false

/-- Types of keys that the machine looks up. -/
def keyTy (T : Ty) : Bool :=
  match T.lv with
  | [] => false
  | _ => match T.k with
    | .int _ | .str | .bool => true
    | .struct fs => flds tab (lenN T.lv) fs
    | _ => false

def lkV (cok : Bool) (v : AV) (b : Bool) : AV :=
  match cok with
  | true => .tup [v, .bl b]
  | false => v

/-- m[k] -/
def lkA (T : Ty) (x k : AV) (cok : Bool) (h : List Ent) (K : AV → Prop) : Prop :=
  match T.k with
  | .map kt et => match keyTy tab (tab kt) with
    | false => False
    | true => match keyOk (tab kt).agg (tab kt).lv k with
      | false => False
      | true => match (tab et).zeroV with
        | none => False
        | some z => match x with
          | .nilm => K (lkV cok z false)
          | .mp id => match nth h id with
            | some (.mp es) => J.o.mok (tab kt).agg (tab kt).lv es ∧ (∀ v, J.o.mfind es k = some v → K (lkV cok v true)) ∧ (J.o.mfind es k = none → K (lkV cok z false))
            | _ => False
          | _ => False
  | _ => False

/-- m[k] = v -/
def muA (T : Ty) (x k v : AV) (h : List Ent) (K : AV → List Ent → Prop) : Prop :=
  match T.k with
  | .map kt _ => match keyTy tab (tab kt) with
    | false => False
    | true => match keyOk (tab kt).agg (tab kt).lv k with
      | false => False
      | true => match x with
        | .mp id => match nth h id with
          | some (.mp es) => J.o.mok (tab kt).agg (tab kt).lv es ∧ K .junk (setN h id (.mp (J.o.mput es k v)))
          | _ => False
        | _ => False
  | _ => False

/-- delete(m, k) -/
def dlA (T : Ty) (x k : AV) (h : List Ent) (K : AV → List Ent → Prop) : Prop :=
  match T.k with
  | .map kt _ => match keyTy tab (tab kt) with
    | false => False
    | true => match keyOk (tab kt).agg (tab kt).lv k with
      | false => False
      | true => match x with
        | .mp id => match nth h id with
          | some (.mp es) => J.o.mok (tab kt).agg (tab kt).lv es ∧ K .junk (setN h id (.mp (J.o.mdel es k)))
          | _ => False
        | _ => False
  | _ => False

/-- clear(m), clear(s) -/
def clA (T : Ty) (x : AV) (h : List Ent) (K : AV → List Ent → Prop) : Prop :=
  match T.k with
  | .map _ _ => match x with
    | .mp id => match nth h id with
      | some (.mp _) => K .junk (setN h id (.mp []))
      | _ => False
    | _ => False
  | .slice e => match (tab e).zeroV with
    | none => False
    | some zv => match Nat.blt 0 (tab e).size with
      | true => match x with
        | .vs id z lo n _ => match Nat.beq z (tab e).size with
          | true => match nth h id with
            | some (.vec z' xs) => match Nat.beq z' (tab e).size with
              | true => J.o.le 0 lo ∧ J.o.le 0 n ∧ J.o.le (J.o.sum lo n) (J.o.len xs) ∧ K .junk (setN h id (.vec z (J.o.lay xs lo (J.o.rep n zv))))
              | false => False
            | _ => False
          | false => False
        | _ => False
      | false => False
  | _ => False

/-- The literal 1. -/
def lit1 : Operand → Bool
  | .const (.int _ n) => match n with
    | .ofNat m => Nat.beq m 1
    | _ => false
  | _ => false

/-- x & 1, in two cases. -/
def bitA (p : BinOp) (x y : AV) (K : AV → Prop) : Prop :=
  match x with
  | .int k a => match y with
    | .int k' b => match Nat.beq (kn k) (kn k') with
      | true => (J.o.is (J.o.ar p k a b) 0 ∨ J.o.is (J.o.ar p k a b) 1) ∧ (J.o.is (J.o.ar p k a b) 0 → K (.int k 0)) ∧ (J.o.is (J.o.ar p k a b) 1 → K (.int k 1))
      | false => False
    | _ => False
  | _ => False

def binB (T : Ty) (p : BinOp) (x y : AV) (one : Bool) (K : AV → Prop) : Prop :=
  match one with
  | true => match p with
    | .and => bitA J .and x y K
    | p => binA J T p x y K
  | false => binA J T p x y K

/-- One operation. K: what is to hold of its result; E: of a panic of the program's own. -/
def aop (op : Op) (s : St) (K E : AV → List Ent → Prop) : Prop :=
  match op with
  | .move x | .assign x => K (s.ev x) s.hp
  | .pick c a b => match s.ev c with
    | .bl true => under true (s.ev a) fun v => K v s.hp
    | .bl false => under true (s.ev b) fun v => K v s.hp
    | .bool c => under c (s.ev a) fun a => under (J.o.bnot c) (s.ev b) fun b => match a.tell with
      | some a => match b.tell with
        | some b => K (.bool (J.o.pick c a b)) s.hp
        | none => False
      | none => False
    | _ => False
  | .alloc t => match (tab t).ok with
    | true => K (.ptr (lenN s.hp) 0) (snoc s.hp (.var (tab t).zero))
    | false => False
  | .box _ x => match allOne (s.ev x).cells with
    | true => K (.ptr (lenN s.hp) 0) (snoc s.hp (.var (s.ev x).cells))
    | false => False
  | .build t ps => match (tab t).agg with
    | true => match fillA (places tab (tab t).k) (tab t).zero (parts s ps.toList) with
      | some cs => K (.agg cs) s.hp
      | none => False
    | false => False
  | .buildSlice t n ps => match (tab t).k with
    | .slice e => match (tab e).ok with
      | true => match Nat.blt (n * (tab e).size) 16777216 with
        | true => match fillA (fun i => some (i * (tab e).size, (tab e).size)) (repl n (tab e).zero) (parts s ps.toList) with
          | some cs => match (freeL cs).bind (chunks (tab e) n) with
            | some xs => K (.sl (tab e).size xs .full) s.hp
            | none => False
          | none => False
        | false => False
      | false => False
    | _ => False
  | .load t x => match s.ev x with
    | .ptr id off => match nth s.hp id with
      | some (.var cs) => match rd (tab t) cs off with
        | some v => K v s.hp
        | none => False
      | _ => False
    | .cptr cs off => match rd (tab t) cs off with
      | some v => K v s.hp
      | none => False
    | .vp id z i off => match nth s.hp id with
      | some (.vec z' xs) => match Nat.beq z z' with
        | true => atIx J xs i fun e => match rd (tab t) e.cells off with
          | some v => K v s.hp
          | none => False
        | false => False
      | _ => False
    | _ => False
  | .store t x v => match s.ev x with
    | .ptr id off => match nth s.hp id with
      | some (.var cs) => match Nat.blt 0 (tab t).size with
        | true => match Nat.beq (lenN (s.ev v).cells) (tab t).size with
          | true => match allOne (s.ev v).cells with
            | true => match upon cs off (s.ev v).cells with
              | some cs' => K .junk (setN s.hp id (.var cs'))
              | none => False
            | false => False
          | false => False
        | false => False
      | _ => False
    | .vp id z i off => match nth s.hp id with
      | some (.vec z' xs) => match Nat.beq z z' with
        | true => match Nat.blt 0 (tab t).size with
          | true => match Nat.beq (lenN (s.ev v).cells) (tab t).size with
            | true => match freeL (s.ev v).cells with
              | some ys => match Nat.beq z (tab t).size with
                | true => match off with
                  | 0 => J.o.inb i (J.o.len xs) ∧ K .junk (setN s.hp id (.vec z (J.o.upd xs i (unc (s.ev v) ys))))
                  | _ => False
                | false => atIx J xs i fun e => match e with
                  | .agg cs => match upon cs off ys with
                    | some cs' => K .junk (setN s.hp id (.vec z (J.o.upd xs i (.agg cs'))))
                    | none => False
                  | _ => False
              | none => False
            | false => False
          | false => False
        | false => False
      | _ => False
    | _ => False
  | .nilCheck x => match s.ev x with
    | .ptr id off => K (.ptr id off) s.hp
    | .cptr cs off => K (.cptr cs off) s.hp
    | .vp id z i off => K (.vp id z i off) s.hp
    | .func f cs => K (.func f cs) s.hp
    | _ => False
  | .binOp p t x y _ => binB J (tab t) p (s.ev x) (s.ev y) (lit1 y) fun v => K v s.hp
  | .unOp u _ x => match u with
    | .not => match s.ev x with
      | .bool b => K (.bool (J.o.bnot b)) s.hp
      | .bl b => K (.bl (!b)) s.hp
      | _ => False
    | .neg => match s.ev x with
      | .int k n => K (.int k (J.o.neg k n)) s.hp
      | _ => False
    | .xor => match s.ev x with
      | .int k n => K (.int k (J.o.com k n)) s.hp
      | _ => False
    | _ => False
  | .convert src dst x => match (tab src).ok with
    | true => match (tab dst).k with
      | .int k => match s.ev x with
        | .int _ n => K (.int k (J.o.wrap k n)) s.hp
        | _ => False
      | _ => False
    | false => False
  | .makeFunc fn first caps => match fn with
    | .func f => match first.toList with
      | [] => K (.func f (evs s caps.toList)) s.hp
      | _ => False
    | _ => False
  | .makeMap _ r => match r with
    | none => K (.mp (lenN s.hp)) (snoc s.hp (.mp []))
    | some _ => False
  | .makeSlice t l c => match (tab t).k with
    | .slice e => match Nat.blt 0 (tab e).bytes with
      | true => match s.ev l with
        | .int _ n => match s.ev c with
          | .int _ m => match (tab t).md with
            | 0 => J.o.mks n m (tab e).bytes ∧ K (.ms (lenN s.hp) 0 (tab e).size n.toNat) (snoc s.hp (.var (repl n.toNat (tab e).zero)))
            | _ => match (tab e).zeroV with
              | none => False
              | some zv => match Nat.blt 0 (tab e).size with
                | true => J.o.mks n m (tab e).bytes ∧ K (.vs (lenN s.hp) (tab e).size 0 n n) (snoc s.hp (.vec (tab e).size (J.o.rep n zv)))
                | false => False
          | _ => False
        | _ => False
      | false => False
    | _ => False
  | .fieldAddr t x f => match (tab t).k.fld f with
    | some (ft, off) => match Nat.blt 0 (tab ft).size with
      | true => match s.ev x with
        | .ptr id o => K (.ptr id (o + off)) s.hp
        | .cptr cs o => K (.cptr cs (o + off)) s.hp
        | .vp id z i o => K (.vp id z i (o + off)) s.hp
        | _ => False
      | false => False
    | none => False
  | .field t x f => match (tab t).k.fld f with
    | some (ft, off) => match s.ev x with
      | .agg cs => match rd (tab ft) cs off with
        | some v => K v s.hp
        | none => False
      | _ => False
    | none => False
  | .indexAddr t x i => match s.ev i with
    | .int _ n => match (tab t).k with
      | .slice e => match (tab e).ok with
        | false => False
        | true => match s.ev x with
        | .sl z xs _ => match Nat.beq z (tab e).size with
          | true => atIx J xs n fun v => K (.cptr v.cells 0) s.hp
          | false => False
        | .ms id off z len => match Nat.beq z (tab e).size with
          | true => J.o.inb n (J.o.nat len) ∧ K (.ptr id (off + n.toNat * z)) s.hp
          | false => False
        | .vs id z lo len _ => match Nat.beq z (tab e).size with
          | true => J.o.inb n len ∧ K (.vp id z (J.o.sum lo n) 0) s.hp
          | false => False
        | _ => False
      | .arr len e => match (tab e).ok with
        | false => False
        | true => match s.ev x with
        | .ptr id off => J.o.inb n (J.o.nat len) ∧ K (.ptr id (off + n.toNat * (tab e).size)) s.hp
        | .cptr cs off => J.o.inb n (J.o.nat len) ∧ K (.cptr cs (off + n.toNat * (tab e).size)) s.hp
        | _ => False
      | _ => False
    | _ => False
  | .index t x i => match s.ev i with
    | .int _ n => match (tab t).k with
      | .str => match s.ev x with
        | .str b => J.o.inb n (J.o.slen b) ∧ ∀ c : UInt8, J.o.byte b n = some c → K (.int .u8 c.toNat) s.hp
        | _ => False
      | _ => False
    | _ => False
  | .extract x i => match s.ev x with
    | .tup vs => match nth vs i with
      | some v => K v s.hp
      | none => False
    | _ => False
  | .call ⟨.value f, args, _⟩ => match s.ev f with
    | .func f caps => J.call f (evs s args.toList ++ caps) s.hp K E
    | .yld i => J.yld i (evs s args.toList) s.hp K
    | _ => False
  | .call ⟨.builtin b, args, ts⟩ => match b with
    | .delete => match evs s args.toList with
      | [x, k] => match ts.toList with
        | t :: _ => dlA J tab (tab t) x k s.hp K
        | _ => False
      | _ => False
    | .clear => match evs s args.toList with
      | [x] => match ts.toList with
        | t :: _ => clA J tab (tab t) x s.hp K
        | _ => False
      | _ => False
    | b => bi J tab b ts.toList (evs s args.toList) s.hp K
  | .slice t x lo hi mx => match optI s lo with
    | some lo => match optI s hi with
      | some hi => match optI s mx with
        | some mx => slA J tab (tab t) (s.ev x) lo hi mx fun v => K v s.hp
        | none => False
      | none => False
    | none => False
  | .lookup t x k cok => lkA J tab (tab t) (s.ev x) (s.ev k) cok s.hp fun v => K v s.hp
  | .mapUpdate t m k v => muA J tab (tab t) (s.ev m) (s.ev k) (s.ev v) s.hp K
  | _ => False

/-- Operations that compute from slots alone: they may be done though nobody asks for them. -/
def quietOp : Op → Bool
  | .move _ | .assign _ | .unOp .. | .fieldAddr .. | .field .. | .load .. | .extract .. | .pick .. => true
  | .binOp p .. => match p with | .quo | .rem | .shl | .shr => false | _ => true
  | _ => false

/-- An operation under a guard. -/
def aopG (g : Bool) (op : Op) (s : St) (K E : AV → List Ent → Prop) : Prop :=
  match op with
  | .pick c a b => match s.ev c with
    | .bl true => under g (s.ev a) fun v => K v s.hp
    | .bl false => under g (s.ev b) fun v => K v s.hp
    | .bool c => under (J.o.band g c) (s.ev a) fun a => under (J.o.band g (J.o.bnot c)) (s.ev b) fun b => match a.tell with
      | some a => match b.tell with
        | some b => K (.bool (J.o.pick c a b)) s.hp
        | none => False
      | none => False
    | _ => False
  | op => aop J tab op s K E

/-- The slots that an operation reads hold what is there when g is. -/
def strip (g : Bool) : List Operand → St → (St → Prop) → Prop
  | [], s, K => K s
  | .tmp t :: r, s, K => match look s.env t with
    | .cond g' a => (g = true → g' = true) ∧ strip g r ⟨(t, a) :: s.env, s.hp, s.n⟩ K
    | _ => strip g r s K
  | _ :: r, s, K => strip g r s K

/-- The slots that an operation surely reads. -/
def reads : Op → List Operand
  | .pick c _ _ => [c]
  | op => op.operands.toList

def fits (d : Option Nat) (n : Nat) : Bool :=
  match d with
  | some t => Nat.blt t n
  | none => true

/-- The guard's truth. -/
def gd (t b : Bool) : Bool :=
  match b with
  | true => t
  | false => J.o.bnot t

def same2 : Bool → Bool → Bool
  | true, true => true
  | false, false => true
  | _, _ => false

/-- The operations of a region from here on, in the text's order. -/
def aops (all : List Oper) : List Oper → St → (St → Prop) → (AV → List Ent → Prop) → Prop
  | [], s, K, _ => K s
  | q :: r, s, K, E => match fits q.dst s.n with
    | false => False
    | true => match q.guard with
      | none => strip true (reads q.op) s fun s' => aop J tab q.op s' (fun v h => aops all r (s.put q.dst v h) K E) E
      | some (j, b) => match (nth all j).bind (·.dst) with
        | none => False
        | some d => match look s.env d with
          | .bl t => match t, b with
            | true, true => strip true (reads q.op) s fun s' => aop J tab q.op s' (fun v h => aops all r (s.put q.dst v h) K E) E
            | false, false => strip true (reads q.op) s fun s' => aop J tab q.op s' (fun v h => aops all r (s.put q.dst v h) K E) E
            | _, _ => aops all r (s.put q.dst .junk s.hp) K E
          | .bool t => match quietOp q.op with
            | true => strip (gd J t b) (reads q.op) s fun s' => aopG J tab (gd J t b) q.op s' (fun v h => aops all r (s.put q.dst (.cond (gd J t b) v) h) K E) E
            | false => (t = b → strip true (reads q.op) s fun s' => aop J tab q.op s' (fun v h => aops all r (St.put ⟨(d, .bl b) :: s.env, s.hp, s.n⟩ q.dst v h) K E) E)
                ∧ (t = !b → aops all r (St.put ⟨(d, .bl (!b)) :: s.env, s.hp, s.n⟩ q.dst .junk s.hp) K E)
          | .cond g (.bool t) => match quietOp q.op with
            | true => strip (J.o.band g (gd J t b)) (reads q.op) s fun s' => aopG J tab (J.o.band g (gd J t b)) q.op s' (fun v h => aops all r (s.put q.dst (.cond (J.o.band g (gd J t b)) v) h) K E) E
            | false => (g = true → t = b → strip true (reads q.op) s fun s' => aop J tab q.op s' (fun v h => aops all r (St.put ⟨(d, .bl b) :: s.env, s.hp, s.n⟩ q.dst v h) K E) E)
                ∧ ((g = true → t = !b) → aops all r (St.put ⟨(d, .cond g (.bl (!b))) :: s.env, s.hp, s.n⟩ q.dst .junk s.hp) K E)
          | .cond g (.bl t) => match same2 t b with
            | false => aops all r (s.put q.dst .junk s.hp) K E
            | true => match quietOp q.op with
              | true => strip g (reads q.op) s fun s' => aopG J tab g q.op s' (fun v h => aops all r (s.put q.dst (.cond g v) h) K E) E
              | false => (g = true → strip true (reads q.op) s fun s' => aop J tab q.op s' (fun v h => aops all r (St.put ⟨(d, .bl b) :: s.env, s.hp, s.n⟩ q.dst v h) K E) E)
                  ∧ (g = false → aops all r (St.put ⟨(d, .cond false (.bl (!b))) :: s.env, s.hp, s.n⟩ q.dst .junk s.hp) K E)
          | _ => False

/-! A region whose order is drawn: what it does is told when no two operations that may change places meet. -/

/-- What an operation reads or writes of the heap. -/
inductive Fp where
  | no
  | rd (id : Nat)
  | wr (id : Nat) (e : Ent)
  | new (id : Nat) (e : Ent)
  | mv (id k : Nat) (e : Ent)

def Fp.go : Fp → List Ent → List Ent
  | .wr id e, h => setN h id e
  | .new _ e, h => snoc h e
  | .mv i _ e, h => snoc (setN h i .dead) e
  | _, h => h

def clash : Fp → Fp → Bool
  | .rd i, .wr j _ => Nat.beq i j
  | .wr i _, .rd j => Nat.beq i j
  | .wr i _, .wr j _ => Nat.beq i j
  | .new _ _, .new _ _ => true
  | .new i _, .rd j => Nat.beq i j
  | .new i _, .wr j _ => Nat.beq i j
  | .rd i, .new j _ => Nat.beq i j
  | .wr i _, .new j _ => Nat.beq i j
  | .new .., .mv .. => true
  | .mv .., .new .. => true
  | .mv .., .mv .. => true
  | .mv i k _, .rd j => Nat.beq i j || Nat.beq k j
  | .mv i k _, .wr j _ => Nat.beq i j || Nat.beq k j
  | .rd j, .mv i k _ => Nat.beq i j || Nat.beq k j
  | .wr j _, .mv i k _ => Nat.beq i j || Nat.beq k j
  | _, _ => false

/-- The first operation that writes a slot. -/
def whoW : List Oper → Nat → Nat → Option Nat
  | [], _, _ => none
  | q :: r, t, i => match q.dst with
    | some d => match Nat.beq d t with
      | true => some i
      | false => whoW r t (i + 1)
    | none => whoW r t (i + 1)

def bindAny (e : Edge) : Bool :=
  match e.ground with
  | .textOnly _ => false
  | .gcOnly _ => false
  | _ => true

def hasEdge : List Edge → Nat → Bool
  | [], _ => false
  | e :: r, j => match bindAny e with
    | true => match Nat.beq e.on j with
      | true => true
      | false => hasEdge r j
    | false => hasEdge r j

def edgesLt : List Edge → Nat → Bool
  | [], _ => true
  | e :: r, i => match bindAny e with
    | true => match Nat.blt e.on i with
      | true => edgesLt r i
      | false => false
    | false => edgesLt r i

def aft (all : List Oper) (j : Nat) : List Edge :=
  match nth all j with
  | some q => q.after.toList
  | none => []

/-- Each slot that is read is written before it, or behind it. -/
def waits (all : List Oper) (i : Nat) (es : List Edge) : List Operand → Bool
  | [] => true
  | .tmp t :: r => match whoW all t 0 with
    | none => waits all i es r
    | some j => match hasEdge es j with
      | true => waits all i es r
      | false => match hasEdge (aft all j) i with
        | true => waits all i es r
        | false => false
  | _ :: r => waits all i es r

def sole (all : List Oper) (d : Option Nat) (i : Nat) : Bool :=
  match d with
  | none => true
  | some t => match whoW all t 0 with
    | some j => Nat.beq j i
    | none => false

def okAcc : List (Nat × Fp) → List Edge → Fp → Bool
  | [], _, _ => true
  | (j, g) :: r, es, f => match clash g f with
    | true => match hasEdge es j with
      | true => okAcc r es f
      | false => false
    | false => okAcc r es f

/-- What is ahead and may come behind does not write. -/
def quietAcc : List (Nat × Fp) → List Edge → Bool
  | [], _ => true
  | (j, g) :: r, es => match hasEdge es j with
    | true => quietAcc r es
    | false => match g with
      | .no => quietAcc r es
      | .rd _ => quietAcc r es
      | _ => false

/-- What a call that may change the heap must leave as it was: what operations ahead of it have read that may come behind it. -/
def framesP : List (Nat × Fp) → List Edge → List Ent → List Ent → Prop
  | [], _, _, _ => True
  | (j, g) :: r, es, h, h' => match hasEdge es j with
    | true => framesP r es h h'
    | false => match g with
      | .no => framesP r es h h'
      | .rd id => nth h' id = nth h id ∧ framesP r es h h'
      | _ => False

/-- Operations that look at slots alone, and give one thing. -/
def sureOp (op : Op) : Bool :=
  match op with
  | .move _ | .assign _ | .unOp .. | .fieldAddr .. | .field .. | .indexAddr .. | .index .. | .extract .. | .convert .. | .pick .. | .nilCheck .. | .build .. | .buildSlice .. | .makeFunc .. => true
  | .slice _ _ _ _ m => match m with
    | none => true
    | some _ => false
  | .binOp p t _ _ _ => match p with
    | .eql => match (tab t).k with
      | .slice _ => false
      | _ => true
    | .neq => match (tab t).k with
      | .slice _ => false
      | _ => true
    | _ => true
  | .call ⟨.builtin b, _, ts⟩ => match b with
    | .len => match ts.toList with
      | t :: _ => match (tab t).k with
        | .map _ _ => false
        | _ => true
      | _ => false
    | .min => true
    | .max => true
    | _ => false
  | _ => false

/-- Operations that read the heap. -/
def readOp : Op → Bool
  | .load .. | .lookup .. => true
  | _ => false

/-- The place that is read. -/
def fpR (op : Op) (s : St) : Fp :=
  match op with
  | .load _ x => match s.ev x with
    | .ptr id _ => .rd id
    | .vp id _ _ _ => .rd id
    | _ => .no
  | .lookup _ x _ _ => match s.ev x with
    | .mp id => .rd id
    | _ => .no
  | _ => .no

def isCall : Op → Bool
  | .call ⟨.value _, _, _⟩ => true
  | _ => false

/-- An append's slice and what becomes of the heap. -/
def appW (s : Nat) (xs ys : List AV) (t : Tok) (h : List Ent) (F : Prop) (k : AV → Fp → Prop) : Prop :=
  match t with
  | .no => F
  | .full => k (.sl s (J.o.apnd xs ys) (.tip (lenN h) (J.o.pos xs ys))) (.new (lenN h) (.tip (J.o.pos xs ys)))
  | .tip id pos => match nth h id with
    | some (.tip p) => p = pos ∧ k (.sl s (J.o.apnd xs ys) (.tip id (J.o.padd pos ys))) (.wr id (.tip (J.o.padd pos ys)))
    | _ => F

/-- The same of a row. -/
def apW (md : Nat) (u e : Ty) (x y : AV) (h : List Ent) (F : Prop) (k : AV → Fp → Prop) : Prop :=
  match Nat.blt 0 e.bytes with
  | true => match Nat.blt 0 e.size with
    | true => match u.k with
      | .slice _ => match asSl e.size y with
        | some (ys, _) => match x with
          | .vs id z lo n _ => match Nat.beq z e.size with
            | true => match nth h id with
              | some (.vec z' xs) => match Nat.beq z' e.size with
                | true => match md with
                  | 1 => J.o.is lo 0 ∧ J.o.is n (J.o.len xs) ∧ J.o.room xs ys e.bytes ∧
                      k (.vs (lenN h) e.size 0 (J.o.len (J.o.apnd xs ys)) (J.o.len (J.o.apnd xs ys))) (.mv id (lenN h) (.vec e.size (J.o.apnd xs ys)))
                  | _ => F
                | false => F
              | _ => F
            | false => F
          | x => match asSl e.size x with
            | some (xs, .full) => J.o.emp xs ∧ J.o.room [] ys e.bytes ∧ k (.vs (lenN h) e.size 0 (J.o.len ys) (J.o.len ys)) (.new (lenN h) (.vec e.size ys))
            | _ => F
        | none => match y with
          | .vs iy zy ly ny _ => match Nat.beq zy e.size with
            | true => match nth h iy with
              | some (.vec zy' xy) => match Nat.beq zy' e.size with
                | true => J.o.le 0 ly ∧ J.o.le 0 ny ∧ J.o.le (J.o.sum ly ny) (J.o.len xy) ∧ match x with
                  | .vs id z lo n N => match Nat.beq id iy with
                    | true => match Nat.beq z e.size with
                      | true => match md with
                        | 1 => F
                        | _ => J.o.le 0 lo ∧ J.o.le 0 n ∧ J.o.le (J.o.sum (J.o.sum lo n) (J.o.len (J.o.sub xy ly (J.o.sum ly ny)))) N ∧ J.o.le (J.o.sum (J.o.sum lo n) (J.o.len (J.o.sub xy ly (J.o.sum ly ny)))) (J.o.len xy) ∧ J.o.room xy (J.o.sub xy ly (J.o.sum ly ny)) e.bytes ∧
                            k (.vs id e.size lo (J.o.sum n (J.o.len (J.o.sub xy ly (J.o.sum ly ny)))) N) (.wr id (.vec e.size (J.o.lay xy (J.o.sum lo n) (J.o.sub xy ly (J.o.sum ly ny)))))
                      | false => F
                    | false => F
                  | _ => F
                | false => F
              | _ => F
            | false => F
          | _ => F
      | _ => F
    | false => F
  | false => F

/-- Operations that write the heap. -/
def dopW (op : Op) (s : St) (F : Prop) (k : AV → Fp → Prop) : Prop :=
  match op with
  | .store t x v => match s.ev x with
    | .ptr id off => match nth s.hp id with
      | some (.var cs) => match Nat.blt 0 (tab t).size with
        | true => match Nat.beq (lenN (s.ev v).cells) (tab t).size with
          | true => match allOne (s.ev v).cells with
            | true => match upon cs off (s.ev v).cells with
              | some cs' => k .junk (.wr id (.var cs'))
              | none => F
            | false => F
          | false => F
        | false => F
      | _ => F
    | .vp id z i off => match nth s.hp id with
      | some (.vec z' xs) => match Nat.beq z z' with
        | true => match Nat.blt 0 (tab t).size with
          | true => match Nat.beq (lenN (s.ev v).cells) (tab t).size with
            | true => match freeL (s.ev v).cells with
              | some ys => match Nat.beq z (tab t).size with
                | true => match off with
                  | 0 => J.o.inb i (J.o.len xs) ∧ k .junk (.wr id (.vec z (J.o.upd xs i (unc (s.ev v) ys))))
                  | _ => F
                | false => F
              | none => F
            | false => F
          | false => F
        | false => F
      | _ => F
    | _ => F
  | .alloc t => match (tab t).ok with
    | true => k (.ptr (lenN s.hp) 0) (.new (lenN s.hp) (.var (tab t).zero))
    | false => F
  | .box _ x => match allOne (s.ev x).cells with
    | true => k (.ptr (lenN s.hp) 0) (.new (lenN s.hp) (.var (s.ev x).cells))
    | false => F
  | .makeMap _ r => match r with
    | none => k (.mp (lenN s.hp)) (.new (lenN s.hp) (.mp []))
    | some _ => F
  | .mapUpdate t m kk v => match (tab t).k with
    | .map kt _ => match keyTy tab (tab kt) with
      | false => F
      | true => match keyOk (tab kt).agg (tab kt).lv (s.ev kk) with
        | false => F
        | true => match s.ev m with
          | .mp id => match nth s.hp id with
            | some (.mp es) => J.o.mok (tab kt).agg (tab kt).lv es ∧ k .junk (.wr id (.mp (J.o.mput es (s.ev kk) (s.ev v))))
            | _ => F
          | _ => F
    | _ => F
  | .call ⟨.builtin .append, args, ts⟩ => match evs s args.toList with
    | [x, y] => match ts.toList with
      | t :: u :: _ => match (tab t).k with
        | .slice e => match (tab t).md with
          | 0 => match Nat.blt 0 (tab e).bytes with
            | true => match asSl (tab e).size x with
              | none => F
              | some (xs, tok) => match (tab u).k with
                | .slice _ => match asSl (tab e).size y with
                  | none => F
                  | some (ys, _) => J.o.room xs ys (tab e).bytes ∧ appW J (tab e).size xs ys tok s.hp F k
                | _ => F
            | false => F
          | md => apW J md (tab u) (tab e) x y s.hp F k
        | _ => F
      | _ => F
    | _ => F
  | _ => F

/-- Is an operation done whose guard is this? -/
def gOf (b : Bool) (x : AV) : Option Bool :=
  match x with
  | .bool t => some (gd J t b)
  | .cond g (.bool t) => some (J.o.band g (gd J t b))
  | _ => none

/-- All operations that are left wait for one of these. -/
def waitsAny : List Edge → List Nat → Bool
  | _, [] => false
  | es, j :: l => match hasEdge es j with
    | true => true
    | false => waitsAny es l

def alone : List (Nat × Oper) → List Nat → Bool
  | [], _ => true
  | (i, q) :: r, l => match waitsAny q.after.toList l with
    | true => alone r (i :: l)
    | false => false

/-- The order in which this machine goes: what looks at slots first, then what reads, then calls, then what writes. -/
def noneIn : List Edge → List (Nat × Oper) → Bool
  | _, [] => true
  | es, (j, _) :: r => match hasEdge es j with
    | true => false
    | false => noneIn es r

def clsOf (op : Op) : Nat :=
  match sureOp tab op with
  | true => 0
  | false => match readOp op with
    | true => 1
    | false => match isCall op with
      | true => 2
      | false => 3

/-- The first operation of a class that waits for none that is left; the others. -/
def pickOf (c : Nat) (all : List (Nat × Oper)) : List (Nat × Oper) → Option ((Nat × Oper) × List (Nat × Oper))
  | [] => none
  | x :: r => match Nat.beq (clsOf tab x.2.op) c with
    | true => match noneIn x.2.after.toList all with
      | true => some (x, r)
      | false => match pickOf c all r with
        | some (y, l) => some (y, x :: l)
        | none => none
    | false => match pickOf c all r with
      | some (y, l) => some (y, x :: l)
      | none => none

def pick4 (all : List (Nat × Oper)) : Option ((Nat × Oper) × List (Nat × Oper)) :=
  match pickOf tab 0 all all with
  | some x => some x
  | none => match pickOf tab 1 all all with
    | some x => some x
    | none => match pickOf tab 2 all all with
      | some x => some x
      | none => pickOf tab 3 all all

def orderOf : Nat → List (Nat × Oper) → Option (List (Nat × Oper))
  | _, [] => some []
  | 0, _ :: _ => none
  | n + 1, l => match pick4 tab l with
    | none => none
    | some (x, r) => match orderOf n r with
      | none => none
      | some m => some (x :: m)

def numbered : Nat → List Oper → List (Nat × Oper)
  | _, [] => []
  | i, q :: r => (i, q) :: numbered (i + 1) r

/-- What stands where an operation was passed over. -/
def dummy (op : Op) : AV :=
  match op with
  | .indexAddr t _ _ => match (tab t).k with
    | .slice e => .cond false (.cptr (tab e).zero 0)
    | _ => .junk
  | _ => .junk

/-- What stands where a call was passed over. -/
def dumb (q : Oper) : AV :=
  match (tab q.type).zeroV with
  | some z => .cond false z
  | none => .junk

/-- In this machine's order, for all orders. F: what is to be shown if this machine cannot tell. -/
def drawK (all : List Oper) (n : Nat) (F : Prop) : List (Nat × Oper) → List (Nat × Fp) → St → (St → Prop) → Prop
  | [], _, s, K => K s
  | (i, q) :: r, acc, s, K => match fits q.dst s.n with
    | false => F
    | true => match edgesLt q.after.toList n with
      | false => F
      | true => match waits all i q.after.toList q.op.operands.toList with
        | false => F
        | true => match sole all q.dst i with
          | false => F
          | true => match q.guard with
            | none => match clsOf tab q.op with
              | 0 => strip true (reads q.op) s fun s' => aop J tab q.op s' (fun v _ => drawK all n F r ((i, .no) :: acc) (s.put q.dst v s.hp) K) (fun _ _ => False)
              | 1 => strip true (reads q.op) s fun s' => match okAcc acc q.after.toList (fpR q.op s') with
                | false => F
                | true => aop J tab q.op s' (fun v _ => drawK all n F r ((i, fpR q.op s') :: acc) (s.put q.dst v s.hp) K) (fun _ _ => False)
              | 2 => strip true (reads q.op) s fun s' => match alone r [i] with
                | true => match quietAcc acc q.after.toList with
                  | false => F
                  | true => aop J tab q.op s' (fun v h => framesP acc q.after.toList s.hp h ∧ drawK all n F r acc (s.put q.dst v h) K) (fun _ _ => False)
                | false => match q.op with
                  | .call ⟨.value f, args, _⟩ => match s'.ev f with
                    | .func f caps => J.pure f (evs s' args.toList ++ caps) fun v => drawK all n F r ((i, .no) :: acc) (s.put q.dst v s.hp) K
                    | _ => F
                  | _ => F
              | _ => strip true (reads q.op) s fun s' => dopW J tab q.op s' F fun v fp => match okAcc acc q.after.toList fp with
                | false => F
                | true => drawK all n F r ((i, fp) :: acc) (s.put q.dst v (fp.go s.hp)) K
            | some (j, b) => match (nth all j).bind (·.dst) with
              | none => F
              | some d => match waits all i q.after.toList [.tmp d] with
                | false => F
                | true => match gOf J b (look s.env d) with
                  | none => F
                  | some g => match clsOf tab q.op with
                    | 0 => match quietOp q.op with
                      | true => strip g (reads q.op) s fun s' => aopG J tab g q.op s' (fun v _ => drawK all n F r ((i, .no) :: acc) (s.put q.dst (.cond g v) s.hp) K) (fun _ _ => False)
                      | false => (g = true → strip true (reads q.op) s fun s' => aop J tab q.op s' (fun v _ => drawK all n F r ((i, .no) :: acc) (s.put q.dst v s.hp) K) (fun _ _ => False)) ∧
                          (g = false → drawK all n F r ((i, .no) :: acc) (s.put q.dst (dummy tab q.op) s.hp) K)
                    | 1 => match quietOp q.op with
                      | true => strip g (reads q.op) s fun s' => match okAcc acc q.after.toList (fpR q.op s') with
                        | false => F
                        | true => aopG J tab g q.op s' (fun v _ => drawK all n F r ((i, fpR q.op s') :: acc) (s.put q.dst (.cond g v) s.hp) K) (fun _ _ => False)
                      | false => (g = true → strip true (reads q.op) s fun s' => match okAcc acc q.after.toList (fpR q.op s') with
                          | false => F
                          | true => aop J tab q.op s' (fun v _ => drawK all n F r ((i, fpR q.op s') :: acc) (s.put q.dst v s.hp) K) (fun _ _ => False)) ∧
                          (g = false → drawK all n F r ((i, .no) :: acc) (s.put q.dst .junk s.hp) K)
                    | 2 => match alone r [i] with
                      | true => match quietAcc acc q.after.toList with
                        | false => F
                        | true => (g = true → strip true (reads q.op) s fun s' => aop J tab q.op s' (fun v h => framesP acc q.after.toList s.hp h ∧ drawK all n F r acc (s.put q.dst v h) K) (fun _ _ => False)) ∧
                          (g = false → drawK all n F r acc (s.put q.dst (dumb tab q) s.hp) K)
                      | false => strip g (reads q.op) s fun s' => match q.op with
                        | .call ⟨.value f, args, _⟩ => match s'.ev f with
                          | .func f caps => J.pure f (evs s' args.toList ++ caps) fun v => drawK all n F r ((i, .no) :: acc) (s.put q.dst (.cond g v) s.hp) K
                          | _ => F
                        | _ => F
                    | _ => (g = true → strip true (reads q.op) s fun s' => dopW J tab q.op s' F fun v fp => match okAcc acc q.after.toList fp with
                        | false => F
                        | true => drawK all n F r ((i, fp) :: acc) (s.put q.dst v (fp.go s.hp)) K) ∧
                        (g = false → drawK all n F r ((i, .no) :: acc) (s.put q.dst .junk s.hp) K)

/-- A region whose order is drawn. -/
def drawR (all : List Oper) (F : Prop) (s : St) (K : St → Prop) : Prop :=
  match orderOf tab (lenN all) (numbered 0 all) with
  | none => F
  | some r => drawK J tab all (lenN all) F r [] s K

def thenQ (k : St → Prop) (Q : Ex → St → Prop) : Ex → St → Prop
  | .normal, s => k s
  | .exit i, s => Q (.exit i) s
  | .ret, s => Q .ret s
  | .pan v, s => Q (.pan v) s

def blockQ (id : Nat) (Q : Ex → St → Prop) : Ex → St → Prop
  | .normal, s => Q .normal s
  | .exit i, s => match Nat.beq i id with | true => Q .normal s | false => Q (.exit i) s
  | .ret, s => Q .ret s
  | .pan v, s => Q (.pan v) s

/-- What is to be proved, for Q to hold behind the code. -/
def awp : Code → (Ex → St → Prop) → St → Prop
  | .skip, Q, s => Q .normal s
  | .label _, Q, s => Q .normal s
  | .region _ ops false, Q, s => aops J tab ops.toList ops.toList s (fun s' => Q .normal s') (fun v h => Q (.pan v) ⟨[], h, s.n⟩)
  | .region i ops true, Q, s => drawR J tab ops.toList (J.code (.region i ops true) Q s) s fun s' => Q .normal s'
  | .seq a b, Q, s => awp a (thenQ (fun s' => awp b Q s') Q) s
  | .cond c a b, Q, s => match s.ev c with
    | .bl true => awp a Q s
    | .bl false => awp b Q s
    | .bool t => (t = true → awp a Q s) ∧ (t = false → awp b Q s)
    | _ => False
  | .block id c, Q, s => awp c (blockQ id Q) s
  | .scope c, Q, s => awp c Q s
  | .exit id, Q, s => Q (.exit id) s
  | .ret, Q, s => Q .ret s
  | .loop c, Q, s => J.code (.loop c) Q s
  | .rangeFunc f ps a c, Q, s => J.code (.rangeFunc f ps a c) Q s
  | .goto _, _, _ => False
  | .refuse _, _, _ => False
end
/-! Places renamed: what a callee sees, what a caller keeps. -/

def idx : List Nat → Nat → Option Nat
  | [], _ => none
  | x :: l, i => match Nat.beq x i with
    | true => some 0
    | false => match idx l i with
      | some j => some (j + 1)
      | none => none

def renT (g : Nat → Option Nat) : Tok → Tok
  | .no => .no
  | .full => .full
  | .tip i p => match g i with
    | some j => .tip j p
    | none => .no

def ren (g : Nat → Option Nat) : Nat → AV → AV
  | 0, _ => .junk
  | d + 1, a => match a with
    | .agg cs => .agg (cs.map (ren g d))
    | .tup cs => .tup (cs.map (ren g d))
    | .sl s xs t => .sl s xs (renT g t)
    | .ms i o s n => match g i with
      | some j => .ms j o s n
      | none => .junk
    | .vs i s lo n N => match g i with
      | some j => .vs j s lo n N
      | none => .junk
    | .vp i s k o => match g i with
      | some j => .vp j s k o
      | none => .junk
    | .ptr i o => match g i with
      | some j => .ptr j o
      | none => .junk
    | .mp i => match g i with
      | some j => .mp j
      | none => .junk
    | .func f cs => .func f (cs.map (ren g d))
    | .iface t x => .iface t (ren g d x)
    | .cond _ _ => .junk
    | .yld i => match g i with
      | some j => .yld j
      | none => .junk
    | .bl b => .bool b
    | a => a

def renE (g : Nat → Option Nat) : Ent → Ent
  | .var cs => .var (cs.map (ren g 6))
  | .tip p => .tip p
  | .vec s xs => .vec s xs
  | .mp es => .mp (es.map fun x => (ren g 6 x.1, ren g 6 x.2))
  | .lp ps a b env n st pe => .lp ps a b (env.map fun x => (x.1, ren g 6 x.2)) n st pe
  | .dead => .dead

def entOr : Option Ent → Ent
  | some e => e
  | none => .dead

/-- The heap's places l alone, under the numbers 0, 1, .. -/
def pack (l : List Nat) (σ : List Ent) : List Ent := l.map fun i => renE (idx l) (entOr (nth σ i))

/-- Where a callee's places are in its caller's heap of n places. -/
def up (l : List Nat) (n j : Nat) : Option Nat :=
  match nth l j with
  | some i => some i
  | none => some (n + (j - lenN l))

def updFrom (l : List Nat) (n : Nat) (τ : List Ent) : Nat → List Ent → List Ent
  | _, [] => []
  | i, e :: r => (match idx l i with
    | some j => renE (up l n) (entOr (nth τ j))
    | none => e) :: updFrom l n τ (i + 1) r

def dropN {α : Type} : Nat → List α → List α
  | 0, l => l
  | _ + 1, [] => []
  | n + 1, _ :: r => dropN n r

/-- The caller's heap behind a call that had the places l of it, and left τ. -/
def back (l : List Nat) (σ τ : List Ent) : List Ent := updFrom l (lenN σ) τ 0 σ ++ (dropN (lenN l) τ).map (renE (up l (lenN σ)))

def rangeN : Nat → List Nat
  | 0 => []
  | n + 1 => snoc (rangeN n) n

def argEnv : Nat → List AV → List (Nat × AV)
  | _, [] => []
  | i, a :: r => (i, a) :: argEnv (i + 1) r

def resOne (tab : Nat → Ty) (s : St) : ResultVar → Option AV
  | .tmp t => some (look s.env t)
  | .cell a t => match look s.env a with
    | .ptr id off => match nth s.hp id with
      | some (.var cs) => rd (tab t) cs off
      | _ => none
    | _ => none

def resAll (tab : Nat → Ty) (s : St) : List ResultVar → Option (List AV)
  | [] => some []
  | r :: l => match resOne tab s r with
    | none => none
    | some v => match resAll tab s l with
      | none => none
      | some vs => some (v :: vs)

def resOf (tab : Nat → Ty) (s : St) (l : List ResultVar) : Option AV :=
  match resAll tab s l with
  | none => none
  | some [v] => some v
  | some vs => some (.tup vs)

/-- K of a value (and of a heap) that has been computed. -/
def via (v : AV) (K : AV → Prop) : Prop :=
  match v with
  | .int k n => K (.int k n)
  | .bool b => K (.bool b)
  | .bl b => K (.bl b)
  | .str s => K (.str s)
  | .agg cs => K (.agg cs)
  | .tup vs => K (.tup vs)
  | .sl s xs t => K (.sl s xs t)
  | .nils => K .nils
  | .ms i o s n => K (.ms i o s n)
  | .vs i s lo n N => K (.vs i s lo n N)
  | .vp i s k o => K (.vp i s k o)
  | .ptr i o => K (.ptr i o)
  | .cptr cs o => K (.cptr cs o)
  | .nilp => K .nilp
  | .mp i => K (.mp i)
  | .nilm => K .nilm
  | .func f cs => K (.func f cs)
  | .nilf => K .nilf
  | .iface t v => K (.iface t v)
  | .nili => K .nili
  | .cond g a => K (.cond g a)
  | .yld i => K (.yld i)
  | .junk => K .junk

def viaL {α : Type} (l : List α) (K : List α → Prop) : Prop :=
  match l with
  | [] => K []
  | e :: r => K (e :: r)

/-- What is to hold when a function's body has ended: kl are the places that are told. -/
def retQ (tab : Nat → Ty) (rs : List ResultVar) (kl : List Nat) (K E : AV → List Ent → Prop) : Ex → St → Prop
  | .normal, s => match resOf tab s rs with
    | some r => via (ren (idx kl) 9 r) fun r => viaL (pack kl s.hp) fun h => K r h
    | none => False
  | .ret, s => match resOf tab s rs with
    | some r => via (ren (idx kl) 9 r) fun r => viaL (pack kl s.hp) fun h => K r h
    | none => False
  | .exit _, _ => False
  | .pan v, s => E (ren (idx kl) 9 v) (pack kl s.hp)

/-- What is known less: of a value, of slots, of the heap. -/
def wk (a b : AV) : Prop :=
  match b with
  | .junk => True
  | .sl s xs .no => match a with
    | .sl s' xs' _ => s' = s ∧ xs' = xs
    | .nils => xs = []
    | _ => False
  | .sl s xs .full => match a with
    | .sl s' xs' .full => s' = s ∧ xs' = xs
    | .nils => xs = []
    | _ => False
  | b => a = b

def wkL : List AV → List AV → Prop
  | [], [] => True
  | a :: l, b :: m => wk a b ∧ wkL l m
  | _, _ => False

def wkEnv (e : List (Nat × AV)) : List (Nat × AV) → Prop
  | [] => True
  | (k, v) :: r => wk (look e k) v ∧ wkEnv e r

def wkE (e f : Ent) : Prop :=
  match f with
  | .dead => True
  | .var cs' => match e with
    | .var cs => wkL cs cs'
    | _ => False
  | .tip p => match e with
    | .tip q => q = p
    | _ => False
  | .vec s xs => match e with
    | .vec s' xs' => s' = s ∧ xs' = xs
    | _ => False
  | .mp es => match e with
    | .mp es' => es' = es
    | _ => False
  | .lp ps a b env n st pe => e = .lp ps a b env n st pe

def wkH : List Ent → List Ent → Prop
  | _, [] => True
  | e :: h, f :: k => wkE e f ∧ wkH h k
  | [], _ :: _ => False

def okT (m : Nat) : Tok → Bool
  | .tip i _ => Nat.blt i m
  | _ => true

/-- Only the first m places are named. -/
def okV (m : Nat) : Nat → AV → Bool
  | 0, _ => false
  | d + 1, a => match a with
    | .agg cs => cs.all (okV m d)
    | .tup cs => cs.all (okV m d)
    | .sl _ _ t => okT m t
    | .ms i _ _ _ => Nat.blt i m
    | .vs i _ _ _ _ => Nat.blt i m
    | .vp i _ _ _ => Nat.blt i m
    | .ptr i _ => Nat.blt i m
    | .mp i => Nat.blt i m
    | .yld i => Nat.blt i m
    | .func _ cs => cs.all (okV m d)
    | .iface _ x => okV m d x
    | .cond _ _ => false
    | _ => true

def okE (m : Nat) : Ent → Bool
  | .var cs => cs.all (okV m 6)
  | .mp es => es.all fun x => okV m 6 x.1 && okV m 6 x.2
  | .lp _ _ _ env _ _ _ => env.all fun x => okV m 6 x.2
  | _ => true

def okS (s : St) : Bool := (s.env.all fun x => okV (lenN s.hp) 6 x.2) && s.hp.all (okE (lenN s.hp))

/-- The state t says no more than s. -/
def Le (s t : St) : Prop := wkEnv s.env t.env ∧ wkH s.hp t.hp ∧ okS t = true ∧ s.n = t.n

end Go.Pt
