/- The abstract machine: Go code run over symbolic values and a symbolic heap. Definitions alone. -/import GoSem.Core.World
import Derived.Calls
import Derived.Scope
import Derived.Laws.World
import Derived.Laws.Cells
import Derived.ChangeKeysEq
import Derived.Laws.Entries
import Derived.Laws.CopyRow
import Derived.Laws.NewBlocks
import Derived.Laws.StructEq
import Derived.Laws.Tables
import Derived.RangeFuncLeaves
import Derived.RangeFuncCalls
import Derived.OrdersIn
namespace Go.Pt
open Go
def beN (a b : Nat) : Bool := a == b
def ltN (a b : Nat) : Bool := decide (a < b)
def leN (a b : Nat) : Bool := decide (a ≤ b)
theorem beN_t {a b : Nat} (h : beN a b = true) : a = b := by simpa [beN] using h
@[simp] theorem beN_self {a : Nat} : beN a a = true := by simp [beN]
@[simp] theorem beN_iff {a b : Nat} : beN a b = true ↔ a = b := by simp [beN]
theorem ltN_t {a b : Nat} (h : ltN a b = true) : a < b := by simpa [ltN] using h
theorem leN_t {a b : Nat} (h : leN a b = true) : a ≤ b := by simpa [leN] using h
@[simp] theorem ltN_eq {a b : Nat} : (ltN a b = true) = (a < b) := by simp [ltN]
@[simp] theorem leN_eq {a b : Nat} : (leN a b = true) = (a ≤ b) := by simp [leN]
theorem ltN_f {a b : Nat} (h : ltN a b = false) : b ≤ a := by simpa [ltN] using h
inductive Tok where
  | no
  | full
  | tip (id pos : Nat)
inductive AV where
  | int (k : IntKind) (n : Int)
  | bool (b : Bool)
  | bl (b : Bool)
  | str (s : ByteArray)
  | agg (cs : List AV)
  | tup (vs : List AV)
  | sl (s : Nat) (xs : List AV) (t : Tok)
  | nils
  | ms (id off s len : Nat)
  | vs (id s : Nat) (lo n N : Int)
  | vp (id s : Nat) (i : Int) (off : Nat)
  | fp (t : Nat) (k : Int) (off : Nat)
  | ptr (id off : Nat)
  | cptr (cs : List AV) (off : Nat)
  | nilp
  | mp (id : Nat)
  | nilm
  | func (f : FuncId) (caps : List AV)
  | nilf
  | iface (t : TypeId) (v : AV)
  | nili
  | cond (g : Bool) (a : AV)
  | yld (id : Nat)
  | junk
inductive Ent where
  | var (cs : List AV)
  | tip (pos : Nat)
  | vec (s : Nat) (xs : List AV)
  | fam (t : Nat) (os : List AV)
  | mp (es : List (AV × AV))
  | lp (ps : List Nat) (asg body : Code) (env : List (Nat × AV)) (n : Nat) (st : LoopState) (pend : Option Code)
  | dead
inductive TK where
  | int (k : IntKind)
  | bool
  | str
  | slice (e : Nat)
  | ptr (e : Nat)
  | struct (fs : List (Nat × Nat))
  | arr (n e : Nat)
  | map (k e : Nat)
  | func
  | iface
  | tup
  | other
structure Ty where
  k : TK
  size : Nat
  bytes : Nat
  agg : Bool
  zero : List AV
  lv : List TK
  ok : Bool
  md : Nat := 0
  tm : AV := .junk
structure Ops where
  ar : BinOp → IntKind → Int → Int → Int
  sh : BinOp → IntKind → Int → Int → Int
  cmp : BinOp → Int → Int → Bool
  seq : ByteArray → ByteArray → Bool
  scmp : BinOp → ByteArray → ByteArray → Bool
  cat : ByteArray → ByteArray → ByteArray
  wrap : IntKind → Int → Int
  neg : IntKind → Int → Int
  com : IntKind → Int → Int
  mx : Int → Int → Int
  mn : Int → Int → Int
  band : Bool → Bool → Bool
  bnot : Bool → Bool
  pick : Bool → Bool → Bool → Bool
  same : Bool → Bool → Bool
  nat : Nat → Int
  len : List AV → Int
  get : List AV → Int → Option AV
  apnd : List AV → List AV → List AV
  pos : List AV → List AV → Nat
  padd : Nat → List AV → Nat
  room : List AV → List AV → Nat → Prop
  slen : ByteArray → Int
  byte : ByteArray → Int → Option UInt8
  bytes : ByteArray → List AV
  inb : Int → Int → Prop
  nz : Int → Prop
  nn : Int → Prop
  mks : Int → Int → Nat → Prop
  le : Int → Int → Prop
  sub : List AV → Int → Int → List AV
  drop : List AV → Int → List AV
  ssub : ByteArray → Int → Int → ByteArray
  mfind : List (AV × AV) → AV → Option AV
  mput : List (AV × AV) → AV → AV → List (AV × AV)
  mdel : List (AV × AV) → AV → List (AV × AV)
  mok : Bool → List TK → List (AV × AV) → Prop
  sum : Int → Int → Int
  dif : Int → Int → Int
  upd : List AV → Int → AV → List AV
  lay : List AV → Int → List AV → List AV
  rep : Int → AV → List AV
  emp : List AV → Prop
  is : Int → Int → Prop
  isb : List AV → Prop
  ofb : List AV → ByteArray
  mlen : List (AV × AV) → Int
structure St where
  env : List (Nat × AV)
  hp : List Ent
  n : Nat
inductive Ex where
  | normal
  | exit (id : Nat)
  | ret
  | pan (v : AV)
structure Jd where
  o : Ops
  call : FuncId → List AV → List Ent → (AV → List Ent → Prop) → (AV → List Ent → Prop) → Prop
  code : Code → (Ex → St → Prop) → St → Prop
  pure : FuncId → List AV → (AV → Prop) → Prop
  yld : Nat → List AV → List Ent → (AV → List Ent → Prop) → Prop
  hold : (Unit → Prop) → Prop
  mkT : FuncId → List AV → (AV → Nat → Prop) → Prop
def look : List (Nat × AV) → Nat → AV
  | [], _ => .junk
  | (k, v) :: r, t => match beN k t with | true => v | false => look r t
def nth {α : Type} : List α → Nat → Option α
  | [], _ => none
  | x :: _, 0 => some x
  | _ :: r, n + 1 => nth r n
def setN {α : Type} : List α → Nat → α → List α
  | [], _, _ => []
  | _ :: r, 0, v => v :: r
  | x :: r, n + 1, v => x :: setN r n v
def snoc {α : Type} : List α → α → List α
  | [], v => [v]
  | x :: r, v => x :: snoc r v
def lenN {α : Type} : List α → Nat
  | [] => 0
  | _ :: r => lenN r + 1
def cut {α : Type} : List α → Nat → Nat → Option (List α)
  | _, _, 0 => some []
  | [], _, _ + 1 => none
  | x :: r, 0, n + 1 => (cut r 0 n).map (x :: ·)
  | _ :: r, o + 1, n + 1 => cut r o (n + 1)
def upon {α : Type} : List α → Nat → List α → Option (List α)
  | l, _, [] => some l
  | [], _, _ :: _ => none
  | _ :: r, 0, y :: ys => (upon r 0 ys).map (y :: ·)
  | x :: r, o + 1, y :: ys => (upon r o (y :: ys)).map (x :: ·)
def AV.cells : AV → List AV
  | .agg cs => cs
  | v => [v]
def AV.one : AV → Bool
  | .agg _ | .tup _ | .cond _ _ | .junk => false
  | _ => true
def lit : Value → AV
  | .int k n => .int k n
  | .bool b => .bl b
  | .string s => .str s
  | .pointer none => .nilp
  | .slice none 0 0 => .nils
  | .map none => .nilm
  | .nilFunc => .nilf
  | .nilIface => .nili
  | _ => .junk
def St.ev (s : St) : Operand → AV
  | .tmp t => look s.env t
  | .const v => lit v
  | .func f => .func f []
  | .global _ => .junk
def under (g : Bool) : AV → (AV → Prop) → Prop
  | .cond g' a, K => (g = true → g' = true) ∧ K a
  | a, K => K a
def AV.tell : AV → Option Bool
  | .bool b => some b
  | .bl b => some b
  | _ => none
def evs (s : St) : List Operand → List AV
  | [] => []
  | x :: r => s.ev x :: evs s r
def St.put (s : St) (d : Option Nat) (v : AV) (h : List Ent) : St :=
  match d with
  | some t => ⟨(t, v) :: s.env, h, s.n⟩
  | none => ⟨s.env, h, s.n⟩
def rd (T : Ty) (cs : List AV) (off : Nat) : Option AV :=
  match T.ok with
  | true => match T.agg with
    | true => (cut cs off T.size).map .agg
    | false => nth cs off
  | false => none
def TK.fld (k : TK) (i : Nat) : Option (Nat × Nat) :=
  match k with
  | .struct fs => nth fs i
  | _ => none
def Ty.no : Ty := ⟨.other, 0, 0, false, [], [], false, 0, .junk⟩
def asSl (s : Nat) : AV → Option (List AV × Tok)
  | .sl s' xs t => match beN s s' with | true => some (xs, t) | false => none
  | .nils => some ([], .full)
  | _ => none
def famOf (h : List Ent) (t : Nat) : Option (Nat × List AV) :=
  match nth h t with
  | some (.fam t' os) => match beN t t' with
    | true => some (t, os)
    | false => none
  | _ => none
def famPl : Nat → Option Nat
  | 5 => some 0
  | 6 => some 1
  | 7 => some 2
  | _ => none
section
variable (J : Jd) (tab : Nat → Ty)
def kn : IntKind → Nat
  | .i8 => 0 | .i16 => 1 | .i32 => 2 | .i64 => 3 | .u8 => 4 | .u16 => 5 | .u32 => 6 | .u64 => 7
def eqLeaf (k : TK) (x y : AV) : Option Bool :=
  match k with
  | .int _ => match x with
    | .int k a => match y with
      | .int k' b => match beN (kn k) (kn k') with
        | true => some (J.o.cmp .eql a b)
        | false => none
      | _ => none
    | _ => none
  | .bool => match x.tell with
    | some a => match y.tell with
      | some b => some (J.o.same a b)
      | none => none
    | none => none
  | .str => match x with
    | .str a => match y with
      | .str b => some (J.o.seq a b)
      | _ => none
    | _ => none
  | .ptr _ => match x with
    | .nilp => match y with
      | .nilp => some true
      | .ptr _ _ => some false
      | .cptr _ _ => some false
      | .fp _ _ _ => some false
      | _ => none
    | .fp t k o => match y with
      | .nilp => some false
      | .fp t' k' o' => match beN t t' with
        | true => match beN o o' with
          | true => some (J.o.cmp .eql k k')
          | false => none
        | false => none
      | _ => none
    | .ptr _ _ => match y with | .nilp => some false | _ => none
    | .cptr _ _ => match y with | .nilp => some false | _ => none
    | _ => none
  | .map _ _ => match x with
    | .nilm => match y with
      | .nilm => some true
      | .mp _ => some false
      | _ => none
    | .mp _ => match y with | .nilm => some false | _ => none
    | _ => none
  | .func => match x with
    | .nilf => match y with
      | .nilf => some true
      | .func _ _ => some false
      | _ => none
    | .func _ _ => match y with | .nilf => some false | _ => none
    | _ => none
  | _ => none
def eqAll : List TK → List AV → List AV → Option Bool
  | [], [], [] => some true
  | k :: ks, x :: xs, y :: ys => match eqLeaf J k x y with
    | none => none
    | some b => match ks with
      | [] => match xs with
        | [] => match ys with
          | [] => some b
          | _ => none
        | _ => none
      | _ => match eqAll ks xs ys with
        | none => none
        | some c => some (J.o.band b c)
  | _, _, _ => none
def eqT (T : Ty) (x y : AV) : Option Bool :=
  match T.lv with
  | [] => none
  | ks => match T.agg with
    | true => match x with
      | .agg xs => match y with
        | .agg ys => eqAll J ks xs ys
        | _ => none
      | _ => none
    | false => eqAll J ks [x] [y]
def cellsL : List AV → List AV
  | [] => []
  | x :: r => x.cells ++ cellsL r
def allOne : List AV → Bool
  | [] => true
  | x :: r => match x.one with | true => allOne r | false => false
def fillA (place : Nat → Option (Nat × Nat)) : List AV → List (Nat × AV) → Option (List AV)
  | cs, [] => some cs
  | cs, (i, v) :: r => match place i with
    | none => none
    | some (off, size) => match beN (lenN v.cells) size with
      | false => none
      | true => match v.cells with
        | [] => none
        | _ => match allOne v.cells with
          | false => none
          | true => match upon cs off v.cells with
            | none => none
            | some cs' => fillA place cs' r
def parts (s : St) : List (Nat × Operand) → List (Nat × AV)
  | [] => []
  | (i, x) :: r => (i, s.ev x) :: parts s r
def repl {α : Type} : Nat → List α → List α
  | 0, _ => []
  | n + 1, l => l ++ repl n l
def AV.free : AV → Option AV
  | .int k n => some (.int k n)
  | .bool b => some (.bool b)
  | .bl b => some (.bool b)
  | .str s => some (.str s)
  | .sl s xs t => some (.sl s xs (match t with | .full => .full | _ => .no))
  | .nils => some .nils
  | .cptr cs o => some (.cptr cs o)
  | .fp t k o => some (.fp t k o)
  | .nilp => some .nilp
  | .nilm => some .nilm
  | .nilf => some .nilf
  | .nili => some .nili
  | _ => none
def freeL : List AV → Option (List AV)
  | [] => some []
  | x :: r => match x.free with
    | none => none
    | some y => match freeL r with
      | none => none
      | some l => some (y :: l)
def wkTL (f : AV → AV → AV) : List AV → List AV → List AV
  | t :: ts, a :: l => f t a :: wkTL f ts l
  | _, l => l
def wkTo : Nat → AV → AV → AV
  | 0, _, a => a
  | d + 1, t, a => match t with
    | .agg ts => match a with
      | .agg l => .agg (wkTL (wkTo d) ts l)
      | a => a
    | .sl z _ _ => match a with
      | .nils => .sl z [] .no
      | .sl s xs _ => .sl s xs .no
      | a => a
    | .bool _ => match a with
      | .bl b => .bool b
      | a => a
    | _ => a
def freeT (tm : List AV) (xs : List AV) : Option (List AV) :=
  match freeL xs with
  | some ys => some (wkTL (wkTo 2) tm ys)
  | none => none
def unc (a : AV) (ys : List AV) : AV :=
  match a with
  | .agg _ => .agg ys
  | _ => match ys with
    | [y] => y
    | _ => .junk
def chunks (T : Ty) : Nat → List AV → Option (List AV)
  | 0, [] => some []
  | 0, _ :: _ => none
  | n + 1, l => match rd T l 0 with
    | none => none
    | some v => (chunks T n (l.drop T.size)).map (v :: ·)
def places (tab : Nat → Ty) : TK → Nat → Option (Nat × Nat)
  | .struct fs, i => match nth fs i with
    | some (t, off) => match (tab t).ok with | true => some (off, (tab t).size) | false => none
    | none => none
  | .arr _ e, i => match (tab e).ok with | true => some (i * (tab e).size, (tab e).size) | false => none
  | _, _ => none
def atIx (xs : List AV) (i : Int) (K : AV → Prop) : Prop :=
  J.o.inb i (J.o.len xs) ∧ ∀ e, J.o.get xs i = some e → K e
def app (s : Nat) (xs ys : List AV) (t : Tok) (h : List Ent) (K : AV → List Ent → Prop) : Prop :=
  match t with
  | .no => False
  | .full => K (.sl s (J.o.apnd xs ys) (.tip (lenN h) (J.o.pos xs ys))) (snoc h (.tip (J.o.pos xs ys)))
  | .tip id pos => match nth h id with
    | some (.tip p) => p = pos ∧ K (.sl s (J.o.apnd xs ys) (.tip id (J.o.padd pos ys))) (setN h id (.tip (J.o.padd pos ys)))
    | _ => False
def byteV : AV → UInt8
  | .int _ n => UInt8.ofNat n.toNat
  | _ => 0
def bytesOf (s : ByteArray) : List AV := s.data.toList.map fun b => .int .u8 b.toNat
def lenA (k : TK) (x : AV) (h : List Ent) (K : AV → Prop) : Prop :=
  match k with
  | .str => match x with
    | .str s => K (.int .i64 (J.o.slen s))
    | _ => False
  | .slice _ => match x with
    | .sl _ xs _ => K (.int .i64 (J.o.len xs))
    | .nils => K (.int .i64 0)
    | .ms _ _ _ n => K (.int .i64 (J.o.nat n))
    | .vs _ _ _ n _ => K (.int .i64 n)
    | _ => False
  | .map _ _ => match x with
    | .nilm => K (.int .i64 0)
    | .mp id => match nth h id with
      | some (.mp es) => K (.int .i64 (J.o.mlen es))
      | _ => False
    | _ => False
  | _ => False
def Ty.zeroV (T : Ty) : Option AV :=
  match T.ok with
  | true => match allOne T.zero with
    | true => match T.agg with
      | true => some (.agg T.zero)
      | false => nth T.zero 0
    | false => none
  | false => none
def Ty.zeroT (T : Ty) : Option AV :=
  match T.zeroV with
  | some z => some (wkTo 2 T.tm z)
  | none => none
def srcV (u e : Ty) (y : AV) (h : List Ent) : Option (List AV × Prop) :=
  match u.k with
  | .slice _ => match y with
    | .vs id z lo n _ => match beN z e.size with
      | true => match nth h id with
        | some (.vec z' xs) => match beN z' e.size with
          | true => some (J.o.sub xs lo (J.o.sum lo n), J.o.le 0 lo ∧ J.o.le 0 n ∧ J.o.le (J.o.sum lo n) (J.o.len xs))
          | false => none
        | _ => none
      | false => none
    | y => match asSl e.size y with
      | some (ys, _) => some (ys, True)
      | none => none
  | .str => match beN e.size 1 with
    | true => match y with
      | .str s => some (J.o.bytes s, True)
      | _ => none
    | false => none
  | _ => none
def apZ (e : Ty) (x y : AV) (h : List Ent) (K : AV → List Ent → Prop) : Prop :=
  match ltN 0 e.bytes with
  | true => match ltN 0 e.size with
    | true => match e.zeroT with
      | none => False
      | some zv => match x with
        | .nils => match y with
          | .int _ n => J.o.mks n n e.bytes ∧ K (.vs (lenN h) e.size 0 n n) (snoc h (.vec e.size (J.o.rep n zv)))
          | _ => False
        | _ => False
    | false => False
  | false => False
def apV (md : Nat) (u e : Ty) (x y : AV) (h : List Ent) (K : AV → List Ent → Prop) : Prop :=
  match u.k with
  | .int _ => apZ J e x y h K
  | _ =>
  match ltN 0 e.bytes with
  | true => match ltN 0 e.size with
    | true => match srcV J u e y h with
      | none => False
      | some (ys, p) => p ∧ match x with
        | .vs id z lo n N => match beN z e.size with
          | true => match nth h id with
            | some (.vec z' xs) => match beN z' e.size with
              | true => match md with
                | 1 => J.o.is lo 0 ∧ J.o.le 0 n ∧ J.o.le n (J.o.len xs) ∧ J.o.room (J.o.sub xs 0 n) ys e.bytes ∧
                    K (.vs (lenN h) e.size 0 (J.o.len (J.o.apnd (J.o.sub xs 0 n) ys)) (J.o.len (J.o.apnd (J.o.sub xs 0 n) ys))) (snoc (setN h id .dead) (.vec e.size (J.o.apnd (J.o.sub xs 0 n) ys)))
                | _ => J.o.le 0 lo ∧ J.o.le 0 n ∧ J.o.le (J.o.sum (J.o.sum lo n) (J.o.len ys)) N ∧ J.o.le (J.o.sum (J.o.sum lo n) (J.o.len ys)) (J.o.len xs) ∧ J.o.room xs ys e.bytes ∧
                    K (.vs id e.size lo (J.o.sum n (J.o.len ys)) N) (setN h id (.vec e.size (J.o.lay xs (J.o.sum lo n) ys)))
              | false => False
            | _ => False
          | false => False
        | x => match asSl e.size x with
          | some (xs, .full) => J.o.emp xs ∧ J.o.room [] ys e.bytes ∧ K (.vs (lenN h) e.size 0 (J.o.len ys) (J.o.len ys)) (snoc h (.vec e.size ys))
          | _ => False
    | false => False
  | false => False
def apA (u e : Ty) (x y : AV) (h : List Ent) (K : AV → List Ent → Prop) : Prop :=
  match ltN 0 e.bytes with
  | true => match asSl e.size x with
    | none => False
    | some (xs, tok) => match u.k with
      | .slice _ => match asSl e.size y with
        | none => False
        | some (ys, _) => J.o.room xs ys e.bytes ∧ app J e.size xs ys tok h K
      | .str => match beN e.size 1 with
        | true => match y with
          | .str s => J.o.room xs (J.o.bytes s) e.bytes ∧ app J e.size xs (J.o.bytes s) tok h K
          | _ => False
        | false => False
      | _ => False
  | false => False
def bi (b : Builtin) (ts : List TypeId) (args : List AV) (h : List Ent) (K : AV → List Ent → Prop) : Prop :=
  match b with
  | .len => match args with
    | [x] => match ts with
      | t :: _ => lenA J (tab t).k x h fun v => K v h
      | _ => False
    | _ => False
  | .min => match args with
    | [.int k a, .int _ b] => K (.int k (J.o.mn a b)) h
    | [.int k a, .int _ b, .int _ c] => K (.int k (J.o.mn (J.o.mn a b) c)) h
    | _ => False
  | .max => match args with
    | [.int k a, .int _ b] => K (.int k (J.o.mx a b)) h
    | [.int k a, .int _ b, .int _ c] => K (.int k (J.o.mx (J.o.mx a b) c)) h
    | _ => False
  | .cap => match args with
    | [.nils] => match ts with
      | t :: _ => match (tab t).k with
        | .slice _ => K (.int .i64 0) h
        | _ => False
      | _ => False
    | _ => False
  | .append => match args with
    | [x, y] => match ts with
      | t :: u :: _ => match (tab t).k with
        | .slice e => match (tab t).md with
          | 0 => apA J (tab u) (tab e) x y h K
          | md => apV J md (tab u) (tab e) x y h K
        | _ => False
      | _ => False
    | _ => False
  | _ => False
def arA (p : BinOp) (x y : AV) (K : AV → Prop) : Prop :=
  match x with
  | .int k a => match y with
    | .int k' b => match beN (kn k) (kn k') with
      | true => K (.int k (J.o.ar p k a b))
      | false => False
    | _ => False
  | .str a => match y with
    | .str b => match p with
      | .add => a.size + b.size < 2 ^ 62 ∧ K (.str (J.o.cat a b))
      | _ => False
    | _ => False
  | _ => False
def dvA (p : BinOp) (x y : AV) (K : AV → Prop) : Prop :=
  match x with
  | .int k a => match y with
    | .int k' b => match beN (kn k) (kn k') with
      | true => J.o.nz b ∧ K (.int k (J.o.ar p k a b))
      | false => False
    | _ => False
  | _ => False
def shA (p : BinOp) (x y : AV) (K : AV → Prop) : Prop :=
  match x with
  | .int k a => match y with
    | .int _ b => J.o.nn b ∧ K (.int k (J.o.sh p k a b))
    | _ => False
  | _ => False
def cpA (p : BinOp) (x y : AV) (K : AV → Prop) : Prop :=
  match x with
  | .int k a => match y with
    | .int k' b => match beN (kn k) (kn k') with
      | true => K (.bool (J.o.cmp p a b))
      | false => False
    | _ => False
  | .str a => match y with
    | .str b => K (.bool (J.o.scmp p a b))
    | _ => False
  | _ => False
def eqA (T : Ty) (n : Bool) (x y : AV) (K : AV → Prop) : Prop :=
  match x, y with
  | .sl _ xs _, .nils => (∃ e, T.k = .slice e) ∧ ∀ b : Bool, (xs ≠ [] → b = n) → K (.bool b)
  | x, y => match eqT J T x y with
    | some b => match n with
      | false => K (.bool b)
      | true => K (.bool (J.o.bnot b))
    | none => False
def binA (T : Ty) (p : BinOp) (x y : AV) (K : AV → Prop) : Prop :=
  match p with
  | .add => arA J .add x y K
  | .sub => arA J .sub x y K
  | .mul => arA J .mul x y K
  | .and => arA J .and x y K
  | .or => arA J .or x y K
  | .xor => arA J .xor x y K
  | .andNot => arA J .andNot x y K
  | .quo => dvA J .quo x y K
  | .rem => dvA J .rem x y K
  | .shl => shA J .shl x y K
  | .shr => shA J .shr x y K
  | .eql => eqA J T false x y K
  | .neq => eqA J T true x y K
  | p => cpA J p x y K
def optI (s : St) : Option Operand → Option (Option Int)
  | none => some none
  | some x => match s.ev x with
    | .int _ n => some (some n)
    | _ => none
def slX (z : Nat) (xs : List AV) (tk : Tok) (lo hi mx : Option Int) (K : AV → Prop) : Prop :=
  match hi with
  | none => match mx with
    | none => match lo with
      | none => K (.sl z xs tk)
      | some l => J.o.le 0 l ∧ J.o.le l (J.o.len xs) ∧ K (.sl z (J.o.drop xs l) tk)
    | some _ => False
  | some h => match mx with
    | none => match lo with
      | none => J.o.le 0 h ∧ J.o.le h (J.o.len xs) ∧ K (.sl z (J.o.sub xs 0 h) .no)
      | some l => J.o.le 0 l ∧ J.o.le l h ∧ J.o.le h (J.o.len xs) ∧ K (.sl z (J.o.sub xs l h) .no)
    | some m => match lo with
      | none => J.o.le 0 h ∧ J.o.le h m ∧ J.o.le m (J.o.len xs) ∧ ∀ t : Tok, (h = m → t = .full) → K (.sl z (J.o.sub xs 0 h) t)
      | some l => J.o.le 0 l ∧ J.o.le l h ∧ J.o.le h m ∧ J.o.le m (J.o.len xs) ∧ ∀ t : Tok, (h = m → t = .full) → K (.sl z (J.o.sub xs l h) t)
def slS (b : ByteArray) (lo hi mx : Option Int) (K : AV → Prop) : Prop :=
  match mx with
  | some _ => False
  | none => match hi with
    | none => match lo with
      | none => K (.str b)
      | some l => J.o.le 0 l ∧ J.o.le l (J.o.slen b) ∧ K (.str (J.o.ssub b l (J.o.slen b)))
    | some h => match lo with
      | none => J.o.le 0 h ∧ J.o.le h (J.o.slen b) ∧ K (.str (J.o.ssub b 0 h))
      | some l => J.o.le 0 l ∧ J.o.le l h ∧ J.o.le h (J.o.slen b) ∧ K (.str (J.o.ssub b l h))
def slV (id z : Nat) (o n N : Int) (lo hi mx : Option Int) (K : AV → Prop) : Prop :=
  match mx with
  | none => match hi with
    | none => match lo with
      | none => K (.vs id z o n N)
      | some l => J.o.le 0 l ∧ J.o.le l n ∧ K (.vs id z (J.o.sum o l) (J.o.dif n l) N)
    | some h => match lo with
      | none => J.o.le 0 h ∧ J.o.le (J.o.sum o h) N ∧ K (.vs id z o h N)
      | some l => J.o.le 0 l ∧ J.o.le l h ∧ J.o.le (J.o.sum o h) N ∧ K (.vs id z (J.o.sum o l) (J.o.dif h l) N)
  | some m => match hi with
    | none => False
    | some h => match lo with
      | none => J.o.le 0 h ∧ J.o.le h m ∧ J.o.le (J.o.sum o m) N ∧ K (.vs id z o h (J.o.sum o m))
      | some l => J.o.le 0 l ∧ J.o.le l h ∧ J.o.le h m ∧ J.o.le (J.o.sum o m) N ∧ K (.vs id z (J.o.sum o l) (J.o.dif h l) (J.o.sum o m))
def slA (T : Ty) (x : AV) (lo hi mx : Option Int) (K : AV → Prop) : Prop :=
  match T.k with
  | .slice e => match (tab e).ok with
    | false => False
    | true => match x with
      | .sl z xs tk => match beN z (tab e).size with
        | true => slX J z xs tk lo hi mx K
        | false => False
      | .nils => match hi with
        | some h => match lo with
          | none => match mx with
            | none => J.o.le 0 h ∧ J.o.le h (J.o.len []) ∧ K .nils
            | some m => slX J (tab e).size [] .full none (some h) (some m) K
          | some l => slX J (tab e).size [] .full (some l) (some h) mx K
        | none => slX J (tab e).size [] .full lo none mx K
      | .vs id z o n N => match beN z (tab e).size with
        | true => slV J id z o n N lo hi mx K
        | false => False
      | _ => False
  | .str => match x with
    | .str b => slS J b lo hi mx K
    | _ => False
  | _ => False
def shape1 : TK → AV → Bool
  | .int k, .int k' _ => beN (kn k) (kn k')
  | .str, .str _ => true
  | .bool, .bool _ => true
  | .bool, .bl _ => true
  | _, _ => false
def shapes : List TK → List AV → Bool
  | [], [] => true
  | k :: ks, a :: l => match shape1 k a with
    | true => shapes ks l
    | false => false
  | _, _ => false
def keyOk (agg : Bool) (lv : List TK) (k : AV) : Bool :=
  match agg with
  | true => match k with
    | .agg cs => shapes lv cs
    | _ => false
  | false => shapes lv [k]
def TK.plain : TK → Bool
  | .int _ | .str | .bool => true
  | _ => false
def flds (n : Nat) : List (Nat × Nat) → Bool
  | [] => true
  | (t, off) :: r => match (tab t).k.plain with
    | true => match ltN off n with
      | true => flds n r
      | false => false
    | false => false
def keyTy (T : Ty) : Bool :=
  match T.lv with
  | [] => false
  | _ => match T.k with
    | .int _ | .str | .bool => true
    | .struct fs => flds tab (lenN T.lv) fs
    | _ => false
def lkV (cok : Bool) (v : AV) (b : Bool) : AV :=
  match cok with
  | true => .tup [v, .bl b]
  | false => v
def lkA (T : Ty) (x k : AV) (cok : Bool) (h : List Ent) (K : AV → Prop) : Prop :=
  match T.k with
  | .map kt et => match keyTy tab (tab kt) with
    | false => False
    | true => match keyOk (tab kt).agg (tab kt).lv k with
      | false => False
      | true => match (tab et).zeroV with
        | none => False
        | some z => match x with
          | .nilm => K (lkV cok z false)
          | .mp id => match nth h id with
            | some (.mp es) => J.o.mok (tab kt).agg (tab kt).lv es ∧ (∀ v, J.o.mfind es k = some v → K (lkV cok v true)) ∧ (J.o.mfind es k = none → K (lkV cok z false))
            | _ => False
          | _ => False
  | _ => False
def muA (T : Ty) (x k v : AV) (h : List Ent) (K : AV → List Ent → Prop) : Prop :=
  match T.k with
  | .map kt et => match keyTy tab (tab kt) with
    | false => False
    | true => match keyOk (tab kt).agg (tab kt).lv k with
      | false => False
      | true => match x with
        | .mp id => match nth h id with
          | some (.mp es) => match freeT (tab et).tm.cells v.cells with
            | some ys => J.o.mok (tab kt).agg (tab kt).lv es ∧ K .junk (setN h id (.mp (J.o.mput es k (unc v ys))))
            | none => False
          | _ => False
        | _ => False
  | _ => False
def dlA (T : Ty) (x k : AV) (h : List Ent) (K : AV → List Ent → Prop) : Prop :=
  match T.k with
  | .map kt _ => match keyTy tab (tab kt) with
    | false => False
    | true => match keyOk (tab kt).agg (tab kt).lv k with
      | false => False
      | true => match x with
        | .mp id => match nth h id with
          | some (.mp es) => J.o.mok (tab kt).agg (tab kt).lv es ∧ K .junk (setN h id (.mp (J.o.mdel es k)))
          | _ => False
        | _ => False
  | _ => False
def clA (T : Ty) (x : AV) (h : List Ent) (K : AV → List Ent → Prop) : Prop :=
  match T.k with
  | .map _ _ => match x with
    | .mp id => match nth h id with
      | some (.mp _) => K .junk (setN h id (.mp []))
      | _ => False
    | _ => False
  | .slice e => match (tab e).zeroV with
    | none => False
    | some zv => match ltN 0 (tab e).size with
      | true => match x with
        | .vs id z lo n _ => match beN z (tab e).size with
          | true => match nth h id with
            | some (.vec z' xs) => match beN z' (tab e).size with
              | true => J.o.le 0 lo ∧ J.o.le 0 n ∧ J.o.le (J.o.sum lo n) (J.o.len xs) ∧ K .junk (setN h id (.vec z (J.o.lay xs lo (J.o.rep n zv))))
              | false => False
            | _ => False
          | false => False
        | _ => False
      | false => False
  | _ => False
def lit1 : Operand → Bool
  | .const (.int _ n) => match n with
    | .ofNat m => beN m 1
    | _ => false
  | _ => false
def bitA (p : BinOp) (x y : AV) (K : AV → Prop) : Prop :=
  match x with
  | .int k a => match y with
    | .int k' b => match beN (kn k) (kn k') with
      | true => (J.o.is (J.o.ar p k a b) 0 ∨ J.o.is (J.o.ar p k a b) 1) ∧ (J.o.is (J.o.ar p k a b) 0 → K (.int k 0)) ∧ (J.o.is (J.o.ar p k a b) 1 → K (.int k 1))
      | false => False
    | _ => False
  | _ => False
def binB (T : Ty) (p : BinOp) (x y : AV) (one : Bool) (K : AV → Prop) : Prop :=
  match one with
  | true => match p with
    | .and => bitA J .and x y K
    | p => binA J T p x y K
  | false => binA J T p x y K
def aop (op : Op) (s : St) (K E : AV → List Ent → Prop) : Prop :=
  match op with
  | .move x | .assign x => K (s.ev x) s.hp
  | .pick c a b => match s.ev c with
    | .bl true => under true (s.ev a) fun v => K v s.hp
    | .bl false => under true (s.ev b) fun v => K v s.hp
    | .bool c => under c (s.ev a) fun a => under (J.o.bnot c) (s.ev b) fun b => match a.tell with
      | some a => match b.tell with
        | some b => K (.bool (J.o.pick c a b)) s.hp
        | none => False
      | none => False
    | _ => False
  | .alloc t => match (tab t).ok with
    | true => match famPl (tab t).md with
      | some p => match (tab t).zeroT with
        | some z => match famOf s.hp p with
          | some (i, os) => K (.fp p (J.o.len os) 0) (setN s.hp i (.fam p (J.o.apnd os [z])))
          | none => False
        | none => False
      | none => K (.ptr (lenN s.hp) 0) (snoc s.hp (.var (tab t).zero))
    | false => False
  | .box t x => match allOne (s.ev x).cells with
    | true => match famPl (tab t).md with
      | some p => match freeT (tab t).tm.cells (s.ev x).cells with
        | some ys => match famOf s.hp p with
          | some (i, os) => K (.fp p (J.o.len os) 0) (setN s.hp i (.fam p (J.o.apnd os [unc (s.ev x) ys])))
          | none => False
        | none => False
      | none => K (.ptr (lenN s.hp) 0) (snoc s.hp (.var (s.ev x).cells))
    | false => False
  | .build t ps => match (tab t).agg with
    | true => match fillA (places tab (tab t).k) (tab t).zero (parts s ps.toList) with
      | some cs => K (.agg cs) s.hp
      | none => False
    | false => False
  | .buildSlice t n ps => match (tab t).k with
    | .slice e => match (tab e).ok with
      | true => match ltN (n * (tab e).size) 16777216 with
        | true => match fillA (fun i => some (i * (tab e).size, (tab e).size)) (repl n (tab e).zero) (parts s ps.toList) with
          | some cs => match (freeT (repl n (tab e).tm.cells) cs).bind (chunks (tab e) n) with
            | some xs => K (.sl (tab e).size xs .full) s.hp
            | none => False
          | none => False
        | false => False
      | false => False
    | _ => False
  | .load t x => match s.ev x with
    | .ptr id off => match nth s.hp id with
      | some (.var cs) => match rd (tab t) cs off with
        | some v => K v s.hp
        | none => False
      | _ => False
    | .cptr cs off => match rd (tab t) cs off with
      | some v => K v s.hp
      | none => False
    | .vp id z i off => match nth s.hp id with
      | some (.vec z' xs) => match beN z z' with
        | true => atIx J xs i fun e => match rd (tab t) e.cells off with
          | some v => K v s.hp
          | none => False
        | false => False
      | _ => False
    | .fp f k off => match famOf s.hp f with
      | some (_, os) => atIx J os k fun e => match rd (tab t) e.cells off with
        | some v => K v s.hp
        | none => False
      | none => False
    | _ => False
  | .store t x v => match s.ev x with
    | .ptr id off => match nth s.hp id with
      | some (.var cs) => match ltN 0 (tab t).size with
        | true => match beN (lenN (s.ev v).cells) (tab t).size with
          | true => match allOne (s.ev v).cells with
            | true => match upon cs off (s.ev v).cells with
              | some cs' => K .junk (setN s.hp id (.var cs'))
              | none => False
            | false => False
          | false => False
        | false => False
      | _ => False
    | .vp id z i off => match nth s.hp id with
      | some (.vec z' xs) => match beN z z' with
        | true => match ltN 0 (tab t).size with
          | true => match beN (lenN (s.ev v).cells) (tab t).size with
            | true => match freeT (tab t).tm.cells (s.ev v).cells with
              | some ys => match beN z (tab t).size with
                | true => match off with
                  | 0 => J.o.inb i (J.o.len xs) ∧ K .junk (setN s.hp id (.vec z (J.o.upd xs i (unc (s.ev v) ys))))
                  | _ => False
                | false => atIx J xs i fun e => match e with
                  | .agg cs => match upon cs off ys with
                    | some cs' => K .junk (setN s.hp id (.vec z (J.o.upd xs i (.agg cs'))))
                    | none => False
                  | _ => False
              | none => False
            | false => False
          | false => False
        | false => False
      | _ => False
    | .fp f k off => match famOf s.hp f with
      | some (i, os) => match ltN 0 (tab t).size with
        | true => match beN (lenN (s.ev v).cells) (tab t).size with
          | true => match freeT (tab t).tm.cells (s.ev v).cells with
            | some ys => atIx J os k fun e => match upon e.cells off ys with
              | some cs' => K .junk (setN s.hp i (.fam f (J.o.upd os k (unc e cs'))))
              | none => False
            | none => False
          | false => False
        | false => False
      | none => False
    | _ => False
  | .nilCheck x => match s.ev x with
    | .ptr id off => K (.ptr id off) s.hp
    | .cptr cs off => K (.cptr cs off) s.hp
    | .vp id z i off => K (.vp id z i off) s.hp
    | .fp f k off => K (.fp f k off) s.hp
    | .func f cs => K (.func f cs) s.hp
    | _ => False
  | .binOp p t x y _ => binB J (tab t) p (s.ev x) (s.ev y) (lit1 y) fun v => K v s.hp
  | .unOp u _ x => match u with
    | .not => match s.ev x with
      | .bool b => K (.bool (J.o.bnot b)) s.hp
      | .bl b => K (.bl (!b)) s.hp
      | _ => False
    | .neg => match s.ev x with
      | .int k n => K (.int k (J.o.neg k n)) s.hp
      | _ => False
    | .xor => match s.ev x with
      | .int k n => K (.int k (J.o.com k n)) s.hp
      | _ => False
    | _ => False
  | .convert src dst x => match (tab src).ok with
    | true => match (tab dst).k with
      | .int k => match s.ev x with
        | .int _ n => K (.int k (J.o.wrap k n)) s.hp
        | _ => False
      | .str => match (tab src).k with
        | .slice e => match (tab e).k with
          | .int .u8 => match asSl 1 (s.ev x) with
            | some (xs, _) => J.o.isb xs ∧ K (.str (J.o.ofb xs)) s.hp
            | none => False
          | _ => False
        | _ => False
      | _ => False
    | false => False
  | .makeFunc fn first caps => match fn with
    | .func f => match first.toList with
      | [] => K (.func f (evs s caps.toList)) s.hp
      | _ => False
    | _ => False
  | .makeMap _ r => match r with
    | none => K (.mp (lenN s.hp)) (snoc s.hp (.mp []))
    | some _ => False
  | .makeSlice t l c => match (tab t).k with
    | .slice e => match ltN 0 (tab e).bytes with
      | true => match s.ev l with
        | .int _ n => match s.ev c with
          | .int _ m => match (tab t).md with
            | 0 => match (tab e).zeroT with
              | none => False
              | some zv => match ltN 0 (tab e).size with
                | true => J.o.mks n m (tab e).bytes ∧ K (.sl (tab e).size (J.o.rep n zv) .full) s.hp
                | false => False
            | 3 => J.o.mks n m (tab e).bytes ∧ K (.ms (lenN s.hp) 0 (tab e).size n.toNat) (snoc s.hp (.var (repl n.toNat (tab e).zero)))
            | _ => match (tab e).zeroT with
              | none => False
              | some zv => match ltN 0 (tab e).size with
                | true => J.o.mks n m (tab e).bytes ∧ K (.vs (lenN s.hp) (tab e).size 0 n n) (snoc s.hp (.vec (tab e).size (J.o.rep n zv)))
                | false => False
          | _ => False
        | _ => False
      | false => False
    | _ => False
  | .fieldAddr t x f => match (tab t).k.fld f with
    | some (ft, off) => match ltN 0 (tab ft).size with
      | true => match s.ev x with
        | .ptr id o => K (.ptr id (o + off)) s.hp
        | .cptr cs o => K (.cptr cs (o + off)) s.hp
        | .vp id z i o => K (.vp id z i (o + off)) s.hp
        | .fp f k o => K (.fp f k (o + off)) s.hp
        | _ => False
      | false => False
    | none => False
  | .field t x f => match (tab t).k.fld f with
    | some (ft, off) => match s.ev x with
      | .agg cs => match rd (tab ft) cs off with
        | some v => K v s.hp
        | none => False
      | _ => False
    | none => False
  | .indexAddr t x i => match s.ev i with
    | .int _ n => match (tab t).k with
      | .slice e => match (tab e).ok with
        | false => False
        | true => match s.ev x with
        | .sl z xs _ => match beN z (tab e).size with
          | true => atIx J xs n fun v => K (.cptr v.cells 0) s.hp
          | false => False
        | .ms id off z len => match beN z (tab e).size with
          | true => J.o.inb n (J.o.nat len) ∧ K (.ptr id (off + n.toNat * z)) s.hp
          | false => False
        | .vs id z lo len _ => match beN z (tab e).size with
          | true => J.o.inb n len ∧ K (.vp id z (J.o.sum lo n) 0) s.hp
          | false => False
        | _ => False
      | .arr len e => match (tab e).ok with
        | false => False
        | true => match s.ev x with
        | .ptr id off => J.o.inb n (J.o.nat len) ∧ K (.ptr id (off + n.toNat * (tab e).size)) s.hp
        | .cptr cs off => J.o.inb n (J.o.nat len) ∧ K (.cptr cs (off + n.toNat * (tab e).size)) s.hp
        | _ => False
      | _ => False
    | _ => False
  | .index t x i => match s.ev i with
    | .int _ n => match (tab t).k with
      | .str => match s.ev x with
        | .str b => J.o.inb n (J.o.slen b) ∧ ∀ c : UInt8, J.o.byte b n = some c → K (.int .u8 c.toNat) s.hp
        | _ => False
      | _ => False
    | _ => False
  | .extract x i => match s.ev x with
    | .tup vs => match nth vs i with
      | some v => K v s.hp
      | none => False
    | _ => False
  | .call ⟨.value f, args, _⟩ => match s.ev f with
    | .func f caps => J.call f (evs s args.toList ++ caps) s.hp K E
    | .yld i => J.yld i (evs s args.toList) s.hp K
    | _ => False
  | .call ⟨.builtin b, args, ts⟩ => match b with
    | .delete => match evs s args.toList with
      | [x, k] => match ts.toList with
        | t :: _ => dlA J tab (tab t) x k s.hp K
        | _ => False
      | _ => False
    | .clear => match evs s args.toList with
      | [x] => match ts.toList with
        | t :: _ => clA J tab (tab t) x s.hp K
        | _ => False
      | _ => False
    | b => bi J tab b ts.toList (evs s args.toList) s.hp K
  | .slice t x lo hi mx => match optI s lo with
    | some lo => match optI s hi with
      | some hi => match optI s mx with
        | some mx => slA J tab (tab t) (s.ev x) lo hi mx fun v => K v s.hp
        | none => False
      | none => False
    | none => False
  | .lookup t x k cok => lkA J tab (tab t) (s.ev x) (s.ev k) cok s.hp fun v => K v s.hp
  | .mapUpdate t m k v => muA J tab (tab t) (s.ev m) (s.ev k) (s.ev v) s.hp K
  | _ => False
def idx : List Nat → Nat → Option Nat
  | [], _ => none
  | x :: l, i => match beN x i with
    | true => some 0
    | false => match idx l i with
      | some j => some (j + 1)
      | none => none
def renT (g : Nat → Option Nat) : Tok → Tok
  | .no => .no
  | .full => .full
  | .tip i p => match g i with
    | some j => .tip j p
    | none => .no
def ren (g : Nat → Option Nat) : Nat → AV → AV
  | 0, _ => .junk
  | d + 1, a => match a with
    | .agg cs => .agg (cs.map (ren g d))
    | .tup cs => .tup (cs.map (ren g d))
    | .sl s xs t => .sl s xs (renT g t)
    | .ms i o s n => match g i with
      | some j => .ms j o s n
      | none => .junk
    | .vs i s lo n N => match g i with
      | some j => .vs j s lo n N
      | none => .junk
    | .vp i s k o => match g i with
      | some j => .vp j s k o
      | none => .junk
    | .ptr i o => match g i with
      | some j => .ptr j o
      | none => .junk
    | .mp i => match g i with
      | some j => .mp j
      | none => .junk
    | .func f cs => .func f (cs.map (ren g d))
    | .iface t x => .iface t (ren g d x)
    | .cond _ _ => .junk
    | .yld i => match g i with
      | some j => .yld j
      | none => .junk
    | .bl b => .bool b
    | a => a
def renE (g : Nat → Option Nat) : Ent → Ent
  | .var cs => .var (cs.map (ren g 6))
  | .tip p => .tip p
  | .vec s xs => .vec s xs
  | .fam t os => match g t with
    | some t' => match beN t' t with
      | true => .fam t os
      | false => .dead
    | none => .dead
  | .mp es => .mp es
  | .lp ps a b env n st pe => .lp ps a b (env.map fun x => (x.1, ren g 6 x.2)) n st pe
  | .dead => .dead
def entOr : Option Ent → Ent
  | some e => e
  | none => .dead
def pack (l : List Nat) (σ : List Ent) : List Ent := l.map fun i => renE (idx l) (entOr (nth σ i))
def up (l : List Nat) (n j : Nat) : Option Nat :=
  match nth l j with
  | some i => some i
  | none => some (n + (j - lenN l))
def quietOp : Op → Bool
  | .move _ | .assign _ | .unOp .. | .fieldAddr .. | .field .. | .load .. | .extract .. | .pick .. | .nilCheck _ => true
  | .binOp p .. => match p with | .quo | .rem | .shl | .shr => false | _ => true
  | .call ⟨.builtin b, _, _⟩ => match b with | .len => true | _ => false
  | _ => false
def dummyF (T : Ty) (f : Nat) : AV :=
  match T.k.fld f with
  | some (ft, _) => .cptr (tab ft).zero 0
  | none => .junk
def aopG (g : Bool) (op : Op) (s : St) (K E : AV → List Ent → Prop) : Prop :=
  match op with
  | .pick c a b => match s.ev c with
    | .bl true => under g (s.ev a) fun v => K v s.hp
    | .bl false => under g (s.ev b) fun v => K v s.hp
    | .bool c => under (J.o.band g c) (s.ev a) fun a => under (J.o.band g (J.o.bnot c)) (s.ev b) fun b => match a.tell with
      | some a => match b.tell with
        | some b => K (.bool (J.o.pick c a b)) s.hp
        | none => False
      | none => False
    | _ => False
  | .nilCheck x => match s.ev x with
    | .nilp => g = false ∧ K .nilp s.hp
    | _ => aop J tab (.nilCheck x) s K E
  | .fieldAddr t x f => match s.ev x with
    | .nilp => g = false ∧ K (dummyF tab (tab t) f) s.hp
    | _ => aop J tab (.fieldAddr t x f) s K E
  | op => aop J tab op s K E
def strip (g : Bool) : List Operand → St → (St → Prop) → Prop
  | [], s, K => K s
  | .tmp t :: r, s, K => match look s.env t with
    | .cond g' a => (g = true → g' = true) ∧ strip g r ⟨(t, a) :: s.env, s.hp, s.n⟩ K
    | _ => strip g r s K
  | _ :: r, s, K => strip g r s K
def reads : Op → List Operand
  | .pick c _ _ => [c]
  | op => op.operands.toList
def fits (d : Option Nat) (n : Nat) : Bool :=
  match d with
  | some t => ltN t n
  | none => true
def gd (t b : Bool) : Bool :=
  match b with
  | true => t
  | false => J.o.bnot t
def same2 : Bool → Bool → Bool
  | true, true => true
  | false, false => true
  | _, _ => false
def dumb (q : Oper) : AV :=
  match (tab q.type).zeroV with
  | some z => .cond false z
  | none => .junk
def aops (all : List Oper) : List Oper → St → (St → Prop) → (AV → List Ent → Prop) → Prop
  | [], s, K, _ => K s
  | q :: r, s, K, E => match fits q.dst s.n with
    | false => False
    | true => match q.guard with
      | none => strip true (reads q.op) s fun s' => aop J tab q.op s' (fun v h => aops all r (s.put q.dst v h) K E) E
      | some (j, b) => match (nth all j).bind (·.dst) with
        | none => False
        | some d => match look s.env d with
          | .bl t => match t, b with
            | true, true => strip true (reads q.op) s fun s' => aop J tab q.op s' (fun v h => aops all r (s.put q.dst v h) K E) E
            | false, false => strip true (reads q.op) s fun s' => aop J tab q.op s' (fun v h => aops all r (s.put q.dst v h) K E) E
            | _, _ => aops all r (s.put q.dst (dumb tab q) s.hp) K E
          | .bool t => match quietOp q.op with
            | true => strip (gd J t b) (reads q.op) s fun s' => aopG J tab (gd J t b) q.op s' (fun v h => aops all r (s.put q.dst (.cond (gd J t b) v) h) K E) E
            | false => (t = b → strip true (reads q.op) s fun s' => aop J tab q.op s' (fun v h => aops all r (St.put ⟨(d, .bl b) :: s.env, s.hp, s.n⟩ q.dst v h) K E) E)
                ∧ (t = !b → aops all r (St.put ⟨(d, .bl (!b)) :: s.env, s.hp, s.n⟩ q.dst .junk s.hp) K E)
          | .cond g (.bool t) => match quietOp q.op with
            | true => strip (J.o.band g (gd J t b)) (reads q.op) s fun s' => aopG J tab (J.o.band g (gd J t b)) q.op s' (fun v h => aops all r (s.put q.dst (.cond (J.o.band g (gd J t b)) v) h) K E) E
            | false => (g = true → t = b → strip true (reads q.op) s fun s' => aop J tab q.op s' (fun v h => aops all r (St.put ⟨(d, .bl b) :: s.env, s.hp, s.n⟩ q.dst v h) K E) E)
                ∧ ((g = true → t = !b) → aops all r (St.put ⟨(d, .cond g (.bl (!b))) :: s.env, s.hp, s.n⟩ q.dst .junk s.hp) K E)
          | .cond g (.bl t) => match same2 t b with
            | false => aops all r (s.put q.dst (dumb tab q) s.hp) K E
            | true => match quietOp q.op with
              | true => strip g (reads q.op) s fun s' => aopG J tab g q.op s' (fun v h => aops all r (s.put q.dst (.cond g v) h) K E) E
              | false => (g = true → strip true (reads q.op) s fun s' => aop J tab q.op s' (fun v h => aops all r (St.put ⟨(d, .bl b) :: s.env, s.hp, s.n⟩ q.dst v h) K E) E)
                  ∧ (g = false → aops all r (St.put ⟨(d, .cond false (.bl (!b))) :: s.env, s.hp, s.n⟩ q.dst .junk s.hp) K E)
          | _ => False
inductive Fp where
  | no
  | rd (id : Nat)
  | wr (id : Nat) (e : Ent)
  | new (id : Nat) (e : Ent)
  | mv (id k : Nat) (e : Ent) (r : Nat)
  | nrd (id : Nat) (e : Ent) (r : Nat)
def Fp.go : Fp → List Ent → List Ent
  | .wr id e, h => setN h id e
  | .new _ e, h => snoc h e
  | .mv i _ e _, h => snoc (setN h i .dead) e
  | .nrd _ e _, h => snoc h e
  | _, h => h
def clash : Fp → Fp → Bool
  | .rd i, .wr j _ => beN i j
  | .wr i _, .rd j => beN i j
  | .wr i _, .wr j _ => beN i j
  | .new _ _, .new _ _ => true
  | .new i _, .rd j => beN i j
  | .new i _, .wr j _ => beN i j
  | .rd i, .new j _ => beN i j
  | .wr i _, .new j _ => beN i j
  | .new .., .mv .. => true
  | .mv .., .new .. => true
  | .mv .., .mv .. => true
  | .mv i k _ _, .rd j => beN i j || beN k j
  | .mv i k _ r, .wr j _ => (beN i j || beN k j) || beN r j
  | .rd j, .mv i k _ _ => beN i j || beN k j
  | .wr j _, .mv i k _ r => (beN i j || beN k j) || beN r j
  | .nrd .., .new .. => true
  | .new .., .nrd .. => true
  | .nrd .., .nrd .. => true
  | .nrd .., .mv .. => true
  | .mv .., .nrd .. => true
  | .nrd i _ _, .rd j => beN i j
  | .rd i, .nrd j _ _ => beN i j
  | .nrd i _ r, .wr j _ => beN i j || beN r j
  | .wr j _, .nrd i _ r => beN i j || beN r j
  | _, _ => false
def whoW : List Oper → Nat → Nat → Option Nat
  | [], _, _ => none
  | q :: r, t, i => match q.dst with
    | some d => match beN d t with
      | true => some i
      | false => whoW r t (i + 1)
    | none => whoW r t (i + 1)
def bindAny (e : Edge) : Bool :=
  match e.ground with
  | .textOnly _ => false
  | .gcOnly _ => false
  | _ => true
def hasEdge : List Edge → Nat → Bool
  | [], _ => false
  | e :: r, j => match bindAny e with
    | true => match beN e.on j with
      | true => true
      | false => hasEdge r j
    | false => hasEdge r j
def edgesLt : List Edge → Nat → Bool
  | [], _ => true
  | e :: r, i => match bindAny e with
    | true => match ltN e.on i with
      | true => edgesLt r i
      | false => false
    | false => edgesLt r i
def aft (all : List Oper) (j : Nat) : List Edge :=
  match nth all j with
  | some q => q.after.toList
  | none => []
def waits (all : List Oper) (i : Nat) (es : List Edge) : List Operand → Bool
  | [] => true
  | .tmp t :: r => match whoW all t 0 with
    | none => waits all i es r
    | some j => match hasEdge es j with
      | true => waits all i es r
      | false => match hasEdge (aft all j) i with
        | true => waits all i es r
        | false => false
  | _ :: r => waits all i es r
def sole (all : List Oper) (d : Option Nat) (i : Nat) : Bool :=
  match d with
  | none => true
  | some t => match whoW all t 0 with
    | some j => beN j i
    | none => false
def okAcc : List (Nat × Fp) → List Edge → Fp → Bool
  | [], _, _ => true
  | (j, g) :: r, es, f => match clash g f with
    | true => match hasEdge es j with
      | true => okAcc r es f
      | false => false
    | false => okAcc r es f
def quietAcc : List (Nat × Fp) → List Edge → Bool
  | [], _ => true
  | (j, g) :: r, es => match hasEdge es j with
    | true => quietAcc r es
    | false => match g with
      | .no => quietAcc r es
      | .rd _ => quietAcc r es
      | _ => false
def framesP : List (Nat × Fp) → List Edge → List Ent → List Ent → Prop
  | [], _, _, _ => True
  | (j, g) :: r, es, h, h' => match hasEdge es j with
    | true => framesP r es h h'
    | false => match g with
      | .no => framesP r es h h'
      | .rd id => nth h' id = nth h id ∧ framesP r es h h'
      | _ => False
def sureOp (op : Op) : Bool :=
  match op with
  | .move _ | .assign _ | .unOp .. | .fieldAddr .. | .field .. | .indexAddr .. | .index .. | .extract .. | .convert .. | .pick .. | .nilCheck .. | .build .. | .buildSlice .. | .makeFunc .. => true
  | .slice _ _ _ _ m => match m with
    | none => true
    | some _ => false
  | .binOp p t _ _ _ => match p with
    | .eql => match (tab t).k with
      | .slice _ => false
      | _ => true
    | .neq => match (tab t).k with
      | .slice _ => false
      | _ => true
    | _ => true
  | .call ⟨.builtin b, _, ts⟩ => match b with
    | .len => match ts.toList with
      | t :: _ => match (tab t).k with
        | .map _ _ => false
        | _ => true
      | _ => false
    | .min => true
    | .max => true
    | _ => false
  | _ => false
def readOp : Op → Bool
  | .load .. | .lookup .. => true
  | _ => false
def fpR (op : Op) (s : St) : Fp :=
  match op with
  | .load _ x => match s.ev x with
    | .ptr id _ => .rd id
    | .vp id _ _ _ => .rd id
    | .fp f _ _ => match famOf s.hp f with
      | some (i, _) => .rd i
      | none => .no
    | _ => .no
  | .lookup _ x _ _ => match s.ev x with
    | .mp id => .rd id
    | _ => .no
  | _ => .no
def isCall : Op → Bool
  | .call ⟨.value _, _, _⟩ => true
  | _ => false
def appW (s : Nat) (xs ys : List AV) (t : Tok) (h : List Ent) (F : Prop) (k : AV → Fp → Prop) : Prop :=
  match t with
  | .no => F
  | .full => k (.sl s (J.o.apnd xs ys) (.tip (lenN h) (J.o.pos xs ys))) (.new (lenN h) (.tip (J.o.pos xs ys)))
  | .tip id pos => match nth h id with
    | some (.tip p) => p = pos ∧ k (.sl s (J.o.apnd xs ys) (.tip id (J.o.padd pos ys))) (.wr id (.tip (J.o.padd pos ys)))
    | _ => F
def apW (md : Nat) (u e : Ty) (x y : AV) (h : List Ent) (F : Prop) (k : AV → Fp → Prop) : Prop :=
  match ltN 0 e.bytes with
  | true => match ltN 0 e.size with
    | true => match u.k with
      | .slice _ => match asSl e.size y with
        | some (ys, _) => match x with
          | .vs id z lo n _ => match beN z e.size with
            | true => match nth h id with
              | some (.vec z' xs) => match beN z' e.size with
                | true => match md with
                  | 1 => J.o.is lo 0 ∧ J.o.le 0 n ∧ J.o.le n (J.o.len xs) ∧ J.o.room (J.o.sub xs 0 n) ys e.bytes ∧
                      k (.vs (lenN h) e.size 0 (J.o.len (J.o.apnd (J.o.sub xs 0 n) ys)) (J.o.len (J.o.apnd (J.o.sub xs 0 n) ys))) (.mv id (lenN h) (.vec e.size (J.o.apnd (J.o.sub xs 0 n) ys)) id)
                  | _ => F
                | false => F
              | _ => F
            | false => F
          | x => match asSl e.size x with
            | some (xs, .full) => J.o.emp xs ∧ J.o.room [] ys e.bytes ∧ k (.vs (lenN h) e.size 0 (J.o.len ys) (J.o.len ys)) (.new (lenN h) (.vec e.size ys))
            | _ => F
        | none => match y with
          | .vs iy zy ly ny _ => match beN zy e.size with
            | true => match nth h iy with
              | some (.vec zy' xy) => match beN zy' e.size with
                | true => J.o.le 0 ly ∧ J.o.le 0 ny ∧ J.o.le (J.o.sum ly ny) (J.o.len xy) ∧ match x with
                  | .vs id z lo n N => match beN id iy with
                    | true => match beN z e.size with
                      | true => match md with
                        | 1 => F
                        | _ => J.o.le 0 lo ∧ J.o.le 0 n ∧ J.o.le (J.o.sum (J.o.sum lo n) (J.o.len (J.o.sub xy ly (J.o.sum ly ny)))) N ∧ J.o.le (J.o.sum (J.o.sum lo n) (J.o.len (J.o.sub xy ly (J.o.sum ly ny)))) (J.o.len xy) ∧ J.o.room xy (J.o.sub xy ly (J.o.sum ly ny)) e.bytes ∧
                            k (.vs id e.size lo (J.o.sum n (J.o.len (J.o.sub xy ly (J.o.sum ly ny)))) N) (.wr id (.vec e.size (J.o.lay xy (J.o.sum lo n) (J.o.sub xy ly (J.o.sum ly ny)))))
                      | false => F
                    | false => match beN z e.size with
                      | true => match nth h id with
                        | some (.vec z' xs) => match beN z' e.size with
                          | true => match md with
                            | 1 => J.o.is lo 0 ∧ J.o.le 0 n ∧ J.o.le n (J.o.len xs) ∧ J.o.room (J.o.sub xs 0 n) (J.o.sub xy ly (J.o.sum ly ny)) e.bytes ∧
                                k (.vs (lenN h) e.size 0 (J.o.len (J.o.apnd (J.o.sub xs 0 n) (J.o.sub xy ly (J.o.sum ly ny)))) (J.o.len (J.o.apnd (J.o.sub xs 0 n) (J.o.sub xy ly (J.o.sum ly ny))))) (.mv id (lenN h) (.vec e.size (J.o.apnd (J.o.sub xs 0 n) (J.o.sub xy ly (J.o.sum ly ny)))) iy)
                            | _ => F
                          | false => F
                        | _ => F
                      | false => F
                  | x => match asSl e.size x with
                    | some (xs, .full) => J.o.emp xs ∧ J.o.room [] (J.o.sub xy ly (J.o.sum ly ny)) e.bytes ∧ k (.vs (lenN h) e.size 0 (J.o.len (J.o.sub xy ly (J.o.sum ly ny))) (J.o.len (J.o.sub xy ly (J.o.sum ly ny)))) (.nrd (lenN h) (.vec e.size (J.o.sub xy ly (J.o.sum ly ny))) iy)
                    | _ => F
                | false => F
              | _ => F
            | false => F
          | _ => F
      | _ => F
    | false => F
  | false => F
def dopW (op : Op) (s : St) (F : Prop) (k : AV → Fp → Prop) : Prop :=
  match op with
  | .store t x v => match s.ev x with
    | .ptr id off => match nth s.hp id with
      | some (.var cs) => match ltN 0 (tab t).size with
        | true => match beN (lenN (s.ev v).cells) (tab t).size with
          | true => match allOne (s.ev v).cells with
            | true => match upon cs off (s.ev v).cells with
              | some cs' => k .junk (.wr id (.var cs'))
              | none => F
            | false => F
          | false => F
        | false => F
      | _ => F
    | .vp id z i off => match nth s.hp id with
      | some (.vec z' xs) => match beN z z' with
        | true => match ltN 0 (tab t).size with
          | true => match beN (lenN (s.ev v).cells) (tab t).size with
            | true => match freeT (tab t).tm.cells (s.ev v).cells with
              | some ys => match beN z (tab t).size with
                | true => match off with
                  | 0 => J.o.inb i (J.o.len xs) ∧ k .junk (.wr id (.vec z (J.o.upd xs i (unc (s.ev v) ys))))
                  | _ => F
                | false => atIx J xs i fun e => match e with
                  | .agg cs => match upon cs off ys with
                    | some cs' => k .junk (.wr id (.vec z (J.o.upd xs i (.agg cs'))))
                    | none => F
                  | _ => F
              | none => F
            | false => F
          | false => F
        | false => F
      | _ => F
    | .fp f i off => match famOf s.hp f with
      | some (id, os) => match ltN 0 (tab t).size with
        | true => match beN (lenN (s.ev v).cells) (tab t).size with
          | true => match freeT (tab t).tm.cells (s.ev v).cells with
            | some ys => atIx J os i fun e => match upon e.cells off ys with
              | some cs' => k .junk (.wr id (.fam f (J.o.upd os i (unc e cs'))))
              | none => F
            | none => F
          | false => F
        | false => F
      | none => F
    | _ => F
  | .alloc t => match (tab t).ok with
    | true => match famPl (tab t).md with
      | some p => match (tab t).zeroT with
        | some z => match famOf s.hp p with
          | some (i, os) => k (.fp p (J.o.len os) 0) (.wr i (.fam p (J.o.apnd os [z])))
          | none => F
        | none => F
      | none => k (.ptr (lenN s.hp) 0) (.new (lenN s.hp) (.var (tab t).zero))
    | false => F
  | .box t x => match allOne (s.ev x).cells with
    | true => match famPl (tab t).md with
      | some p => match freeT (tab t).tm.cells (s.ev x).cells with
        | some ys => match famOf s.hp p with
          | some (i, os) => k (.fp p (J.o.len os) 0) (.wr i (.fam p (J.o.apnd os [unc (s.ev x) ys])))
          | none => F
        | none => F
      | none => k (.ptr (lenN s.hp) 0) (.new (lenN s.hp) (.var (s.ev x).cells))
    | false => F
  | .makeMap _ r => match r with
    | none => k (.mp (lenN s.hp)) (.new (lenN s.hp) (.mp []))
    | some _ => F
  | .mapUpdate t m kk v => match (tab t).k with
    | .map kt et => match keyTy tab (tab kt) with
      | false => F
      | true => match keyOk (tab kt).agg (tab kt).lv (s.ev kk) with
        | false => F
        | true => match s.ev m with
          | .mp id => match nth s.hp id with
            | some (.mp es) => match freeT (tab et).tm.cells (s.ev v).cells with
              | some ys => J.o.mok (tab kt).agg (tab kt).lv es ∧ k .junk (.wr id (.mp (J.o.mput es (s.ev kk) (unc (s.ev v) ys))))
              | none => F
            | _ => F
          | _ => F
    | _ => F
  | .slice t x lo hi mx => match mx with
    | none => F
    | some m => match hi with
      | none => F
      | some hi => match (tab t).k with
        | .slice e => match (tab e).ok with
          | false => F
          | true => match s.ev x with
            | .sl z xs _ => match beN z (tab e).size with
              | false => F
              | true => match s.ev hi with
                | .int _ h => match s.ev m with
                  | .int _ m => match lo with
                    | none => J.o.le 0 h ∧ J.o.le h m ∧ J.o.le m (J.o.len xs) ∧ J.o.is h m ∧ k (.sl z (J.o.sub xs 0 h) .full) .no
                    | some lo => match s.ev lo with
                      | .int _ l => J.o.le 0 l ∧ J.o.le l h ∧ J.o.le h m ∧ J.o.le m (J.o.len xs) ∧ J.o.is h m ∧ k (.sl z (J.o.sub xs l h) .full) .no
                      | _ => F
                  | _ => F
                | _ => F
            | _ => F
        | _ => F
  | .call ⟨.builtin .append, args, ts⟩ => match evs s args.toList with
    | [x, y] => match ts.toList with
      | t :: u :: _ => match (tab t).k with
        | .slice e => match (tab t).md with
          | 0 => match ltN 0 (tab e).bytes with
            | true => match asSl (tab e).size x with
              | none => F
              | some (xs, tok) => match (tab u).k with
                | .slice _ => match asSl (tab e).size y with
                  | none => F
                  | some (ys, _) => J.o.room xs ys (tab e).bytes ∧ appW J (tab e).size xs ys tok s.hp F k
                | _ => F
            | false => F
          | md => apW J md (tab u) (tab e) x y s.hp F k
        | _ => F
      | _ => F
    | _ => F
  | .call ⟨.builtin .delete, args, ts⟩ => match evs s args.toList with
    | [m, kk] => match ts.toList with
      | t :: _ => match (tab t).k with
        | .map kt _ => match keyTy tab (tab kt) with
          | false => F
          | true => match keyOk (tab kt).agg (tab kt).lv kk with
            | false => F
            | true => match m with
              | .mp id => match nth s.hp id with
                | some (.mp es) => J.o.mok (tab kt).agg (tab kt).lv es ∧ k .junk (.wr id (.mp (J.o.mdel es kk)))
                | _ => F
              | _ => F
        | _ => F
      | _ => F
    | _ => F
  | .call ⟨.builtin .clear, args, ts⟩ => match evs s args.toList with
    | [m] => match ts.toList with
      | t :: _ => match (tab t).k with
        | .map _ _ => match m with
          | .mp id => match nth s.hp id with
            | some (.mp _) => k .junk (.wr id (.mp []))
            | _ => F
          | _ => F
        | _ => F
      | _ => F
    | _ => F
  | _ => F
def makesA (op : Op) : Bool :=
  match op with
  | .alloc _ => true
  | .box _ _ => true
  | .makeMap _ _ => true
  | .call ⟨c, _, _⟩ => match c with
    | .builtin b => match b with
      | .append => true
      | _ => false
    | _ => false
  | _ => false
def besideL (all : List Oper) (i : Nat) : Nat → List Oper → Bool
  | _, [] => false
  | j, q :: r => match makesA q.op with
    | false => besideL all i (j + 1) r
    | true => match beN i j with
      | true => besideL all i (j + 1) r
      | false => match hasEdge (aft all i) j with
        | true => besideL all i (j + 1) r
        | false => match hasEdge (aft all j) i with
          | true => besideL all i (j + 1) r
          | false => true
def beside (all : List Oper) (i : Nat) (q : Oper) : Bool :=
  match q.op with
  | .call ⟨c, _, _⟩ => match c with
    | .builtin b => match b with
      | .append => besideL all i 0 all
      | _ => false
    | _ => false
  | _ => false
def dopX (b : Bool) (op : Op) (s : St) (F : Prop) (k : AV → Fp → Prop) : Prop :=
  match b with
  | false => dopW J tab op s F k
  | true => match op with
    | .call ⟨.builtin .append, args, ts⟩ => match evs s args.toList with
      | [x, y] => match ts.toList with
        | t :: u :: _ => match (tab t).k with
          | .slice e => match (tab t).md with
            | 0 => match ltN 0 (tab e).bytes with
              | true => match asSl (tab e).size x with
                | some (xs, .full) => match (tab u).k with
                  | .slice _ => match asSl (tab e).size y with
                    | none => F
                    | some (ys, _) => J.o.room xs ys (tab e).bytes ∧ k (.sl (tab e).size (J.o.apnd xs ys) .no) .no
                  | _ => F
                | _ => dopW J tab (.call ⟨.builtin .append, args, ts⟩) s F k
              | false => F
            | _ => dopW J tab (.call ⟨.builtin .append, args, ts⟩) s F k
          | _ => F
        | _ => F
      | _ => F
    | op => dopW J tab op s F k
def gOf (b : Bool) (x : AV) : Option (Option Bool) :=
  match x with
  | .bool t => some (some (gd J t b))
  | .bl t => match same2 t b with
    | true => some (some true)
    | false => some none
  | .cond g (.bool t) => some (some (J.o.band g (gd J t b)))
  | .cond g (.bl t) => match same2 t b with
    | true => some (some g)
    | false => some none
  | _ => none
def waitsAny : List Edge → List Nat → Bool
  | _, [] => false
  | es, j :: l => match hasEdge es j with
    | true => true
    | false => waitsAny es l
def alone : List (Nat × Oper) → List Nat → Bool
  | [], _ => true
  | (i, q) :: r, l => match waitsAny q.after.toList l with
    | true => alone r (i :: l)
    | false => false
def noneIn : List Edge → List (Nat × Oper) → Bool
  | _, [] => true
  | es, (j, _) :: r => match hasEdge es j with
    | true => false
    | false => noneIn es r
def clsOf (op : Op) : Nat :=
  match sureOp tab op with
  | true => 0
  | false => match readOp op with
    | true => 1
    | false => match isCall op with
      | true => 2
      | false => 3
def pickOf (c : Nat) (all : List (Nat × Oper)) : List (Nat × Oper) → Option ((Nat × Oper) × List (Nat × Oper))
  | [] => none
  | x :: r => match beN (clsOf tab x.2.op) c with
    | true => match noneIn x.2.after.toList all with
      | true => some (x, r)
      | false => match pickOf c all r with
        | some (y, l) => some (y, x :: l)
        | none => none
    | false => match pickOf c all r with
      | some (y, l) => some (y, x :: l)
      | none => none
def pick4 (all : List (Nat × Oper)) : Option ((Nat × Oper) × List (Nat × Oper)) :=
  match pickOf tab 0 all all with
  | some x => some x
  | none => match pickOf tab 1 all all with
    | some x => some x
    | none => match pickOf tab 2 all all with
      | some x => some x
      | none => pickOf tab 3 all all
def orderOf : Nat → List (Nat × Oper) → Option (List (Nat × Oper))
  | _, [] => some []
  | 0, _ :: _ => none
  | n + 1, l => match pick4 tab l with
    | none => none
    | some (x, r) => match orderOf n r with
      | none => none
      | some m => some (x :: m)
def numbered : Nat → List Oper → List (Nat × Oper)
  | _, [] => []
  | i, q :: r => (i, q) :: numbered (i + 1) r
def dummyZ (o : Option AV) (cok : Bool) : AV :=
  match o with
  | some z => match cok with
    | true => .cond false (.tup [z, .bl false])
    | false => .cond false z
  | none => .junk
def dummy (op : Op) : AV :=
  match op with
  | .indexAddr t _ _ => match (tab t).k with
    | .slice e => .cond false (.cptr (tab e).zero 0)
    | _ => .junk
  | .lookup t _ _ cok => match (tab t).k with
    | .map _ e => dummyZ (tab e).zeroV cok
    | _ => .junk
  | .index t _ _ => match (tab t).k with
    | .str => .cond false (.int .u8 0)
    | _ => .junk
  | .slice t _ _ _ _ => dummyZ (tab t).zeroV false
  | .convert _ t _ => dummyZ (tab t).zeroV false
  | _ => .junk
def drawK (all : List Oper) (n : Nat) (F : Prop) : List (Nat × Oper) → List (Nat × Fp) → St → (St → Prop) → Prop
  | [], _, s, K => K s
  | (i, q) :: r, acc, s, K => match fits q.dst s.n with
    | false => F
    | true => match edgesLt q.after.toList n with
      | false => F
      | true => match waits all i q.after.toList q.op.operands.toList with
        | false => F
        | true => match sole all q.dst i with
          | false => F
          | true => match q.guard with
            | none => match clsOf tab q.op with
              | 0 => strip true (reads q.op) s fun s' => aop J tab q.op s' (fun v _ => drawK all n F r ((i, .no) :: acc) (s.put q.dst v s.hp) K) (fun _ _ => False)
              | 1 => strip true (reads q.op) s fun s' => match okAcc acc q.after.toList (fpR q.op s') with
                | false => F
                | true => aop J tab q.op s' (fun v _ => drawK all n F r ((i, fpR q.op s') :: acc) (s.put q.dst v s.hp) K) (fun _ _ => False)
              | 2 => strip true (reads q.op) s fun s' => match alone r [i] with
                | true => match quietAcc acc q.after.toList with
                  | false => F
                  | true => aop J tab q.op s' (fun v h => framesP acc q.after.toList s.hp h ∧ drawK all n F r acc (s.put q.dst v h) K) (fun _ _ => False)
                | false => match q.op with
                  | .call ⟨.value f, args, _⟩ => match s'.ev f with
                    | .func f caps => J.pure f (evs s' args.toList ++ caps) (fun v => drawK all n F r ((i, .no) :: acc) (s.put q.dst v s.hp) K) ∨
                        J.mkT f (evs s' args.toList ++ caps) (fun v pos => match okAcc acc q.after.toList (.new (lenN s.hp) (.tip pos)) with
                          | false => F
                          | true => drawK all n F r ((i, .new (lenN s.hp) (.tip pos)) :: acc) (s.put q.dst (ren (up [] (lenN s.hp)) 9 v) (snoc s.hp (.tip pos))) K)
                    | _ => F
                  | _ => F
              | _ => strip true (reads q.op) s fun s' => dopX J tab (beside all i q) q.op s' F fun v fp => match okAcc acc q.after.toList fp with
                | false => F
                | true => drawK all n F r ((i, fp) :: acc) (s.put q.dst v (fp.go s.hp)) K
            | some (j, b) => match (nth all j).bind (·.dst) with
              | none => F
              | some d => match waits all i q.after.toList [.tmp d] with
                | false => F
                | true => match gOf J b (look s.env d) with
                  | none => F
                  | some none => match clsOf tab q.op with
                    | 2 => match alone r [i] with
                      | true => match quietAcc acc q.after.toList with
                        | false => F
                        | true => (J.hold fun _ => drawK all n F r acc (s.put q.dst (dumb tab q) s.hp) K)
                      | false => (J.hold fun _ => drawK all n F r ((i, .no) :: acc) (s.put q.dst (dumb tab q) s.hp) K)
                    | _ => (J.hold fun _ => drawK all n F r ((i, .no) :: acc) (s.put q.dst (dumb tab q) s.hp) K)
                  | some (some g) => match clsOf tab q.op with
                    | 0 => match quietOp q.op with
                      | true => strip g (reads q.op) s fun s' => aopG J tab g q.op s' (fun v _ => (J.hold fun _ => drawK all n F r ((i, .no) :: acc) (s.put q.dst (.cond g v) s.hp) K)) (fun _ _ => False)
                      | false => (g = true → strip true (reads q.op) s fun s' => aop J tab q.op s' (fun v _ => (J.hold fun _ => drawK all n F r ((i, .no) :: acc) (s.put q.dst v s.hp) K)) (fun _ _ => False)) ∧
                          (g = false → (J.hold fun _ => drawK all n F r ((i, .no) :: acc) (s.put q.dst (dummy tab q.op) s.hp) K))
                    | 1 => match quietOp q.op with
                      | true => strip g (reads q.op) s fun s' => match okAcc acc q.after.toList (fpR q.op s') with
                        | false => F
                        | true => aopG J tab g q.op s' (fun v _ => (J.hold fun _ => drawK all n F r ((i, fpR q.op s') :: acc) (s.put q.dst (.cond g v) s.hp) K)) (fun _ _ => False)
                      | false => (g = true → strip true (reads q.op) s fun s' => match okAcc acc q.after.toList (fpR q.op s') with
                          | false => F
                          | true => aop J tab q.op s' (fun v _ => (J.hold fun _ => drawK all n F r ((i, fpR q.op s') :: acc) (s.put q.dst v s.hp) K)) (fun _ _ => False)) ∧
                          (g = false → (J.hold fun _ => drawK all n F r ((i, .no) :: acc) (s.put q.dst (dummy tab q.op) s.hp) K))
                    | 2 => match alone r [i] with
                      | true => match quietAcc acc q.after.toList with
                        | false => F
                        | true => (g = true → strip true (reads q.op) s fun s' => aop J tab q.op s' (fun v h => framesP acc q.after.toList s.hp h ∧ (J.hold fun _ => drawK all n F r acc (s.put q.dst v h) K)) (fun _ _ => False)) ∧
                          (g = false → (J.hold fun _ => drawK all n F r acc (s.put q.dst (dumb tab q) s.hp) K))
                      | false => strip g (reads q.op) s fun s' => match q.op with
                        | .call ⟨.value f, args, _⟩ => match s'.ev f with
                          | .func f caps => J.pure f (evs s' args.toList ++ caps) fun v => (J.hold fun _ => drawK all n F r ((i, .no) :: acc) (s.put q.dst (.cond g v) s.hp) K)
                          | _ => F
                        | _ => F
                    | _ => (g = true → strip true (reads q.op) s fun s' => dopX J tab (beside all i q) q.op s' F fun v fp => match okAcc acc q.after.toList fp with
                        | false => F
                        | true => (J.hold fun _ => drawK all n F r ((i, fp) :: acc) (s.put q.dst v (fp.go s.hp)) K)) ∧
                        (g = false → (J.hold fun _ => drawK all n F r ((i, .no) :: acc) (s.put q.dst .junk s.hp) K))
def makes : Op → Bool
  | .alloc _ | .box .. | .makeMap .. => true
  | _ => false
def madeBeside (i : Nat) (es : List Edge) : List (Nat × Oper) → Bool
  | [] => false
  | (j, q) :: r => match makes q.op with
    | false => madeBeside i es r
    | true => match hasEdge es j with
      | true => madeBeside i es r
      | false => match hasEdge q.after.toList i with
        | true => madeBeside i es r
        | false => true
def twoNew : List (Nat × Oper) → Bool
  | [] => false
  | (i, q) :: r => match makes q.op with
    | false => twoNew r
    | true => match madeBeside i q.after.toList r with
      | true => true
      | false => twoNew r
def drawR (all : List Oper) (F : Prop) (s : St) (K : St → Prop) : Prop :=
  match twoNew (numbered 0 all) with
  | true => F
  | false => match orderOf tab (lenN all) (numbered 0 all) with
    | none => F
    | some r => drawK J tab all (lenN all) F r [] s K
def thenQ (k : St → Prop) (Q : Ex → St → Prop) : Ex → St → Prop
  | .normal, s => k s
  | .exit i, s => Q (.exit i) s
  | .ret, s => Q .ret s
  | .pan v, s => Q (.pan v) s
def blockQ (id : Nat) (Q : Ex → St → Prop) : Ex → St → Prop
  | .normal, s => Q .normal s
  | .exit i, s => match beN i id with | true => Q .normal s | false => Q (.exit i) s
  | .ret, s => Q .ret s
  | .pan v, s => Q (.pan v) s
def awp : Code → (Ex → St → Prop) → St → Prop
  | .skip, Q, s => Q .normal s
  | .label _, Q, s => Q .normal s
  | .region _ ops false, Q, s => aops J tab ops.toList ops.toList s (fun s' => Q .normal s') (fun v h => Q (.pan v) ⟨[], h, s.n⟩)
  | .region i ops true, Q, s => drawR J tab ops.toList (J.code (.region i ops true) Q s) s fun s' => Q .normal s'
  | .seq a b, Q, s => awp a (thenQ (fun s' => awp b Q s') Q) s
  | .cond c a b, Q, s => match s.ev c with
    | .bl true => awp a Q s
    | .bl false => awp b Q s
    | .bool t => (t = true → awp a Q s) ∧ (t = false → awp b Q s)
    | _ => False
  | .block id c, Q, s => awp c (blockQ id Q) s
  | .scope c, Q, s => awp c Q s
  | .exit id, Q, s => Q (.exit id) s
  | .ret, Q, s => Q .ret s
  | .loop c, Q, s => J.code (.loop c) Q s
  | .rangeFunc f ps a c, Q, s => J.code (.rangeFunc f ps a c) Q s
  | .goto _, _, _ => False
  | .refuse _, _, _ => False
end
def updFrom (l : List Nat) (n : Nat) (τ : List Ent) : Nat → List Ent → List Ent
  | _, [] => []
  | i, e :: r => (match idx l i with
    | some j => renE (up l n) (entOr (nth τ j))
    | none => e) :: updFrom l n τ (i + 1) r
def dropN {α : Type} : Nat → List α → List α
  | 0, l => l
  | _ + 1, [] => []
  | n + 1, _ :: r => dropN n r
def back (l : List Nat) (σ τ : List Ent) : List Ent := updFrom l (lenN σ) τ 0 σ ++ (dropN (lenN l) τ).map (renE (up l (lenN σ)))
def rangeN : Nat → List Nat
  | 0 => []
  | n + 1 => snoc (rangeN n) n
def argEnv : Nat → List AV → List (Nat × AV)
  | _, [] => []
  | i, a :: r => (i, a) :: argEnv (i + 1) r
def resOne (tab : Nat → Ty) (s : St) : ResultVar → Option AV
  | .tmp t => some (look s.env t)
  | .cell a t => match look s.env a with
    | .ptr id off => match nth s.hp id with
      | some (.var cs) => rd (tab t) cs off
      | _ => none
    | _ => none
def resAll (tab : Nat → Ty) (s : St) : List ResultVar → Option (List AV)
  | [] => some []
  | r :: l => match resOne tab s r with
    | none => none
    | some v => match resAll tab s l with
      | none => none
      | some vs => some (v :: vs)
def resOf (tab : Nat → Ty) (s : St) (l : List ResultVar) : Option AV :=
  match resAll tab s l with
  | none => none
  | some [v] => some v
  | some vs => some (.tup vs)
def via (v : AV) (K : AV → Prop) : Prop :=
  match v with
  | .int k n => K (.int k n)
  | .bool b => K (.bool b)
  | .bl b => K (.bl b)
  | .str s => K (.str s)
  | .agg cs => K (.agg cs)
  | .tup vs => K (.tup vs)
  | .sl s xs t => K (.sl s xs t)
  | .nils => K .nils
  | .ms i o s n => K (.ms i o s n)
  | .vs i s lo n N => K (.vs i s lo n N)
  | .vp i s k o => K (.vp i s k o)
  | .fp t k o => K (.fp t k o)
  | .ptr i o => K (.ptr i o)
  | .cptr cs o => K (.cptr cs o)
  | .nilp => K .nilp
  | .mp i => K (.mp i)
  | .nilm => K .nilm
  | .func f cs => K (.func f cs)
  | .nilf => K .nilf
  | .iface t v => K (.iface t v)
  | .nili => K .nili
  | .cond g a => K (.cond g a)
  | .yld i => K (.yld i)
  | .junk => K .junk
def viaL {α : Type} (l : List α) (K : List α → Prop) : Prop :=
  match l with
  | [] => K []
  | e :: r => K (e :: r)
def retQ (tab : Nat → Ty) (rs : List ResultVar) (kl : List Nat) (K E : AV → List Ent → Prop) : Ex → St → Prop
  | .normal, s => match resOf tab s rs with
    | some r => via (ren (idx kl) 9 r) fun r => viaL (pack kl s.hp) fun h => K r h
    | none => False
  | .ret, s => match resOf tab s rs with
    | some r => via (ren (idx kl) 9 r) fun r => viaL (pack kl s.hp) fun h => K r h
    | none => False
  | .exit _, _ => False
  | .pan v, s => E (ren (idx kl) 9 v) (pack kl s.hp)
def wk (a b : AV) : Prop :=
  match b with
  | .junk => True
  | .sl s xs .no => match a with
    | .sl s' xs' _ => s' = s ∧ xs' = xs
    | .nils => xs = []
    | _ => False
  | .sl s xs .full => match a with
    | .sl s' xs' .full => s' = s ∧ xs' = xs
    | .nils => xs = []
    | _ => False
  | .bool c => match a with
    | .bool d => d = c
    | .bl d => d = c
    | _ => False
  | b => a = b
def wkL : List AV → List AV → Prop
  | [], [] => True
  | a :: l, b :: m => wk a b ∧ wkL l m
  | _, _ => False
def wkEnv (e : List (Nat × AV)) : List (Nat × AV) → Prop
  | [] => True
  | (k, v) :: r => wk (look e k) v ∧ wkEnv e r
def wkE (e f : Ent) : Prop :=
  match f with
  | .dead => True
  | .var cs' => match e with
    | .var cs => wkL cs cs'
    | _ => False
  | .tip p => match e with
    | .tip q => q = p
    | _ => False
  | .vec s xs => match e with
    | .vec s' xs' => s' = s ∧ xs' = xs
    | _ => False
  | .fam t os => match e with
    | .fam t' os' => t' = t ∧ os' = os
    | _ => False
  | .mp es => match e with
    | .mp es' => es' = es
    | _ => False
  | .lp ps a b env n st pe => e = .lp ps a b env n st pe
def wkH : List Ent → List Ent → Prop
  | _, [] => True
  | e :: h, f :: k => wkE e f ∧ wkH h k
  | [], _ :: _ => False
def okT (m : Nat) : Tok → Bool
  | .tip i _ => ltN i m
  | _ => true
def okV (m : Nat) : Nat → AV → Bool
  | 0, _ => false
  | d + 1, a => match a with
    | .agg cs => cs.all (okV m d)
    | .tup cs => cs.all (okV m d)
    | .sl _ _ t => okT m t
    | .ms i _ _ _ => ltN i m
    | .vs i _ _ _ _ => ltN i m
    | .vp i _ _ _ => ltN i m
    | .ptr i _ => ltN i m
    | .mp i => ltN i m
    | .yld i => ltN i m
    | .func _ cs => cs.all (okV m d)
    | .iface _ x => okV m d x
    | .cond _ _ => false
    | _ => true
def okE (m : Nat) : Ent → Bool
  | .var cs => cs.all (okV m 6)
  | .lp _ _ _ env _ _ _ => env.all fun x => okV m 6 x.2
  | _ => true
def okS (s : St) : Bool := (s.env.all fun x => okV (lenN s.hp) 6 x.2) && s.hp.all (okE (lenN s.hp))
def Le (s t : St) : Prop := wkEnv s.env t.env ∧ wkH s.hp t.hp ∧ okS t = true ∧ s.n = t.n
end Go.Pt
namespace Go.Pt
open Go
def All2 {α β : Type} (R : α → β → Prop) : List α → List β → Prop
  | [], [] => True
  | a :: l, b :: m => R a b ∧ All2 R l m
  | _, _ => False
section all2
variable {α β : Type} {R R' : α → β → Prop}
theorem All2.length : ∀ {l : List α} {m : List β}, All2 R l m → l.length = m.length
  | [], [], _ => rfl
  | _ :: _, _ :: _, h => by simp [All2.length h.2]
theorem All2.imp (hr : ∀ a b, R a b → R' a b) : ∀ {l : List α} {m : List β}, All2 R l m → All2 R' l m
  | [], [], _ => trivial
  | _ :: _, _ :: _, h => ⟨hr _ _ h.1, All2.imp hr h.2⟩
theorem All2.imp_mem : ∀ {l : List α} {m : List β}, (∀ a ∈ l, ∀ b, R a b → R' a b) → All2 R l m → All2 R' l m
  | [], [], _, _ => trivial
  | a :: l, _ :: _, hr, h => ⟨hr a (by simp) _ h.1, All2.imp_mem (fun x hx => hr x (by simp [hx])) h.2⟩
theorem All2.get : ∀ {l : List α} {m : List β} {i : Nat} {a : α}, All2 R l m → l[i]? = some a → ∃ b, m[i]? = some b ∧ R a b
  | [], _, _, _, _, e => by simp at e
  | x :: _, y :: _, 0, a, h, e => ⟨y, rfl, by simp at e; exact e ▸ h.1⟩
  | _ :: l, _ :: m, i + 1, a, h, e => by simpa using All2.get (i := i) h.2 (by simpa using e)
theorem All2.get' : ∀ {l : List α} {m : List β} {i : Nat} {b : β}, All2 R l m → m[i]? = some b → ∃ a, l[i]? = some a ∧ R a b
  | _, [], _, _, _, e => by simp at e
  | x :: _, y :: _, 0, a, h, e => ⟨x, rfl, by simp at e; exact e ▸ h.1⟩
  | _ :: l, _ :: m, i + 1, a, h, e => by simpa using All2.get' (i := i) h.2 (by simpa using e)
theorem All2.append : ∀ {l : List α} {m : List β} {l' : List α} {m' : List β}, All2 R l m → All2 R l' m' → All2 R (l ++ l') (m ++ m')
  | [], [], _, _, _, h => h
  | _ :: _, _ :: _, _, _, h, h' => ⟨h.1, All2.append h.2 h'⟩
theorem All2.drop : ∀ {l : List α} {m : List β} (n : Nat), All2 R l m → All2 R (l.drop n) (m.drop n)
  | [], [], 0, h => h
  | _ :: _, _ :: _, 0, h => h
  | [], [], _ + 1, h => h
  | _ :: _, _ :: _, n + 1, h => by simpa using All2.drop n h.2
theorem All2.take : ∀ {l : List α} {m : List β} (n : Nat), All2 R l m → All2 R (l.take n) (m.take n)
  | [], [], 0, _ => trivial
  | _ :: _, _ :: _, 0, _ => by simp [All2]
  | [], [], _ + 1, _ => trivial
  | _ :: _, _ :: _, n + 1, h => ⟨h.1, All2.take n h.2⟩
theorem All2.set : ∀ {l : List α} {m : List β} (n : Nat) {a : α} {b : β}, All2 R l m → R a b → All2 R (setN l n a) (m.set n b)
  | [], [], _, _, _, h, _ => h
  | _ :: _, _ :: _, 0, _, _, h, r => ⟨r, h.2⟩
  | _ :: _, _ :: _, n + 1, _, _, h, r => ⟨h.1, All2.set n h.2 r⟩
theorem All2.of_get : ∀ {l : List α} {m : List β}, l.length = m.length → (∀ (i : Nat) a b, l[i]? = some a → m[i]? = some b → R a b) → All2 R l m
  | [], [], _, _ => trivial
  | [], _ :: _, h, _ => by simp at h
  | _ :: _, [], h, _ => by simp at h
  | a :: l, b :: m, h, hr => ⟨hr 0 a b rfl rfl, All2.of_get (by simpa using h) (fun i x y hx hy => hr (i + 1) x y (by simpa using hx) (by simpa using hy))⟩
end all2
theorem nth_eq {α : Type} : ∀ (l : List α) (n : Nat), nth l n = l[n]?
  | [], _ => by simp [nth]
  | _ :: _, 0 => by simp [nth]
  | _ :: l, n + 1 => by simp [nth, nth_eq l n]
theorem setN_eq {α : Type} : ∀ (l : List α) (n : Nat) (a : α), setN l n a = l.set n a
  | [], _, _ => by simp [setN]
  | _ :: _, 0, _ => by simp [setN]
  | _ :: l, n + 1, a => by simp [setN, setN_eq l n]
theorem snoc_eq {α : Type} : ∀ (l : List α) (a : α), snoc l a = l ++ [a]
  | [], _ => rfl
  | _ :: l, a => by simp [snoc, snoc_eq l]
theorem lenN_eq {α : Type} : ∀ (l : List α), lenN l = l.length
  | [] => rfl
  | _ :: l => by simp [lenN, lenN_eq l]
theorem cut_eq {α : Type} : ∀ (l : List α) (o n : Nat) {r : List α}, cut l o n = some r → r = (l.drop o).take n ∧ o + n ≤ l.length ∨ n = 0 ∧ r = []
  | l, o, 0, r, h => by cases l <;> (simp [cut] at h; exact .inr ⟨rfl, by simp [h]⟩)
  | [], o, n + 1, r, h => by simp [cut] at h
  | x :: l, 0, n + 1, r, h => by
    simp only [cut, Option.map_eq_some_iff] at h
    obtain ⟨r', h', rfl⟩ := h
    rcases cut_eq l 0 n h' with ⟨rfl, hl⟩ | ⟨rfl, rfl⟩
    · exact .inl ⟨by simp, by simp; omega⟩
    · exact .inl ⟨by simp, by simp⟩
  | x :: l, o + 1, n + 1, r, h => by
    simp only [cut] at h
    rcases cut_eq l o (n + 1) h with ⟨rfl, hl⟩ | ⟨h, _⟩
    · exact .inl ⟨by simp, by simp; omega⟩
    · omega
theorem upon_eq {α : Type} : ∀ (l : List α) (o : Nat) (ys : List α) {r : List α}, upon l o ys = some r → r = l.take o ++ ys ++ l.drop (o + ys.length) ∧ (ys ≠ [] → o + ys.length ≤ l.length) ∧ r.length = l.length
  | l, o, [], r, h => by cases l <;> (simp [upon] at h; subst h; simp)
  | [], o, y :: ys, r, h => by simp [upon] at h
  | x :: l, 0, y :: ys, r, h => by
    simp only [upon, Option.map_eq_some_iff] at h
    obtain ⟨r', h', rfl⟩ := h
    obtain ⟨rfl, h2, h3⟩ := upon_eq l 0 ys h'
    refine ⟨by simp, fun _ => ?_, by simpa using h3⟩
    by_cases e : ys = []
    · simp [e]
    · have := h2 e; simp; omega
  | x :: l, o + 1, y :: ys, r, h => by
    simp only [upon, Option.map_eq_some_iff] at h
    obtain ⟨r', h', rfl⟩ := h
    obtain ⟨rfl, h2, h3⟩ := upon_eq l o (y :: ys) h'
    refine ⟨?_, fun _ => by have := h2 (by simp); simp at this ⊢; omega, by simpa using h3⟩
    rw [show o + 1 + (y :: ys).length = (o + (y :: ys).length) + 1 by omega]
    simp
structure Loc where
  blk : Nat
  start : Nat
  stop : Nat
  pos : Nat
structure Fam where
  n : Nat → Nat
  f : Nat → Nat → Nat
  inj : ∀ t i j, f t i = f t j → i = j
structure Ro where
  b : Nat → Nat
  t : Nat → Loc
  x : Nat → Nat → Prop
  m : Nat
  g : Fam
structure FamLe (a b : Fam) : Prop where
  n : ∀ t, a.n t ≤ b.n t
  f : ∀ t j, j < a.n t → b.f t j = a.f t j
theorem FamLe.refl (a : Fam) : FamLe a a := ⟨fun _ => Nat.le_refl _, fun _ _ _ => rfl⟩
theorem FamLe.trans {a b c : Fam} (h : FamLe a b) (k : FamLe b c) : FamLe a c :=
  ⟨fun t => Nat.le_trans (h.n t) (k.n t), fun t j hj => (k.f t j (Nat.lt_of_lt_of_le hj (h.n t))).trans (h.f t j hj)⟩
def HasFam (σ : List Ent) (t : Nat) : Prop := ∃ (i : Nat) (os : List AV), σ[i]? = some (.fam t os)
structure FamStp (a : Fam) (σ : List Ent) (b : Fam) (σ' : List Ent) : Prop where
  le : FamLe a b
  no : ∀ t, ¬ HasFam σ t → b.n t = a.n t ∧ ¬ HasFam σ' t
theorem FamStp.refl (a : Fam) (σ : List Ent) : FamStp a σ a σ := ⟨.refl _, fun _ h => ⟨rfl, h⟩⟩
theorem FamStp.trans {a b c : Fam} {σ σ' σ'' : List Ent} (h : FamStp a σ b σ') (k : FamStp b σ' c σ'') : FamStp a σ c σ'' :=
  ⟨h.le.trans k.le, fun t ht => ⟨(k.no t (h.no t ht).2).1.trans (h.no t ht).1, (k.no t (h.no t ht).2).2⟩⟩
theorem FamStp.of {a : Fam} {σ σ' : List Ent} (h : ∀ (i : Nat) t os, σ'[i]? = some (.fam t os) → ∃ (j : Nat) (os' : List AV), σ[j]? = some (.fam t os')) : FamStp a σ a σ' :=
  ⟨.refl _, fun t ht => ⟨rfl, fun ⟨i, os, hi⟩ => let ⟨j, os', hj⟩ := h i t os hi; ht ⟨j, os', hj⟩⟩⟩
theorem FamStp.set {a : Fam} {σ : List Ent} {i : Nat} {e : Ent} (he : ∀ t os, e = .fam t os → HasFam σ t) : FamStp a σ a (setN σ i e) := by
  refine .of fun j t os hj => ?_
  rw [setN_eq, List.getElem?_set] at hj
  split at hj
  · split at hj
    · simp only [Option.some.injEq] at hj; exact he t os hj
    · simp at hj
  · exact ⟨j, os, hj⟩
theorem FamStp.push {a : Fam} {σ : List Ent} {e : Ent} (he : ∀ t os, e = .fam t os → HasFam σ t) : FamStp a σ a (σ ++ [e]) := by
  refine .of fun j t os hj => ?_
  by_cases hl : j < σ.length
  · rw [List.getElem?_append_left hl] at hj; exact ⟨j, os, hj⟩
  · rw [List.getElem?_append_right (by omega)] at hj
    rcases Nat.lt_or_ge (j - σ.length) 1 with h1 | h1
    · rw [show j - σ.length = 0 by omega] at hj; simp at hj; exact he t os hj
    · rw [List.getElem?_eq_none (by simpa using h1)] at hj; simp at hj
abbrev cellAt (w : World) (b o : Nat) : Option Value := w.cell? ⟨b, o, none⟩
def hdr (l : Loc) (s len cap : Nat) (a : Option Addr) : Prop :=
  l.start + (cap - len) * s = l.stop ∧ (len < cap → ∃ o, a = some ⟨l.blk, o, none⟩ ∧ o + len * s = l.start)
def tokOk (ρ : Ro) (n s len cap : Nat) (a : Option Addr) : Tok → Prop
  | .no => True
  | .full => cap = len
  | .tip id pos => id < n ∧ pos ≤ (ρ.t id).pos ∧ ((ρ.t id).pos = pos → hdr (ρ.t id) s len cap a)
def Reads (w : World) (S : Nat → Nat → Prop) (b o : Nat) (vs : List Value) : Prop :=
  ∀ j u, vs[j]? = some u → S b (o + j) ∧ cellAt w b (o + j) = some u ∧ u.oneCell' = true
def Cz (w : World) (S : Nat → Nat → Prop) (ρ : Ro) : Nat → Nat → AV → Value → Prop
  | 0, _, _, _ => False
  | d + 1, n, a, v => match a with
    | .int k x => v = .int k x
    | .bool b => v = .bool b
    | .bl b => v = .bool b
    | .str s => v = .string s
    | .agg cs => ∃ vs : List Value, v = .agg vs.toArray ∧ All2 (Cz w S ρ d n) cs vs
    | .tup cs => ∃ vs : List Value, v = .tuple vs.toArray ∧ All2 (Cz w S ρ d n) cs vs
    | .sl s xs t => ∃ ad len cap, v = .slice ad len cap ∧ len = xs.length ∧ len ≤ cap ∧ tokOk ρ n s len cap ad t ∧
        (xs ≠ [] → ∃ b o, ad = some ⟨b, o, none⟩ ∧ ∀ (i : Nat) x, xs[i]? = some x → ∃ vs, All2 (Cz w S ρ d 0) x.cells vs ∧ vs.length = s ∧ Reads w S b (o + i * s) vs)
    | .nils => v = .slice none 0 0
    | .ms id off _ len => id < n ∧ ∃ cap, len ≤ cap ∧ v = .slice (some ⟨ρ.b id, off, none⟩) len cap
    | .vs id s lo k N => id < n ∧ ∃ (ad : Option Addr) (len cap : Nat), v = .slice ad len cap ∧ k = len ∧ len ≤ cap ∧ (0 < cap → ∃ b o, ad = some ⟨b, o, none⟩) ∧ ∃ l : Nat, lo = l ∧ N ≤ ((l + cap : Nat) : Int) ∧
        ((ρ.t id).pos = 0 → 0 < cap → ad = some ⟨(ρ.t id).blk, (ρ.t id).start + l * s, none⟩ ∧ (ρ.t id).start + (l + cap) * s ≤ (ρ.t id).stop)
    | .vp id s i off => id < n ∧ ∃ b o, v = .pointer (some ⟨b, o, none⟩) ∧ ((ρ.t id).pos = 0 → ∃ k : Nat, i = k ∧ b = (ρ.t id).blk ∧ o = (ρ.t id).start + k * s + off)
    | .fp t k off => ∃ j : Nat, k = j ∧ j < ρ.g.n t ∧ v = .pointer (some ⟨ρ.g.f t j, off, none⟩)
    | .ptr id off => id < n ∧ v = .pointer (some ⟨ρ.b id, off, none⟩)
    | .cptr cs off => ∃ b o vs, v = .pointer (some ⟨b, o + off, none⟩) ∧ All2 (Cz w S ρ d 0) cs vs ∧ Reads w S b o vs
    | .nilp => v = .pointer none
    | .mp id => id < n ∧ v = .map (some (ρ.b id))
    | .nilm => v = .map none
    | .func f caps => ∃ vs : List Value, v = .func (.func f) #[] vs.toArray ∧ All2 (Cz w S ρ d n) caps vs
    | .nilf => v = .nilFunc
    | .iface t x => ∃ u, v = .iface t u ∧ Cz w S ρ d n x u
    | .nili => v = .nilIface
    | .cond g a => (g = true → Cz w S ρ d n a v) ∧ (g = false → v = undef)
    | .yld id => id < n ∧ v = .func (.yield (ρ.b id)) #[] #[]
    | .junk => True
structure Keeps (w w' : World) (S S' : Nat → Nat → Prop) (ρ ρ' : Ro) (n n' : Nat) : Prop where
  rd : ∀ b o u, S b o → cellAt w b o = some u → S' b o ∧ cellAt w' b o = some u
  le : n ≤ n'
  b : ∀ i, i < n → ρ'.b i = ρ.b i
  t : ∀ i, i < n → ρ'.t i = ρ.t i ∨ (ρ.t i).pos < (ρ'.t i).pos
  g : FamLe ρ.g ρ'.g
theorem Keeps.zero {w w' : World} {S S' : Nat → Nat → Prop} {ρ ρ' : Ro} {n n' : Nat} (h : Keeps w w' S S' ρ ρ' n n') : Keeps w w' S S' ρ ρ' 0 0 :=
  ⟨h.rd, Nat.le_refl _, fun i hi => by omega, fun i hi => by omega, h.g⟩
theorem Reads.keep {w w' : World} {S S' : Nat → Nat → Prop} (h : ∀ b o u, S b o → cellAt w b o = some u → S' b o ∧ cellAt w' b o = some u) {b o : Nat} {vs : List Value}
    (hr : Reads w S b o vs) : Reads w' S' b o vs := fun j u hu => ⟨(h _ _ _ (hr j u hu).1 (hr j u hu).2.1).1, (h _ _ _ (hr j u hu).1 (hr j u hu).2.1).2, (hr j u hu).2.2⟩
theorem tokOk.keep {w w' : World} {S S' : Nat → Nat → Prop} {ρ ρ' : Ro} {n n' : Nat} (h : Keeps w w' S S' ρ ρ' n n') {s len cap : Nat} {a : Option Addr} {t : Tok}
    (ht : tokOk ρ n s len cap a t) : tokOk ρ' n' s len cap a t := by
  cases t with
  | no => trivial
  | full => exact ht
  | tip id pos =>
    obtain ⟨h1, h2, h3⟩ := ht
    rcases h.t id h1 with e | e
    · exact ⟨Nat.lt_of_lt_of_le h1 h.le, by rw [e]; exact h2, by rw [e]; exact h3⟩
    · exact ⟨Nat.lt_of_lt_of_le h1 h.le, by omega, fun e' => by omega⟩
theorem Cz.keep : ∀ (d : Nat) {w w' : World} {S S' : Nat → Nat → Prop} {ρ ρ' : Ro} {n n' : Nat}, Keeps w w' S S' ρ ρ' n n' → ∀ (a : AV) (v : Value), Cz w S ρ d n a v → Cz w' S' ρ' d n' a v := by
  intro d
  induction d with
  | zero => intro w w' S S' ρ ρ' n n' _ a v h; exact h.elim
  | succ d ih =>
    intro w w' S S' ρ ρ' n n' hk a v h
    cases a with
    | agg cs => obtain ⟨vs, rfl, h⟩ := h; exact ⟨vs, rfl, h.imp (ih hk)⟩
    | tup cs => obtain ⟨vs, rfl, h⟩ := h; exact ⟨vs, rfl, h.imp (ih hk)⟩
    | sl s xs t =>
      obtain ⟨ad, len, cap, rfl, hl, hc, ht, h⟩ := h
      refine ⟨ad, len, cap, rfl, hl, hc, ht.keep hk, fun hx => ?_⟩
      obtain ⟨b, o, e, h⟩ := h hx
      refine ⟨b, o, e, fun i x hi => ?_⟩
      obtain ⟨vs, h1, h2, h3⟩ := h i x hi
      exact ⟨vs, h1.imp (ih hk.zero), h2, h3.keep hk.rd⟩
    | ms id off s len => obtain ⟨h1, cap, h2, h3⟩ := h; exact ⟨Nat.lt_of_lt_of_le h1 hk.le, cap, h2, by rw [hk.b _ h1]; exact h3⟩
    | vs id s lo k N =>
      obtain ⟨h1, ad, len, cap, e, h2, h3, h5, h4⟩ := h
      obtain ⟨l, h6, h7, h4⟩ := h4
      refine ⟨Nat.lt_of_lt_of_le h1 hk.le, ad, len, cap, e, h2, h3, h5, l, h6, h7, fun hp => ?_⟩
      rcases hk.t id h1 with e | e
      · rw [e] at hp ⊢; exact h4 hp
      · omega
    | vp id s i off =>
      obtain ⟨h1, b, o, e, h4⟩ := h
      refine ⟨Nat.lt_of_lt_of_le h1 hk.le, b, o, e, fun hp => ?_⟩
      rcases hk.t id h1 with e | e
      · rw [e] at hp ⊢; exact h4 hp
      · omega
    | fp t k off => obtain ⟨j, h1, h2, h3⟩ := h; exact ⟨j, h1, Nat.lt_of_lt_of_le h2 (hk.g.n t), by rw [hk.g.f t j h2]; exact h3⟩
    | ptr id off => exact ⟨Nat.lt_of_lt_of_le h.1 hk.le, by rw [hk.b _ h.1]; exact h.2⟩
    | cptr cs off => obtain ⟨b, o, vs, e, h1, h2⟩ := h; exact ⟨b, o, vs, e, h1.imp (ih hk.zero), h2.keep hk.rd⟩
    | mp id => exact ⟨Nat.lt_of_lt_of_le h.1 hk.le, by rw [hk.b _ h.1]; exact h.2⟩
    | yld id => exact ⟨Nat.lt_of_lt_of_le h.1 hk.le, by rw [hk.b _ h.1]; exact h.2⟩
    | func f caps => obtain ⟨vs, rfl, h⟩ := h; exact ⟨vs, rfl, h.imp (ih hk)⟩
    | iface t x => obtain ⟨u, e, h⟩ := h; exact ⟨u, e, ih hk _ _ h⟩
    | cond g a => exact ⟨fun e => ih hk _ _ (h.1 e), h.2⟩
    | _ => exact h
theorem Cz.succ : ∀ (d : Nat) {w : World} {S : Nat → Nat → Prop} {ρ : Ro} {n : Nat} (a : AV) (v : Value), Cz w S ρ d n a v → Cz w S ρ (d + 1) n a v := by
  intro d
  induction d with
  | zero => intro w S ρ n a v h; exact h.elim
  | succ d ih =>
    intro w S ρ n a v h
    cases a with
    | agg cs => obtain ⟨vs, rfl, h⟩ := h; exact ⟨vs, rfl, h.imp ih⟩
    | tup cs => obtain ⟨vs, rfl, h⟩ := h; exact ⟨vs, rfl, h.imp ih⟩
    | sl s xs t =>
      obtain ⟨ad, len, cap, rfl, hl, hc, ht, h⟩ := h
      refine ⟨ad, len, cap, rfl, hl, hc, ht, fun hx => ?_⟩
      obtain ⟨b, o, e, h⟩ := h hx
      refine ⟨b, o, e, fun i x hi => ?_⟩
      obtain ⟨vs, h1, h2, h3⟩ := h i x hi
      exact ⟨vs, h1.imp ih, h2, h3⟩
    | cptr cs off => obtain ⟨b, o, vs, e, h1, h2⟩ := h; exact ⟨b, o, vs, e, h1.imp ih, h2⟩
    | func f caps => obtain ⟨vs, rfl, h⟩ := h; exact ⟨vs, rfl, h.imp ih⟩
    | iface t x => obtain ⟨u, e, h⟩ := h; exact ⟨u, e, ih _ _ h⟩
    | cond g a => exact ⟨fun e => ih _ _ (h.1 e), h.2⟩
    | _ => exact h
theorem Cz.le {d d' : Nat} (h : d ≤ d') {w : World} {S : Nat → Nat → Prop} {ρ : Ro} {n : Nat} {a : AV} {v : Value} (hc : Cz w S ρ d n a v) : Cz w S ρ d' n a v := by
  induction h with
  | refl => exact hc
  | step _ ih => exact Cz.succ _ _ _ ih
def Val (w : World) (S : Nat → Nat → Prop) (ρ : Ro) (n : Nat) (a : AV) (v : Value) : Prop := ∃ d, Cz w S ρ d n a v
theorem all2_depth {w : World} {S : Nat → Nat → Prop} {ρ : Ro} {n : Nat} : ∀ {l : List AV} {m : List Value}, All2 (Val w S ρ n) l m → ∃ d, All2 (Cz w S ρ d n) l m
  | [], [], _ => ⟨0, trivial⟩
  | _ :: _, _ :: _, h => by
    obtain ⟨⟨d, h1⟩, h2⟩ := h
    obtain ⟨e, h2⟩ := all2_depth h2
    exact ⟨max d e, Cz.le (Nat.le_max_left _ _) h1, h2.imp fun a v => Cz.le (Nat.le_max_right _ _)⟩
theorem vals_of {w : World} {S : Nat → Nat → Prop} {ρ : Ro} {n d : Nat} {l : List AV} {m : List Value} (h : All2 (Cz w S ρ d n) l m) : All2 (Val w S ρ n) l m := h.imp fun _ _ h => ⟨d, h⟩
theorem Val.keep {w w' : World} {S S' : Nat → Nat → Prop} {ρ ρ' : Ro} {n n' : Nat} (hk : Keeps w w' S S' ρ ρ' n n') {a : AV} {v : Value} (h : Val w S ρ n a v) : Val w' S' ρ' n' a v :=
  let ⟨d, h⟩ := h; ⟨d, Cz.keep d hk a v h⟩
theorem Val.up {w : World} {S : Nat → Nat → Prop} {ρ : Ro} {n : Nat} {a : AV} {v : Value} (h : Val w S ρ 0 a v) : Val w S ρ n a v :=
  h.keep ⟨fun _ _ _ h1 h2 => ⟨h1, h2⟩, Nat.zero_le _, fun i hi => absurd hi (Nat.not_lt_zero i), fun i hi => absurd hi (Nat.not_lt_zero i), .refl _⟩
theorem Val.junk {w : World} {S : Nat → Nat → Prop} {ρ : Ro} {n : Nat} {v : Value} : Val w S ρ n .junk v := ⟨1, trivial⟩
theorem Val.cells {w : World} {S : Nat → Nat → Prop} {ρ : Ro} {n : Nat} {a : AV} {v : Value} (h : Val w S ρ n a v) (h1 : allOne a.cells = true) : All2 (Val w S ρ n) a.cells v.cells.toList ∧ ∀ u ∈ v.cells.toList, u.oneCell' = true := by
  have one : ∀ {a : AV} {v : Value}, Val w S ρ n a v → a.one = true → v.oneCell' = true := by
    rintro a v ⟨d, h⟩ h1
    cases d with
    | zero => exact h.elim
    | succ d => cases a <;> first | (simp [AV.one] at h1; done) | (simp [Cz] at h; done) | skip
                all_goals (simp only [Cz] at h)
                all_goals first | (subst h; rfl) | (obtain ⟨_, rfl⟩ := h; rfl) | (obtain ⟨_, _, _, rfl, _⟩ := h; rfl) | (obtain ⟨_, _, _, rfl⟩ := h; rfl) | (obtain ⟨_, rfl, _⟩ := h; rfl) | (obtain ⟨_, _, _, _, rfl, _⟩ := h; rfl)
  have allone : ∀ {l : List AV} {m : List Value}, All2 (Val w S ρ n) l m → allOne l = true → ∀ u ∈ m, u.oneCell' = true := by
    intro l
    induction l with
    | nil => intro m h _; cases m <;> simp [All2] at h; simp
    | cons a l ih =>
      intro m h h1
      cases m with
      | nil => simp [All2] at h
      | cons v m =>
        obtain ⟨h, h'⟩ := h
        simp only [allOne] at h1
        split at h1
        · rename_i e
          intro u hu
          rcases List.mem_cons.1 hu with rfl | hu
          · exact one h e
          · exact ih h' h1 u hu
        · simp at h1
  obtain ⟨d, hd⟩ := h
  cases d with
  | zero => exact hd.elim
  | succ d =>
    by_cases hc : ∃ cs, a = .agg cs
    · obtain ⟨cs, rfl⟩ := hc
      obtain ⟨vs, rfl, h⟩ := hd
      exact ⟨vals_of h, allone (vals_of h) h1⟩
    · have e : a.cells = [a] := by cases a <;> first | rfl | exact absurd ⟨_, rfl⟩ hc
      rw [e] at h1 ⊢
      have o1 : a.one = true := by simp only [allOne] at h1; split at h1 <;> simp_all
      have hv : v.oneCell' = true := one ⟨d + 1, hd⟩ o1
      have ev : v.cells = #[v] := by cases v <;> first | rfl | simp [Value.oneCell'] at hv
      rw [ev]
      exact ⟨⟨⟨d + 1, hd⟩, trivial⟩, by simp [hv]⟩
def OwnE (ρ : Ro) (i b o : Nat) : Ent → Prop
  | .var _ => ρ.b i = b
  | .mp _ => ρ.b i = b
  | .lp .. => ρ.b i = b
  | .tip _ => (ρ.t i).blk = b ∧ (ρ.t i).start ≤ o ∧ o < (ρ.t i).stop
  | .vec _ _ => (ρ.t i).blk = b ∧ (ρ.t i).start ≤ o ∧ o < (ρ.t i).stop
  | .fam t os => ∃ j, j < os.length ∧ ρ.g.f t j = b
  | .dead => False
def Own (ρ : Ro) (σ : List Ent) (b o : Nat) : Prop := ∃ i e, σ[i]? = some e ∧ OwnE ρ i b o e
abbrev Stay (ρ : Ro) (σ : List Ent) (b o : Nat) : Prop := ¬ Own ρ σ b o ∧ ¬ ρ.x b o
def EntOk (w : World) (S : Nat → Nat → Prop) (ρ : Ro) (n i : Nat) : Ent → Prop
  | .var cs => ∃ (vs : List Value) (e : TypeId), All2 (Val w S ρ n) cs vs ∧ w.heap[ρ.b i]? = some (.cells vs.toArray e (0, 0))
  | .tip pos => (ρ.t i).pos = pos ∧ (ρ.t i).start ≤ (ρ.t i).stop ∧ ((ρ.t i).start < (ρ.t i).stop → ∃ c e f, w.heap[(ρ.t i).blk]? = some (.cells c e f) ∧ (ρ.t i).stop ≤ c.size ∧ ∀ o, (ρ.t i).start ≤ o → o < (ρ.t i).stop → w.frozen? ⟨(ρ.t i).blk, o, none⟩ = false)
  | .vec s xs => (ρ.t i).pos = 0 ∧ (ρ.t i).start + xs.length * s ≤ (ρ.t i).stop ∧ ((ρ.t i).start < (ρ.t i).stop → ∃ c e f, w.heap[(ρ.t i).blk]? = some (.cells c e f) ∧ (ρ.t i).stop ≤ c.size ∧ ∀ o, (ρ.t i).start ≤ o → o < (ρ.t i).stop → w.frozen? ⟨(ρ.t i).blk, o, none⟩ = false) ∧
      ∀ (k : Nat) x, xs[k]? = some x → ∃ vs, All2 (Val w S ρ 0) x.cells vs ∧ vs.length = s ∧ ∀ (j : Nat) u, vs[j]? = some u → cellAt w (ρ.t i).blk ((ρ.t i).start + k * s + j) = some u ∧ u.oneCell' = true
  | .fam t os => t = i ∧ os.length = ρ.g.n t ∧ ∀ (j : Nat) x, os[j]? = some x → ∃ (vs : List Value) (e : TypeId), All2 (Val w S ρ 0) x.cells vs ∧ w.heap[ρ.g.f t j]? = some (.cells vs.toArray e (0, 0))
  | .mp es => ∃ (ms : List MapEntry) (clock : Nat), w.heap[ρ.b i]? = some (.map ms.toArray clock) ∧ All2 (fun (x : AV × AV) (m : MapEntry) => Val w S ρ 0 x.1 m.key ∧ Val w S ρ 0 x.2 m.val) es ms ∧ (∀ m ∈ ms, m.born < clock) ∧ (ms.map (·.born)).Nodup
  | .lp ps asg body env k st pe => ∃ r : Loop, w.heap[ρ.b i]? = some (.loop r) ∧ r.params = ps.toArray ∧ r.assign = asg ∧ r.body = body ∧ r.state = st ∧ r.pending = pe ∧ r.tmps.size = k ∧ ∀ t, Val w S ρ n (look env t) (r.tmps.getD t undef)
  | .dead => True
abbrev Gok (w : World) (ρ : Ro) : Prop := ∀ (t j : Nat), j < ρ.g.n t → ∃ c e, w.heap[ρ.g.f t j]? = some (.cells c e (0, 0))
structure Rel (ρ : Ro) (σ : List Ent) (w : World) : Prop where
  ents : ∀ (i : Nat) e, σ[i]? = some e → EntOk w (Stay ρ σ) ρ σ.length i e
  disj : ∀ (i j : Nat) e f b o, σ[i]? = some e → σ[j]? = some f → OwnE ρ i b o e → OwnE ρ j b o f → i = j
  xlt : ∀ b o, ρ.x b o → b < w.heap.size
  xown : ∀ b o, Own ρ σ b o → ¬ ρ.x b o
  gok : ∀ (t j : Nat), j < ρ.g.n t → ∃ c e, w.heap[ρ.g.f t j]? = some (.cells c e (0, 0))
def okBlk (X : Nat → Prop) (a b : Obj) : Prop :=
  match a with
  | .cells c e f => ∃ c', b = .cells c' e f ∧ c'.size = c.size ∧ ∀ o : Nat, ¬ X o → c'[o]? = c[o]?
  | .loop r => ∃ r', b = .loop r' ∧ r'.defers = r.defers ∧ (X 0 ∨ r' = r)
  | a => X 0 ∨ b = a
structure StpN (n₀ : Nat) (ρ : Ro) (σ : List Ent) (w : World) (ρ' : Ro) (σ' : List Ent) (w' : World) : Prop where
  os : w'.os = w.os
  tape : w'.tape = w.tape
  output : w'.output = w.output
  size : w.heap.size ≤ w'.heap.size
  frm : ∀ (b : Nat) ob, w.heap[b]? = some ob → ∃ ob', w'.heap[b]? = some ob' ∧ okBlk (Own ρ σ b) ob ob'
  own : ∀ b o, b < w.heap.size → Own ρ' σ' b o → Own ρ σ b o
  len : n₀ ≤ σ'.length
  rb : ∀ i, i < n₀ → ρ'.b i = ρ.b i
  rt : ∀ i, i < n₀ → ρ'.t i = ρ.t i ∨ (ρ.t i).pos < (ρ'.t i).pos
  rx : ρ'.x = ρ.x
  rm : ρ'.m = ρ.m
  rg : FamStp ρ.g σ ρ'.g σ'
abbrev Stp (ρ : Ro) (σ : List Ent) (w : World) (ρ' : Ro) (σ' : List Ent) (w' : World) : Prop := StpN σ.length ρ σ w ρ' σ' w'
theorem okBlk.refl (X : Nat → Prop) (o : Obj) : okBlk X o o := by cases o <;> simp [okBlk]
theorem okBlk.trans {X Y : Nat → Prop} {a b c : Obj} (h : okBlk X a b) (k : okBlk Y b c) (hy : ∀ o, Y o → X o) : okBlk X a c := by
  by_cases ha : ∃ ca ea fa, a = .cells ca ea fa
  · obtain ⟨ca, ea, fa, rfl⟩ := ha
    obtain ⟨cb, rfl, h1, h2⟩ := h
    obtain ⟨cc, rfl, k1, k2⟩ := k
    exact ⟨cc, rfl, k1.trans h1, fun o ho => (k2 o (fun y => ho (hy o y))).trans (h2 o ho)⟩
  by_cases hb : ∃ r, a = .loop r
  · obtain ⟨r, rfl⟩ := hb
    obtain ⟨r', rfl, h1, h2⟩ := h
    obtain ⟨r'', rfl, k1, k2⟩ := k
    refine ⟨r'', rfl, k1.trans h1, ?_⟩
    rcases h2 with h2 | rfl
    · exact .inl h2
    · exact k2.imp (hy 0) id
  · have e : ∀ (X : Nat → Prop) (b : Obj), okBlk X a b ↔ (X 0 ∨ b = a) := by
      intro X b
      cases a <;> first | exact absurd ⟨_, _, _, rfl⟩ ha | exact absurd ⟨_, rfl⟩ hb | exact Iff.rfl
    rw [e] at h ⊢
    rcases h with h | rfl
    · exact .inl h
    · rw [e] at k
      exact k.imp (hy 0) id
theorem Stp.refl (ρ : Ro) (σ : List Ent) (w : World) : Stp ρ σ w ρ σ w :=
  ⟨rfl, rfl, rfl, Nat.le_refl _, fun _ ob h => ⟨ob, h, okBlk.refl _ _⟩, fun _ _ _ h => h, Nat.le_refl _, fun _ _ => rfl, fun _ _ => .inl rfl, rfl, rfl, .refl _ _⟩
theorem StpN.gok {n₀ : Nat} {ρ : Ro} {σ : List Ent} {w : World} {ρ' : Ro} {σ' : List Ent} {w' : World} (hst : StpN n₀ ρ σ w ρ' σ' w') (h : Rel ρ σ w) (hg : ρ'.g = ρ.g := by first | rfl | assumption) :
    ∀ (t j : Nat), j < ρ'.g.n t → ∃ c e, w'.heap[ρ'.g.f t j]? = some (.cells c e (0, 0)) := by
  intro t j hj
  rw [hg] at hj ⊢
  obtain ⟨c, e, h1⟩ := h.gok t j hj
  obtain ⟨ob', h2, c', rfl, _⟩ := hst.frm _ _ h1
  exact ⟨c', e, h2⟩
theorem lt_of_heap {w : World} {b : Nat} {ob : Obj} (h : w.heap[b]? = some ob) : b < w.heap.size := by
  rcases Nat.lt_or_ge b w.heap.size with h' | h'
  · exact h'
  · simp [Array.getElem?_eq_none h'] at h
theorem StpN.trans {n₀ n₁ : Nat} {ρ : Ro} {σ : List Ent} {w : World} {ρ' : Ro} {σ' : List Ent} {w' : World} {ρ'' : Ro} {σ'' : List Ent} {w'' : World}
    (h : StpN n₀ ρ σ w ρ' σ' w') (k : StpN n₁ ρ' σ' w' ρ'' σ'' w'') (hn : n₀ ≤ n₁) : StpN n₀ ρ σ w ρ'' σ'' w'' where
  os := k.os.trans h.os
  tape := k.tape.trans h.tape
  output := k.output.trans h.output
  size := Nat.le_trans h.size k.size
  frm b ob hb := by
    obtain ⟨o1, h1, h2⟩ := h.frm b ob hb
    obtain ⟨o2, k1, k2⟩ := k.frm b o1 h1
    exact ⟨o2, k1, h2.trans k2 fun o ho => h.own b o (lt_of_heap hb) ho⟩
  own b o hb ho := h.own b o hb (k.own b o (Nat.lt_of_lt_of_le hb h.size) ho)
  len := Nat.le_trans hn k.len
  rb i hi := (k.rb i (Nat.lt_of_lt_of_le hi hn)).trans (h.rb i hi)
  rt i hi := by
    rcases h.rt i hi with e | e <;> rcases k.rt i (Nat.lt_of_lt_of_le hi hn) with f | f
    · exact .inl (f.trans e)
    · exact .inr (by rw [← e]; exact f)
    · exact .inr (by rw [f]; exact e)
    · exact .inr (by omega)
  rx := k.rx.trans h.rx
  rm := k.rm.trans h.rm
  rg := h.rg.trans k.rg
theorem StpN.trans' {n₀ : Nat} {ρ : Ro} {σ : List Ent} {w : World} {ρ' : Ro} {σ' : List Ent} {w' : World} {ρ'' : Ro} {σ'' : List Ent} {w'' : World}
    (h : StpN n₀ ρ σ w ρ' σ' w') (k : Stp ρ' σ' w' ρ'' σ'' w'') : StpN n₀ ρ σ w ρ'' σ'' w'' := StpN.trans h k h.len
theorem StpN.le {n₀ n₁ : Nat} {ρ : Ro} {σ : List Ent} {w : World} {ρ' : Ro} {σ' : List Ent} {w' : World} (h : StpN n₁ ρ σ w ρ' σ' w') (hn : n₀ ≤ n₁) : StpN n₀ ρ σ w ρ' σ' w' :=
  ⟨h.os, h.tape, h.output, h.size, h.frm, h.own, Nat.le_trans hn h.len, fun i hi => h.rb i (by omega), fun i hi => h.rt i (by omega), h.rx, h.rm, h.rg⟩
theorem cellAt_of {w : World} {b o : Nat} {u : Value} (h : cellAt w b o = some u) : ∃ c e f, w.heap[b]? = some (.cells c e f) ∧ c[o]? = some u := by
  unfold cellAt World.cell? at h
  split at h
  · rename_i c e f hb
    exact ⟨c, e, f, hb, by simpa using h⟩
  · simp at h
theorem cellAt_cells {w : World} {b o : Nat} {c : Array Value} {e : TypeId} {f : Nat × Nat} (h : w.heap[b]? = some (.cells c e f)) : cellAt w b o = c[o]? := by
  simp [cellAt, World.cell?, h]
theorem StpN.keeps {n₀ : Nat} {ρ : Ro} {σ : List Ent} {w : World} {ρ' : Ro} {σ' : List Ent} {w' : World} (h : StpN n₀ ρ σ w ρ' σ' w') :
    Keeps w w' (Stay ρ σ) (Stay ρ' σ') ρ ρ' n₀ σ'.length where
  rd b o u hs hc := by
    obtain ⟨c, e, f, hb, hu⟩ := cellAt_of hc
    refine ⟨⟨fun ho => hs.1 (h.own b o (lt_of_heap hb) ho), by rw [h.rx]; exact hs.2⟩, ?_⟩
    obtain ⟨ob', hb', c', rfl, _, h4⟩ := h.frm b _ hb
    rw [cellAt_cells hb', h4 o hs.1, hu]
  le := h.len
  b := h.rb
  t := h.rt
  g := h.rg.le
theorem Val.step {ρ : Ro} {σ : List Ent} {w : World} {ρ' : Ro} {σ' : List Ent} {w' : World} (h : Stp ρ σ w ρ' σ' w') {a : AV} {v : Value}
    (hv : Val w (Stay ρ σ) ρ σ.length a v) : Val w' (Stay ρ' σ') ρ' σ'.length a v := hv.keep h.keeps
end Go.Pt
namespace Go.Pt
open Go
def tkOf : TypeDesc → TK
  | .int k => .int k
  | .bool => .bool
  | .string => .str
  | .slice e => .slice e
  | .pointer e => .ptr e
  | .struct fs => .struct (fs.toList.map fun f => (f.type, f.offset))
  | .array n e => .arr n e
  | .map k e => .map k e
  | .func _ _ _ => .func
  | .interface _ => .iface
  | .tuple _ => .tup
  | _ => .other
def aggOf : TypeDesc → Bool
  | .struct _ | .array _ _ => true
  | _ => false
def reps {α : Type} : Nat → List α → List α
  | 0, _ => []
  | n + 1, l => l ++ reps n l
def leavesF (P : Program) (r : TypeId → Option (List TK)) : List Field → Nat → Option (List TK)
  | [], _ => some []
  | f :: fs, off => match r f.type with
    | none => none
    | some l => if f.offset = off ∧ f.name ≠ "_" ∧ (P.info? f.type).map (·.size) = some l.length then (leavesF P r fs (off + l.length)).map (l ++ ·) else none
def leaves (P : Program) : Nat → TypeId → Option (List TK)
  | 0, _ => none
  | d + 1, t => match P.underlying t with
    | some (.struct fs) => if P.stoodInHeld t then none else leavesF P (leaves P d) fs.toList 0
    | some (.int k) => some [.int k]
    | some .bool => some [.bool]
    | some .string => some [.str]
    | some (.pointer e) => if (P.info? e).any (fun i => i.size != 0) then some [.ptr e] else none
    | some (.map k e) => some [.map k e]
    | some (.func _ _ _) => some [.func]
    | _ => none
def lvOf (P : Program) (t : TypeId) : List TK := if P.eqGuardType P.depth t then [] else (leaves P 8 t).getD []
def subOk (P : Program) : TypeDesc → Bool
  | .struct fs => fs.toList.all fun f => (P.info? f.type).isSome
  | .array _ e => (P.info? e).isSome
  | _ => true
def isAggV : Value → Bool
  | .agg _ => true
  | _ => false
def tyOf (P : Program) (t : TypeId) : Option Ty :=
  match P.info? t, P.underlying t with
  | some i, some d => match (if subOk P d && (aggOf d || i.size == 1) then i.zero.filter (fun z => z.cells.size == i.size && isAggV z == aggOf d) else none) with
    | some z => some ⟨tkOf d, i.size, i.bytes, aggOf d, z.cells.toList.map lit, lvOf P t, true, 0, .junk⟩
    | none => none
  | _, _ => none
structure TabOk (P : Program) (tab : Nat → Ty) : Prop where
  ty : ∀ t, tyOf P t = some { tab t with md := 0, tm := .junk } ∨ tab t = Ty.no
  mixed : P.follows .mixedOrders = true
structure TyOk (P : Program) (t : TypeId) (T : Ty) (i : TypeInfo) (d : TypeDesc) (z : Value) : Prop where
  info : P.info? t = some i
  und : P.underlying t = some d
  zero : i.zero = some z
  k : T.k = tkOf d
  size : T.size = i.size
  bytes : T.bytes = i.bytes
  agg : T.agg = aggOf d
  zeros : T.zero = z.cells.toList.map lit
  lv : T.lv = lvOf P t
  sub : subOk P d = true
  one : T.agg = false → T.size = 1
  zsize : z.cells.size = T.size
  zagg : isAggV z = T.agg
theorem TabOk.of {P : Program} {tab : Nat → Ty} (h : TabOk P tab) {t : TypeId} (hn : tab t ≠ Ty.no) : ∃ i d z, TyOk P t (tab t) i d z := by
  rcases h.ty t with h | h
  · unfold tyOf at h
    split at h
    · rename_i i d hi hd
      split at h
      · rename_i z hz
        simp only [Option.some.injEq] at h
        have e1 := congrArg Ty.k h; have e2 := congrArg Ty.size h; have e3 := congrArg Ty.bytes h; have e4 := congrArg Ty.agg h; have e5 := congrArg Ty.zero h; have e6 := congrArg Ty.lv h
        simp only at e1 e2 e3 e4 e5 e6
        split at hz
        case isFalse => simp at hz
        rename_i hc
        simp only [Bool.and_eq_true, Bool.or_eq_true, beq_iff_eq] at hc
        rw [Option.filter_eq_some_iff] at hz
        obtain ⟨hz1, hz2⟩ := hz
        simp only [Bool.and_eq_true, beq_iff_eq] at hz2
        exact ⟨i, d, z, hi, hd, hz1, e1.symm, e2.symm, e3.symm, e4.symm, e5.symm, e6.symm, hc.1, fun e => e2 ▸ hc.2.resolve_left (by rw [← e4] at e; simp [e]), e2 ▸ hz2.1, e4 ▸ hz2.2⟩
      · simp at h
    · simp at h
  · exact absurd h hn
theorem tyOf_md {P : Program} {t : TypeId} {T : Ty} (h : tyOf P t = some T) : { T with md := 0, tm := .junk } = T := by
  unfold tyOf at h
  split at h
  · split at h
    · simp only [Option.some.injEq] at h; rw [← h]
    · simp at h
  · simp at h
theorem TabOk.md {P : Program} {tab : Nat → Ty} (h : TabOk P tab) (c k : Nat) (hc : (tab c).ok = true) : TabOk P (fun t => match beN t c with | true => { tab t with md := k } | false => tab t) := by
  refine ⟨fun t => ?_, h.mixed⟩
  dsimp only
  split
  · rename_i e
    have := beN_t e
    subst this
    rcases h.ty t with h | h
    · exact .inl h
    · rw [h] at hc; simp [Ty.no] at hc
  · exact h.ty t
theorem TabOk.put {P : Program} {tab : Nat → Ty} (h : TabOk P tab) (f : Nat → Nat) (g : Nat → AV) : TabOk P (fun t => match (tab t).ok with | true => { tab t with md := f t, tm := g t } | false => tab t) := by
  refine ⟨fun t => ?_, h.mixed⟩
  dsimp only
  split
  · rename_i e
    rcases h.ty t with h | h
    · exact .inl h
    · rw [h] at e; simp [Ty.no] at e
  · exact h.ty t
theorem TabOk.ok {P : Program} {tab : Nat → Ty} (h : TabOk P tab) {t : TypeId} (hn : (tab t).ok = true) : ∃ i d z, TyOk P t (tab t) i d z :=
  h.of fun e => by rw [e] at hn; simp [Ty.no] at hn
theorem TabOk.agg {P : Program} {tab : Nat → Ty} (h : TabOk P tab) {t : TypeId} (hn : (tab t).agg = true) : ∃ i d z, TyOk P t (tab t) i d z :=
  h.of fun e => by rw [e] at hn; simp [Ty.no] at hn
theorem TabOk.kind {P : Program} {tab : Nat → Ty} (h : TabOk P tab) {t : TypeId} {k : TK} (hn : (tab t).k = k) (hk : k ≠ .other) : ∃ i d z, TyOk P t (tab t) i d z :=
  h.of fun e => by rw [e] at hn; exact hk hn.symm
theorem TabOk.pos {P : Program} {tab : Nat → Ty} (h : TabOk P tab) {t : TypeId} (hn : ltN 0 (tab t).size = true) : ∃ i d z, TyOk P t (tab t) i d z :=
  h.of fun e => by rw [e] at hn; simp [Ty.no] at hn
section
variable {P : Program} {w : World}
theorem run_size {t : TypeId} {T : Ty} {i : TypeInfo} {d : TypeDesc} {z : Value} (h : TyOk P t T i d z) (w : World) : (sizeOf t).run P w = .ok T.size w := by
  have := run_sizeOf w h.info
  rw [this, h.size]
  simp [Program.cellsOf, h.info]
theorem run_info {t : TypeId} {T : Ty} {i : TypeInfo} {d : TypeDesc} {z : Value} (h : TyOk P t T i d z) (w : World) : (typeInfo t).run P w = .ok i w := run_typeInfo w h.info
theorem run_und {t : TypeId} {T : Ty} {i : TypeInfo} {d : TypeDesc} {z : Value} (h : TyOk P t T i d z) (w : World) : (underlying t).run P w = .ok d w := run_underlying h.und w
theorem run_agg {t : TypeId} {T : Ty} {i : TypeInfo} {d : TypeDesc} {z : Value} (h : TyOk P t T i d z) (w : World) : (isAgg t).run P w = .ok T.agg w := by
  rw [h.agg]
  cases d <;> simp [isAgg, run_underlying h.und, aggOf]
theorem run_zero {t : TypeId} {T : Ty} {i : TypeInfo} {d : TypeDesc} {z : Value} (h : TyOk P t T i d z) (w : World) : (zeroValue t).run P w = .ok z w := by
  simp [zeroValue, run_typeInfo _ h.info, h.zero]
theorem lit_val {S : Nat → Nat → Prop} {ρ : Ro} {n : Nat} (v : Value) : Val w S ρ n (lit v) v := by
  refine ⟨1, ?_⟩
  unfold lit
  split <;> simp [Cz]
theorem lits_val {S : Nat → Nat → Prop} {ρ : Ro} {n : Nat} : ∀ (l : List Value), All2 (Val w S ρ n) (l.map lit) l
  | [] => trivial
  | _ :: l => ⟨lit_val _, lits_val l⟩
theorem run_loadVar_at {t : TypeId} {T : Ty} {i : TypeInfo} {d : TypeDesc} {z : Value} (ht : TyOk P t T i d z) {b o off : Nat} {vs : List Value} {cs : List AV} {av : AV}
    {S : Nat → Nat → Prop} {ρ : Ro} {n : Nat}
    (hm : ∀ (j : Nat) u, vs[j]? = some u → cellAt w b (o + j) = some u) (hc : All2 (Val w S ρ n) cs vs) (hr : rd T cs off = some av) :
    ∃ u, (loadVar t ⟨b, o + off, none⟩).run P w = .ok u w ∧ Val w S ρ n av u := by
  unfold rd at hr
  split at hr
  case h_2 => simp at hr
  split at hr
  · rename_i _ ha
    simp only [Option.map_eq_some_iff] at hr
    obtain ⟨r, hr, rfl⟩ := hr
    have hcut : r = (cs.drop off).take T.size ∧ ((vs.drop off).take T.size).length = T.size := by
      have hl := hc.length
      rcases cut_eq _ _ _ hr with ⟨h1, h2⟩ | ⟨h1, h2⟩
      · exact ⟨h1, by simp; omega⟩
      · simp [h1, h2]
    obtain ⟨rfl, hlen⟩ := hcut
    have h2 : All2 (Val w S ρ n) ((cs.drop off).take T.size) ((vs.drop off).take T.size) := (hc.drop off).take _
    refine ⟨.agg ((vs.drop off).take T.size).toArray, ?_, ?_⟩
    · have := run_loadCells_list (P := P) w ⟨b, o + off, none⟩ ((vs.drop off).take T.size) (fun j v hj => by
        have hj' : vs[off + j]? = some v := by
          rw [List.getElem?_take] at hj
          split at hj
          · simpa using hj
          · simp at hj
        have := hm _ _ hj'
        unfold Addr.add
        split
        · rename_i e; subst e; simpa using this
        · simpa [Nat.add_assoc] using this)
      rw [hlen] at this
      simp [loadVar, run_agg ht, ha, run_size ht, this]
    · obtain ⟨d, hd⟩ := all2_depth h2
      exact ⟨d + 1, _, rfl, hd⟩
  · rename_i _ ha
    rw [nth_eq] at hr
    obtain ⟨u, hu, hv⟩ := hc.get hr
    refine ⟨u, ?_, hv⟩
    have := hm _ _ hu
    simp only [cellAt] at this
    simp [loadVar, run_agg ht, ha, this]
theorem lt_len {α : Type} {l : List α} {i : Nat} {x : α} (h : l[i]? = some x) : i < l.length := by
  rcases Nat.lt_or_ge i l.length with h' | h'
  · exact h'
  · simp [List.getElem?_eq_none h'] at h
theorem OwnE.congr {ρ ρ' : Ro} {i b o : Nat} {e : Ent} (hb : ρ'.b i = ρ.b i) (ht : ρ'.t i = ρ.t i) (hg : ρ'.g = ρ.g := by first | rfl | assumption) : OwnE ρ' i b o e ↔ OwnE ρ i b o e := by
  cases e <;> simp [OwnE, hb, ht, hg]
def Ent.blk : Ent → Bool
  | .var _ | .mp _ | .lp .. => true
  | _ => false
def Ent.row : Ent → Bool
  | .tip _ | .vec .. => true
  | _ => false
theorem EntOk.keep {w w' : World} {S S' : Nat → Nat → Prop} {ρ ρ' : Ro} {n n' i : Nat} {e : Ent} (h : EntOk w S ρ n i e) (hk : Keeps w w' S S' ρ ρ' n n') (hi : i < n)
    (ht : ρ'.t i = ρ.t i) (hb : e.blk = true → w'.heap[ρ.b i]? = w.heap[ρ.b i]?)
    (hs : e.row = true → (ρ.t i).start < (ρ.t i).stop → ∀ c e f, w.heap[(ρ.t i).blk]? = some (.cells c e f) → ∃ c', w'.heap[(ρ.t i).blk]? = some (.cells c' e f) ∧ c'.size = c.size ∧ ∀ o, (ρ.t i).start ≤ o → o < (ρ.t i).stop → c'[o]? = c[o]?)
    (hf : ∀ t os, e = .fam t os → ρ'.g.n t = ρ.g.n t ∧ ∀ j, j < os.length → w'.heap[ρ.g.f t j]? = w.heap[ρ.g.f t j]?) :
    EntOk w' S' ρ' n' i e := by
  have hbb := hk.b i hi
  cases e with
  | var cs =>
    obtain ⟨vs, e, h1, h2⟩ := h
    exact ⟨vs, e, h1.imp fun _ _ h => h.keep hk, by rw [hbb, hb rfl]; exact h2⟩
  | mp es =>
    obtain ⟨ms, c, h1, h2, h3⟩ := h
    exact ⟨ms, c, by rw [hbb, hb rfl]; exact h1, h2.imp fun _ _ h => ⟨h.1.keep hk.zero, h.2.keep hk.zero⟩, h3⟩
  | lp ps asg body env k st pe =>
    obtain ⟨r, h1, h2, h3, h4, h5, h6, h7, h8⟩ := h
    exact ⟨r, by rw [hbb, hb rfl]; exact h1, h2, h3, h4, h5, h6, h7, fun t => (h8 t).keep hk⟩
  | dead => trivial
  | fam t os =>
    obtain ⟨h0, h1, h2⟩ := h
    obtain ⟨f1, f2⟩ := hf t os rfl
    refine ⟨h0, by rw [f1]; exact h1, fun j x hj => ?_⟩
    obtain ⟨vs, e, g1, g2⟩ := h2 j x hj
    have hj' := lt_len hj
    exact ⟨vs, e, g1.imp fun _ _ h => h.keep hk.zero, by rw [hk.g.f t j (h1 ▸ hj'), f2 j hj']; exact g2⟩
  | tip pos =>
    obtain ⟨h1, h2, h3⟩ := h
    refine ⟨by rw [ht]; exact h1, by rw [ht]; exact h2, fun hlt => ?_⟩
    rw [ht] at hlt ⊢
    obtain ⟨c, e, f, g1, g2, g3⟩ := h3 hlt
    obtain ⟨c', k1, k2, _⟩ := hs rfl hlt c e f g1
    refine ⟨c', e, f, k1, by omega, fun o ho ho' => ?_⟩
    have := g3 o ho ho'
    unfold World.frozen? at this ⊢
    simp only [g1] at this
    simp only [k1]
    exact this
  | vec s xs =>
    obtain ⟨h1, h2, h3, h4⟩ := h
    refine ⟨by rw [ht]; exact h1, by rw [ht]; exact h2, fun hlt => ?_, fun k x hx => ?_⟩
    · rw [ht] at hlt ⊢
      obtain ⟨c, e, f, g1, g2, g3⟩ := h3 hlt
      obtain ⟨c', k1, k2, _⟩ := hs rfl hlt c e f g1
      refine ⟨c', e, f, k1, by omega, fun o ho ho' => ?_⟩
      have := g3 o ho ho'
      unfold World.frozen? at this ⊢
      simp only [g1] at this
      simp only [k1]
      exact this
    · obtain ⟨vs, g1, g2, g3⟩ := h4 k x hx
      refine ⟨vs, g1.imp fun _ _ h => h.keep hk.zero, g2, fun j u hu => ?_⟩
      obtain ⟨g4, g5⟩ := g3 j u hu
      refine ⟨?_, g5⟩
      rw [ht]
      have hkl := lt_len hx
      have hjl := lt_len hu
      rw [g2] at hjl
      have hin : k * s + j < xs.length * s := by
        calc k * s + j < k * s + s := by omega
          _ = (k + 1) * s := by rw [Nat.succ_mul]
          _ ≤ xs.length * s := Nat.mul_le_mul_right s hkl
      obtain ⟨c, e, f, q1, q2, q3⟩ := h3 (by omega)
      obtain ⟨c', k1, k2, k3⟩ := hs rfl (by omega) c e f q1
      rw [cellAt_cells q1] at g4
      rw [cellAt_cells k1, k3 _ (by omega) (by omega)]
      exact g4
theorem get_push {σ : List Ent} {e f : Ent} {i : Nat} (h : (σ ++ [e])[i]? = some f) : i < σ.length ∧ σ[i]? = some f ∨ i = σ.length ∧ f = e := by
  rcases Nat.lt_trichotomy i σ.length with hl | hl | hl
  · exact .inl ⟨hl, by rwa [List.getElem?_append_left hl] at h⟩
  · subst hl; simp at h; exact .inr ⟨rfl, h.symm⟩
  · rw [List.getElem?_eq_none (by simp; omega)] at h; simp at h
theorem lt_of_get {α : Type} {l : List α} {i : Nat} {x : α} (h : l[i]? = some x) : i < l.length := by
  rcases Nat.lt_or_ge i l.length with h' | h'
  · exact h'
  · simp [List.getElem?_eq_none h'] at h
theorem fam_apart {ρ : Ro} {σ : List Ent} (h : Rel ρ σ w) {i id t : Nat} {os : List AV} {e : Ent} {b o : Nat} (hi : σ[i]? = some (.fam t os)) (hid : σ[id]? = some e) (hne : i ≠ id) (ho : OwnE ρ id b o e) : ∀ j, j < os.length → ρ.g.f t j ≠ b :=
  fun j hj he => hne (h.disj i id _ _ b o hi hid ⟨j, hj, he⟩ ho)
theorem fam_cells {ρ : Ro} {σ : List Ent} (h : Rel ρ σ w) {i t : Nat} {os : List AV} (hi : σ[i]? = some (.fam t os)) : ∀ j, j < os.length → ∃ vs e, w.heap[ρ.g.f t j]? = some (.cells vs e (0, 0)) := fun j hj => by
  obtain ⟨_, _, h2⟩ := h.ents i _ hi
  obtain ⟨vs, e', _, h4⟩ := h2 j os[j] (List.getElem?_eq_getElem hj)
  exact ⟨_, _, h4⟩
theorem Rel.push {ρ : Ro} {σ : List Ent} (h : Rel ρ σ w) {ρ' : Ro} {w' : World} {e : Ent}
    (hb : ∀ i, i < σ.length → ρ'.b i = ρ.b i) (ht : ∀ i, i < σ.length → ρ'.t i = ρ.t i) (hx : ρ'.x = ρ.x) (hm : ρ'.m = ρ.m)
    (hos : w'.os = w.os) (htape : w'.tape = w.tape) (hout : w'.output = w.output)
    (hh : ∀ (k : Nat) ob, w.heap[k]? = some ob → w'.heap[k]? = some ob) (hsz : w.heap.size ≤ w'.heap.size)
    (hnew : ∀ b o, OwnE ρ' σ.length b o e → w.heap.size ≤ b)
    (hok : Stp ρ σ w ρ' (σ ++ [e]) w' → EntOk w' (Stay ρ' (σ ++ [e])) ρ' (σ ++ [e]).length σ.length e)
    (hg : ρ'.g = ρ.g := by first | rfl | assumption) (hnf : ∀ t os, e = .fam t os → HasFam σ t := by intro _ _ h; cases h) :
    Stp ρ σ w ρ' (σ ++ [e]) w' ∧ Rel ρ' (σ ++ [e]) w' := by
  have hown : ∀ b o, b < w.heap.size → Own ρ' (σ ++ [e]) b o → Own ρ σ b o := by
    rintro b o hlt ⟨i, f, hi, ho⟩
    rcases get_push hi with ⟨hl, hi⟩ | ⟨rfl, rfl⟩
    · exact ⟨i, f, hi, (OwnE.congr (hb i hl) (ht i hl)).1 ho⟩
    · have := hnew _ _ ho; omega
  have hst : Stp ρ σ w ρ' (σ ++ [e]) w' := ⟨hos, htape, hout, hsz, fun b ob hb => ⟨ob, hh b ob hb, okBlk.refl _ _⟩, hown, by simp, hb, fun i hi => .inl (ht i hi), hx, hm, by rw [hg]; exact .push hnf⟩
  refine ⟨hst, fun i f hi => ?_, fun i j f g b o hi hj hf hg => ?_, fun b o ho => ?_, fun b o ho hxo => ?_, hst.gok h⟩
  · rcases get_push hi with ⟨hl, hi⟩ | ⟨rfl, rfl⟩
    · refine (h.ents i f hi).keep hst.keeps hl (ht i hl) (fun hn => ?_) (fun _ _ c e f hc => ⟨c, hh _ _ hc, rfl, fun _ _ _ => rfl⟩) (fun t os he => ⟨by rw [hg], fun j hj => ?_⟩)
      rotate_left
      · subst he
        obtain ⟨_, _, h2⟩ := h.ents i _ hi
        obtain ⟨vs, e', _, h4⟩ := h2 j os[j] (List.getElem?_eq_getElem hj)
        rw [hh _ _ h4, h4]
      cases f with
      | var cs => obtain ⟨vs, e, _, h2⟩ := h.ents i _ hi; rw [hh _ _ h2, h2]
      | mp es => obtain ⟨ms, c, h1, _⟩ := h.ents i _ hi; rw [hh _ _ h1, h1]
      | lp ps asg body env k st pe => obtain ⟨r, h1, _⟩ := h.ents i _ hi; rw [hh _ _ h1, h1]
      | _ => simp [Ent.blk] at hn
    · exact hok hst
  · have old : ∀ i f, (σ ++ [e])[i]? = some f → i < σ.length → σ[i]? = some f := fun i f hi hl => by rwa [List.getElem?_append_left hl] at hi
    have hlt : ∀ i f, σ[i]? = some f → OwnE ρ i b o f → b < w.heap.size := by
      intro i f hi hf
      have hk := h.ents i f hi
      cases f with
      | var cs => obtain ⟨vs, e, _, h2⟩ := hk; simp only [OwnE] at hf; subst hf; exact lt_of_heap h2
      | mp es => obtain ⟨ms, c, h1, _⟩ := hk; simp only [OwnE] at hf; subst hf; exact lt_of_heap h1
      | lp ps asg body env k st pe => obtain ⟨r, h1, _⟩ := hk; simp only [OwnE] at hf; subst hf; exact lt_of_heap h1
      | tip pos => obtain ⟨_, _, h3⟩ := hk; obtain ⟨rfl, h4, h5⟩ := hf; obtain ⟨c, e, f, g1, _⟩ := h3 (by omega); exact lt_of_heap g1
      | vec s xs => obtain ⟨_, _, h3, _⟩ := hk; obtain ⟨rfl, h4, h5⟩ := hf; obtain ⟨c, e, f, g1, _⟩ := h3 (by omega); exact lt_of_heap g1
      | fam t os => obtain ⟨_, _, h2⟩ := hk; obtain ⟨j, hj, rfl⟩ := hf; obtain ⟨vs, e', _, h4⟩ := h2 j os[j] (List.getElem?_eq_getElem hj); exact lt_of_heap h4
      | dead => exact hf.elim
    rcases get_push hi with ⟨hl, hi'⟩ | ⟨rfl, rfl⟩ <;> rcases get_push hj with ⟨hl', hj'⟩ | ⟨rfl, rfl⟩
    · exact h.disj i j f g b o hi' hj' ((OwnE.congr (hb i hl) (ht i hl)).1 hf) ((OwnE.congr (hb j hl') (ht j hl')).1 hg)
    · have := hlt i f hi' ((OwnE.congr (hb i hl) (ht i hl)).1 hf); have := hnew _ _ hg; omega
    · have := hlt j g hj' ((OwnE.congr (hb j hl') (ht j hl')).1 hg); have := hnew _ _ hf; omega
    · rfl
  · rw [hx] at ho; have := h.xlt b o ho; omega
  · rw [hx] at hxo
    exact h.xown b o (hown b o (h.xlt b o hxo) ho) hxo
end
end Go.Pt
namespace Go.Pt
open Go
section
variable {P : Program} {w : World} {ρ : Ro} {σ : List Ent}
theorem rel_same (h : Rel ρ σ w) {w' : World} (hh : w'.heap = w.heap) (hos : w'.os = w.os) (htape : w'.tape = w.tape) (hout : w'.output = w.output) : Stp ρ σ w ρ σ w' ∧ Rel ρ σ w' := by
  have hst : Stp ρ σ w ρ σ w' := ⟨hos, htape, hout, by rw [hh]; exact Nat.le_refl _, fun b ob hb => ⟨ob, by rw [hh]; exact hb, okBlk.refl _ _⟩, fun _ _ _ h => h, Nat.le_refl _, fun _ _ => rfl, fun _ _ => .inl rfl, rfl, rfl, .refl _ _⟩
  exact ⟨hst, fun i e hi => (h.ents i e hi).keep hst.keeps (lt_of_get hi) rfl (fun _ => by rw [hh]) (fun _ _ c e f hc => ⟨c, by rw [hh]; exact hc, rfl, fun _ _ _ => rfl⟩) (fun _ _ _ => ⟨rfl, fun _ _ => by rw [hh]⟩), h.disj, by rw [hh]; exact h.xlt, h.xown, hst.gok h⟩
theorem rel_drew (h : Rel ρ σ w) : Stp ρ σ w ρ σ w.drew ∧ Rel ρ σ w.drew := rel_same h rfl rfl rfl rfl
def Ro.add (ρ : Ro) (n b : Nat) : Ro := ⟨fun i => if i = n then b else ρ.b i, ρ.t, ρ.x, ρ.m, ρ.g⟩
theorem heap_alloc_old {o : Obj} {k : Nat} {ob : Obj} (h : w.heap[k]? = some ob) : (w.alloc o).heap[k]? = some ob := by
  have := lt_of_heap h
  show (w.heap.push o)[k]? = _
  rw [Array.getElem?_push, if_neg (by omega)]
  exact h
theorem heap_alloc_new {o : Obj} : (w.alloc o).heap[w.heap.size]? = some o := by
  show (w.heap.push o)[w.heap.size]? = _
  simp
theorem rel_var (h : Rel ρ σ w) {cs : List AV} {vs : List Value} (e : TypeId) (hv : All2 (Val w (Stay ρ σ) ρ σ.length) cs vs) :
    Stp ρ σ w (ρ.add σ.length w.heap.size) (σ ++ [.var cs]) (w.alloc (.cells vs.toArray e)) ∧ Rel (ρ.add σ.length w.heap.size) (σ ++ [.var cs]) (w.alloc (.cells vs.toArray e)) := by
  refine h.push (fun i hi => by simp [Ro.add]; omega) (fun _ _ => rfl) rfl rfl rfl rfl rfl (fun k ob hk => heap_alloc_old hk) (by rw [World.size_alloc]; omega) (fun b o ho => ?_) (fun hst => ?_)
  · simp only [OwnE, Ro.add, if_true] at ho; omega
  · exact ⟨vs, e, hv.imp fun _ _ h => h.step hst, by simp only [Ro.add, if_true]; exact heap_alloc_new⟩
theorem heap_setRow_other {g k : Nat} {c : Array Value} (h : k ≠ g) : (w.setRow g c).heap[k]? = w.heap[k]? := by
  simp only [World.setRow, Array.getElem?_modify]
  rw [if_neg (by omega)]
theorem get_set {σ : List Ent} {id i : Nat} {e f : Ent} (h : (setN σ id e)[i]? = some f) : i = id ∧ f = e ∨ i ≠ id ∧ σ[i]? = some f := by
  rw [setN_eq, List.getElem?_set] at h
  split at h
  · rename_i hi
    split at h
    · exact .inl ⟨hi.symm, by simpa using h.symm⟩
    · simp at h
  · exact .inr ⟨fun e => by simp_all, h⟩
theorem rel_store (h : Rel ρ σ w) {id : Nat} {cs cs' : List AV} {vs vs' : List Value} {e : TypeId} (hid : σ[id]? = some (.var cs))
    (hb : w.heap[ρ.b id]? = some (.cells vs.toArray e (0, 0))) (hl : vs'.length = vs.length) (hv : All2 (Val w (Stay ρ σ) ρ σ.length) cs' vs') :
    Stp ρ σ w ρ (setN σ id (.var cs')) (w.setRow (ρ.b id) vs'.toArray) ∧ Rel ρ (setN σ id (.var cs')) (w.setRow (ρ.b id) vs'.toArray) := by
  have hheap : (w.setRow (ρ.b id) vs'.toArray).heap[ρ.b id]? = some (.cells vs'.toArray e (0, 0)) := by
    simp [World.setRow, Array.getElem?_modify, hb]
  have hlen : (setN σ id (.var cs')).length = σ.length := by rw [setN_eq]; simp
  have hown : ∀ b o, Own ρ (setN σ id (.var cs')) b o ↔ Own ρ σ b o := by
    intro b o
    constructor
    · rintro ⟨i, f, hi, ho⟩
      rcases get_set hi with ⟨rfl, rfl⟩ | ⟨hne, hi⟩
      · exact ⟨i, _, hid, ho⟩
      · exact ⟨i, f, hi, ho⟩
    · rintro ⟨i, f, hi, ho⟩
      by_cases hne : i = id
      · subst hne
        rw [hid] at hi; simp at hi; subst hi
        exact ⟨i, .var cs', by rw [setN_eq]; simp [lt_of_get hid], ho⟩
      · exact ⟨i, f, by rw [setN_eq, List.getElem?_set]; simp [Ne.symm hne, hi], ho⟩
  have hst : Stp ρ σ w ρ (setN σ id (.var cs')) (w.setRow (ρ.b id) vs'.toArray) := by
    refine ⟨rfl, rfl, rfl, by simp [World.setRow], fun b ob hob => ?_, fun b o _ ho => (hown b o).1 ho, by omega, fun _ _ => rfl, fun _ _ => .inl rfl, rfl, rfl, .set (fun _ _ h => by cases h)⟩
    by_cases hbb : b = ρ.b id
    · subst hbb
      rw [hb] at hob; simp at hob; subst hob
      exact ⟨_, hheap, _, rfl, by simp [hl], fun o ho => absurd ⟨id, _, hid, rfl⟩ ho⟩
    · exact ⟨ob, by rw [heap_setRow_other hbb]; exact hob, okBlk.refl _ _⟩
  refine ⟨hst, fun i f hi => ?_, fun i j f g b o hi hj hf hg => ?_, fun b o ho => ?_, fun b o ho => h.xown b o ((hown b o).1 ho), hst.gok h⟩
  · rcases get_set hi with ⟨rfl, rfl⟩ | ⟨hne, hi⟩
    · exact ⟨vs', e, hv.imp fun _ _ h => h.step hst, hheap⟩
    · refine (h.ents i f hi).keep hst.keeps (lt_of_get hi) rfl (fun hk => ?_) (fun hp hlt c e' f' hc => ?_) (fun t os he => ⟨rfl, fun j hj => by subst he; exact heap_setRow_other (fam_apart (o := 0) h hi hid hne rfl j hj)⟩)
      · refine heap_setRow_other fun e => hne ?_
        refine h.disj i id f _ (ρ.b id) 0 hi hid ?_ rfl
        cases f <;> simp_all [Ent.blk, OwnE]
      · refine ⟨c, ?_, rfl, fun _ _ _ => rfl⟩
        rw [heap_setRow_other fun e => hne ?_]
        · exact hc
        · refine h.disj i id f _ (ρ.b id) (ρ.t i).start hi hid ?_ rfl
          cases f <;> first | (simp [Ent.row] at hp; done) | exact ⟨e, Nat.le_refl _, hlt⟩
  · have back : ∀ i f, (setN σ id (.var cs'))[i]? = some f → OwnE ρ i b o f → ∃ f', σ[i]? = some f' ∧ OwnE ρ i b o f' := by
      intro i f hi ho
      rcases get_set hi with ⟨rfl, rfl⟩ | ⟨hne, hi⟩
      · exact ⟨_, hid, ho⟩
      · exact ⟨f, hi, ho⟩
    obtain ⟨f', hi', hf'⟩ := back i f hi hf
    obtain ⟨g', hj', hg'⟩ := back j g hj hg
    exact h.disj i j f' g' b o hi' hj' hf' hg'
  · have := h.xlt b o ho; simpa [World.setRow] using this
def Marks (m : Nat) (w : World) : List Deferred → Prop
  | [] => m ≤ w.heap.size
  | d :: ds => (∃ D, d = { target := .collected D, args := #[] } ∧ m ≤ D ∧ w.heap[D]? = some (.deferred (some [])) ∧ ∀ d' ∈ ds, d' ≠ { target := .collected D, args := #[] }) ∧ Marks m w ds
theorem not_own {D : Nat} {q : Option (List Deferred)} (hr : Rel ρ σ w) (h : w.heap[D]? = some (.deferred q)) (o : Nat) : ¬ Own ρ σ D o := by
  rintro ⟨i, e, hi, ho⟩
  have hk := hr.ents i e hi
  cases e with
  | var cs => obtain ⟨vs, e, _, h2⟩ := hk; simp only [OwnE] at ho; subst ho; rw [h] at h2; simp at h2
  | mp es => obtain ⟨ms, c, h1, _⟩ := hk; simp only [OwnE] at ho; subst ho; rw [h] at h1; simp at h1
  | lp ps asg body env k st pe => obtain ⟨r, h1, _⟩ := hk; simp only [OwnE] at ho; subst ho; rw [h] at h1; simp at h1
  | tip pos => obtain ⟨_, _, h3⟩ := hk; obtain ⟨rfl, h4, h5⟩ := ho; obtain ⟨c, e, f, g1, _⟩ := h3 (by omega); rw [h] at g1; simp at g1
  | vec s xs => obtain ⟨_, _, h3, _⟩ := hk; obtain ⟨rfl, h4, h5⟩ := ho; obtain ⟨c, e, f, g1, _⟩ := h3 (by omega); rw [h] at g1; simp at g1
  | fam t os => obtain ⟨j, hj, rfl⟩ := ho; obtain ⟨vs, e', h4⟩ := fam_cells hr hi j hj; rw [h] at h4; simp at h4
  | dead => exact ho.elim
theorem Marks.step {n₀ : Nat} {ρ' : Ro} {σ' : List Ent} {w' : World} {m : Nat} (hr : Rel ρ σ w) (hst : StpN n₀ ρ σ w ρ' σ' w') : ∀ {ds : List Deferred}, Marks m w ds → Marks m w' ds
  | [], h => Nat.le_trans h hst.size
  | d :: ds, ⟨⟨D, h1, h2, h3, h4⟩, h5⟩ => by
    obtain ⟨ob', k1, k2⟩ := hst.frm D _ h3
    refine ⟨⟨D, h1, h2, ?_, h4⟩, Marks.step hr hst h5⟩
    rcases k2 with k2 | k2
    · exact absurd k2 (not_own hr h3 0)
    · rw [k1, k2]
abbrev fen (r : Option Nat) : Fence := { Fence.wide with round := r }
def IsRound (r : Option Nat) (w : World) : Prop := ∀ l, r = some l → ∃ q : Loop, w.heap[l]? = some (.loop q)
theorem IsRound.step {n₀ : Nat} {ρ' : Ro} {σ' : List Ent} {w' : World} {r : Option Nat} (hst : StpN n₀ ρ σ w ρ' σ' w') (h : IsRound r w) : IsRound r w' := by
  intro l hl
  obtain ⟨q, hq⟩ := h l hl
  obtain ⟨ob', k1, q', rfl, _⟩ := hst.frm l _ hq
  exact ⟨q', k1⟩
structure RelS (ρ : Ro) (s : St) (a : Act) (w : World) : Prop where
  defers : Marks ρ.m w a.defers
  size : a.tmps.size = s.n
  rel : Rel ρ s.hp w
  vals : ∀ t, Val w (Stay ρ s.hp) ρ s.hp.length (look s.env t) (a.tmps.getD t undef)
def Turn (n₀ : Nat) (s t : St) : Prop := ∀ ρ a w, RelS ρ s a w → ∃ ρ', RelS ρ' t a w ∧ StpN n₀ ρ s.hp w ρ' t.hp w
def exOk (w : World) (ρ : Ro) (s : St) : Ex → Exit → Prop
  | .normal, e => e = .normal
  | .exit i, e => e = .exit i
  | .ret, e => e = .ret
  | .pan x, e => ∃ v, e = .panic [{ v, recovered := false }] ∧ Val w (Stay ρ s.hp) ρ s.hp.length x v
def Post (n₀ : Nat) (ρ : Ro) (σ : List Ent) (w : World) (Q : Ex → St → Prop) : Exit → Act → World → Prop := fun e a' w' =>
  ∃ x s' ρ', Q x s' ∧ exOk w' ρ' s' x e ∧ RelS ρ' s' a' w' ∧ StpN n₀ ρ σ w ρ' s'.hp w'
def CodeA (P : Program) (n₀ : Nat) (c : Code) (Q : Ex → St → Prop) (s : St) : Prop := ∀ r ρ a w, n₀ ≤ s.hp.length → IsRound r w → RelS ρ s a w → c.wpIn (fen r) 0 P (Post n₀ ρ s.hp w Q) a w
def HasBody (P : Program) (f : FuncId) : Prop := ∃ fn c, P.funcs[f]? = some fn ∧ fn.body = some c ∧ (fn.name == "runtime.NumGoroutine") = false
def CallA (P : Program) (f : FuncId) (args : List AV) (σ : List Ent) (K E : AV → List Ent → Prop) : Prop :=
  HasBody P f ∧ ∀ ρ w (vs : List Value), Rel ρ σ w → All2 (Val w (Stay ρ σ) ρ σ.length) args vs →
    Calls P f vs.toArray w fun e w' => ∃ ρ' σ', Stp ρ σ w ρ' σ' w' ∧ Rel ρ' σ' w' ∧ match e with
      | .returned v => ∃ r, K r σ' ∧ Val w' (Stay ρ' σ') ρ' σ'.length r v
      | .panicked ch => ∃ r v, ch = [{ v, recovered := false }] ∧ E r σ' ∧ Val w' (Stay ρ' σ') ρ' σ'.length r v
      | .outgrown => False
def YieldA (P : Program) (i : Nat) (args : List AV) (σ : List Ent) (K : AV → List Ent → Prop) : Prop :=
  ∀ ρ w (vs : List Value), Rel ρ σ w → All2 (Val w (Stay ρ σ) ρ σ.length) args vs →
    ∃ fn tmps asg body, (Instr.yield (ρ.b i) vs.toArray).run P w = .ok (.round (ρ.b i) fn tmps asg body) w ∧
      RoundIn Fence.wide 0 P (ρ.b i) fn tmps asg body w fun e w' => ∃ ρ' σ', Stp ρ σ w ρ' σ' w' ∧ Rel ρ' σ' w' ∧ match e with
        | .returned v => ∃ r, K r σ' ∧ Val w' (Stay ρ' σ') ρ' σ'.length r v
        | _ => False
def bits (p : BinOp) (k : IntKind) (x y : Int) : Int :=
  let a := BitVec.ofInt k.bits x
  let b := BitVec.ofInt k.bits y
  match p with
  | .and => k.wrap ((a &&& b).toNat : Int)
  | .or => k.wrap ((a ||| b).toNat : Int)
  | .xor => k.wrap ((a ^^^ b).toNat : Int)
  | _ => k.wrap ((a &&& ~~~b).toNat : Int)
def keqC (x y : AV) : Bool :=
  match x, y with
  | .int _ a, .int _ b => a == b
  | .str a, .str b => a == b
  | x, y => match x.tell, y.tell with
    | some a, some b => a == b
    | _, _ => false
def keqL : List AV → List AV → Bool
  | [], [] => true
  | x :: xs, y :: ys => keqC x y && keqL xs ys
  | _, _ => false
def keq (x y : AV) : Bool := keqL x.cells y.cells
def mput : List (AV × AV) → AV → AV → List (AV × AV)
  | [], k, v => [(k, v)]
  | x :: es, k, v => if keq k x.1 then (k, v) :: es else x :: mput es k v
def mfind : List (AV × AV) → AV → Option AV
  | [], _ => none
  | x :: es, k => if keq k x.1 then some x.2 else mfind es k
def mdel : List (AV × AV) → AV → List (AV × AV)
  | [], _ => []
  | x :: es, k => if keq k x.1 then es else x :: mdel es k
def stdOps : Ops where
  ar p k x y := match p with
    | .add => k.wrap (x + y)
    | .sub => k.wrap (x - y)
    | .mul => k.wrap (x * y)
    | .quo => k.wrap (x.tdiv y)
    | .rem => x.tmod y
    | p => bits p k x y
  sh p k x y := match p with
    | .shl => k.wrap (x * 2 ^ (min y.toNat k.bits))
    | _ => x.fdiv (2 ^ (min y.toNat k.bits))
  cmp p x y := match p with
    | .eql => x == y
    | .neq => x != y
    | .lss => decide (x < y)
    | .leq => decide (x ≤ y)
    | .gtr => decide (x > y)
    | _ => decide (x ≥ y)
  seq x y := x == y
  scmp p x y := match p with
    | .lss => Op.bytesLess x.toList y.toList
    | .leq => Op.bytesLess x.toList y.toList || x.toList == y.toList
    | .gtr => !(Op.bytesLess x.toList y.toList || x.toList == y.toList)
    | _ => !Op.bytesLess x.toList y.toList
  cat x y := x ++ y
  wrap k n := k.wrap n
  neg k n := k.wrap (0 - n)
  com k n := bits .xor k (if k.signed then -1 else k.max) n
  mx x y := if y > x then y else x
  mn x y := if y < x then y else x
  band a b := a && b
  bnot a := !a
  pick c a b := if c then a else b
  same a b := a == b
  nat n := n
  len l := l.length
  get l i := l[i.toNat]?
  apnd l m := l ++ m
  pos l m := l.length + m.length
  padd n m := n + m.length
  room l m b := (l.length + m.length) * b ≤ 2 ^ 47
  slen b := b.size
  byte b i := b.data.toList[i.toNat]?
  bytes b := bytesOf b
  inb i n := 0 ≤ i ∧ i < n
  nz b := b ≠ 0
  nn b := 0 ≤ b
  mks n m b := n = m ∧ 0 ≤ n ∧ n * b ≤ 2 ^ 47
  le a b := a ≤ b
  sub xs l h := (xs.take h.toNat).drop l.toNat
  drop xs l := xs.drop l.toNat
  ssub b l h := b.extract l.toNat h.toNat
  mfind := mfind
  mput := mput
  mdel := mdel
  mok agg lv es := ∀ x ∈ es, keyOk agg lv x.1 = true
  sum a b := a + b
  dif a b := a - b
  upd xs i v := xs.set i.toNat v
  lay xs i ys := xs.take i.toNat ++ ys ++ xs.drop (i.toNat + ys.length)
  rep n v := List.replicate n.toNat v
  emp xs := xs = []
  is a b := a = b
  isb xs := ∀ x ∈ xs, ∃ b : UInt8, x = .int .u8 b.toNat
  ofb xs := ⟨(xs.map byteV).toArray⟩
  mlen es := es.length
def PureA (P : Program) (f : FuncId) (args : List AV) (r : AV) : Prop := ∀ (σ : List Ent) (K E : AV → List Ent → Prop), K r σ → CallA P f args σ K E
def NewA (P : Program) (f : FuncId) (args : List AV) (r : AV) (pos : Nat) : Prop := ∀ (σ : List Ent) (K E : AV → List Ent → Prop), K (ren (up [] (lenN σ)) 9 r) (snoc σ (.tip pos)) → CallA P f args σ K E
def std (P : Program) (n₀ : Nat) : Jd := ⟨stdOps, CallA P, CodeA P n₀, fun f args K => ∃ r, PureA P f args r ∧ K r, YieldA P, fun f => f (), fun f args K => ∃ r pos, NewA P f args r pos ∧ K r pos⟩
theorem std_hold {P : Program} {n₀ : Nat} {f : Unit → Prop} : (std P n₀).hold f = f () := rfl
theorem hold_go {P : Program} {n₀ : Nat} {J : Jd} (hJ : J = std P n₀) {f : Unit → Prop} (h : f ()) : J.hold f := by subst hJ; exact h
theorem binB_A {P : Program} {n₀ : Nat} {T : Ty} {p : BinOp} {x y : AV} {one : Bool} {K : AV → Prop} (h : binB (std P n₀) T p x y one K) : binA (std P n₀) T p x y K := by
  cases one with
  | false => exact h
  | true =>
    cases p <;> first
      | exact h
      | (simp only [binB, bitA] at h
         simp only [binA, arA]
         split at h
         · split at h
           · split at h
             · rename_i hk
               simp only [hk]
               rcases h.1 with h1 | h1
               · have := h.2.1 h1; rw [h1]; exact this
               · have := h.2.2 h1; rw [h1]; exact this
             · exact h.elim
           · exact h.elim
         · exact h.elim)
structure Goes (ρ : Ro) (s : St) (a : Act) (w : World) (dst : Option Nat) (K : AV → List Ent → Prop) (next : Act → World → Prop) : Prop where
  go : ∀ v u ρ' σ' w', K v σ' → Val w' (Stay ρ' σ') ρ' σ'.length v u → Stp ρ s.hp w ρ' σ' w' → Rel ρ' σ' w' → next (a.put dst u) w'
structure Dies (ρ : Ro) (s : St) (a : Act) (w : World) (E : AV → List Ent → Prop) (Q : Exit → Act → World → Prop) : Prop where
  die : ∀ x v ρ' σ' w', E x σ' → Val w' (Stay ρ' σ') ρ' σ'.length x v → Stp ρ s.hp w ρ' σ' w' → Rel ρ' σ' w' → Q (.panic [{ v, recovered := false }]) a w'
theorem ev_val {s : St} {a : Act} (h : RelS ρ s a w) (x : Operand) : Val w (Stay ρ s.hp) ρ s.hp.length (s.ev x) (a.eval x) := by
  cases x with
  | tmp t => exact h.vals t
  | const v => exact lit_val v
  | func f => exact ⟨2, [], rfl, trivial⟩
  | global g => exact Val.junk
theorem evs_val {s : St} {a : Act} (h : RelS ρ s a w) : ∀ l : List Operand, All2 (Val w (Stay ρ s.hp) ρ s.hp.length) (evs s l) (l.map a.eval)
  | [] => trivial
  | x :: l => ⟨ev_val h x, evs_val h l⟩
theorem evs_eq (s : St) : ∀ l : List Operand, evs s l = l.map s.ev
  | [] => rfl
  | _ :: l => by simp [evs, evs_eq s l]
theorem val_int {S : Nat → Nat → Prop} {n : Nat} {k : IntKind} {x : Int} {v : Value} (h : Val w S ρ n (.int k x) v) : v = .int k x := by
  obtain ⟨d, h⟩ := h; cases d <;> simp [Cz] at h; exact h
theorem val_bool {S : Nat → Nat → Prop} {n : Nat} {b : Bool} {v : Value} (h : Val w S ρ n (.bool b) v) : v = .bool b := by
  obtain ⟨d, h⟩ := h; cases d <;> simp [Cz] at h; exact h
theorem val_bl {S : Nat → Nat → Prop} {n : Nat} {b : Bool} {v : Value} (h : Val w S ρ n (.bl b) v) : v = .bool b := by
  obtain ⟨d, h⟩ := h; cases d <;> simp [Cz] at h; exact h
theorem val_str {S : Nat → Nat → Prop} {n : Nat} {b : ByteArray} {v : Value} (h : Val w S ρ n (.str b) v) : v = .string b := by
  obtain ⟨d, h⟩ := h; cases d <;> simp [Cz] at h; exact h
theorem val_ptr {S : Nat → Nat → Prop} {n id off : Nat} {v : Value} (h : Val w S ρ n (.ptr id off) v) : id < n ∧ v = .pointer (some ⟨ρ.b id, off, none⟩) := by
  obtain ⟨d, h⟩ := h; cases d <;> simp [Cz] at h; exact h
theorem val_fp {S : Nat → Nat → Prop} {n t off : Nat} {k : Int} {v : Value} (h : Val w S ρ n (.fp t k off) v) : ∃ j : Nat, k = j ∧ j < ρ.g.n t ∧ v = .pointer (some ⟨ρ.g.f t j, off, none⟩) := by
  obtain ⟨d, h⟩ := h; cases d <;> first | exact h.elim | exact h
theorem val_yld {S : Nat → Nat → Prop} {n id : Nat} {v : Value} (h : Val w S ρ n (.yld id) v) : id < n ∧ v = .func (.yield (ρ.b id)) #[] #[] := by
  obtain ⟨d, h⟩ := h; cases d <;> simp [Cz] at h; exact h
theorem val_nils {S : Nat → Nat → Prop} {n : Nat} {v : Value} (h : Val w S ρ n .nils v) : v = .slice none 0 0 := by
  obtain ⟨d, h⟩ := h; cases d <;> simp [Cz] at h; exact h
theorem val_agg {S : Nat → Nat → Prop} {n : Nat} {cs : List AV} {v : Value} (h : Val w S ρ n (.agg cs) v) : ∃ vs : List Value, v = .agg vs.toArray ∧ All2 (Val w S ρ n) cs vs := by
  obtain ⟨d, h⟩ := h; cases d with
  | zero => exact h.elim
  | succ d => obtain ⟨vs, e, h⟩ := h; exact ⟨vs, e, vals_of h⟩
theorem val_tup {S : Nat → Nat → Prop} {n : Nat} {cs : List AV} {v : Value} (h : Val w S ρ n (.tup cs) v) : ∃ vs : List Value, v = .tuple vs.toArray ∧ All2 (Val w S ρ n) cs vs := by
  obtain ⟨d, h⟩ := h; cases d with
  | zero => exact h.elim
  | succ d => obtain ⟨vs, e, h⟩ := h; exact ⟨vs, e, vals_of h⟩
theorem val_func {S : Nat → Nat → Prop} {n f : Nat} {cs : List AV} {v : Value} (h : Val w S ρ n (.func f cs) v) : ∃ vs : List Value, v = .func (.func f) #[] vs.toArray ∧ All2 (Val w S ρ n) cs vs := by
  obtain ⟨d, h⟩ := h; cases d with
  | zero => exact h.elim
  | succ d => obtain ⟨vs, e, h⟩ := h; exact ⟨vs, e, vals_of h⟩
theorem val_cptr {S : Nat → Nat → Prop} {n off : Nat} {cs : List AV} {v : Value} (h : Val w S ρ n (.cptr cs off) v) : ∃ b o vs, v = .pointer (some ⟨b, o + off, none⟩) ∧ All2 (Val w S ρ 0) cs vs ∧ Reads w S b o vs := by
  obtain ⟨d, h⟩ := h; cases d with
  | zero => exact h.elim
  | succ d => obtain ⟨b, o, vs, e, h, hr⟩ := h; exact ⟨b, o, vs, e, vals_of h, hr⟩
theorem val_iface {S : Nat → Nat → Prop} {n : Nat} {t : TypeId} {x : AV} {v : Value} (h : Val w S ρ n (.iface t x) v) : ∃ u, v = .iface t u ∧ Val w S ρ n x u := by
  obtain ⟨d, h⟩ := h; cases d with
  | zero => exact h.elim
  | succ d => obtain ⟨u, e, h⟩ := h; exact ⟨u, e, d, h⟩
theorem val_cond {S : Nat → Nat → Prop} {n : Nat} {g : Bool} {x : AV} {v : Value} (h : Val w S ρ n (.cond g x) v) : (g = true → Val w S ρ n x v) ∧ (g = false → v = undef) := by
  obtain ⟨d, h⟩ := h; cases d with
  | zero => exact h.elim
  | succ d => exact ⟨fun e => ⟨d, h.1 e⟩, h.2⟩
theorem val_sl {S : Nat → Nat → Prop} {n s : Nat} {xs : List AV} {t : Tok} {v : Value} (h : Val w S ρ n (.sl s xs t) v) :
    ∃ ad len cap, v = .slice ad len cap ∧ len = xs.length ∧ len ≤ cap ∧ tokOk ρ n s len cap ad t ∧
      (xs ≠ [] → ∃ b o, ad = some ⟨b, o, none⟩ ∧ ∀ (i : Nat) x, xs[i]? = some x → ∃ vs, All2 (Val w S ρ 0) x.cells vs ∧ vs.length = s ∧ Reads w S b (o + i * s) vs) := by
  obtain ⟨d, h⟩ := h; cases d with
  | zero => exact h.elim
  | succ d =>
    obtain ⟨ad, len, cap, e, h1, h2, h3, h4⟩ := h
    refine ⟨ad, len, cap, e, h1, h2, h3, fun hx => ?_⟩
    obtain ⟨b, o, e, h⟩ := h4 hx
    exact ⟨b, o, e, fun i x hi => let ⟨vs, a, b, c⟩ := h i x hi; ⟨vs, vals_of a, b, c⟩⟩
end
end Go.Pt
