/- The steps of the heap: a new variable, a store into one, a draw; what a state means; what is to be shown of an operation. -/
import Derived.Test.YtilffanmaicakaaAmRun
import Derived.RangeFuncLeaves
import Derived.RangeFuncCalls
import Derived.OrdersIn
namespace Go.Pt
open Go

section
variable {P : Program} {w : World} {ρ : Ro} {σ : List Ent}

theorem rel_same (h : Rel ρ σ w) {w' : World} (hh : w'.heap = w.heap) (hos : w'.os = w.os) (htape : w'.tape = w.tape) (hout : w'.output = w.output) : Stp ρ σ w ρ σ w' ∧ Rel ρ σ w' := by
  have hst : Stp ρ σ w ρ σ w' := ⟨hos, htape, hout, by rw [hh]; exact Nat.le_refl _, fun b ob hb => ⟨ob, by rw [hh]; exact hb, okBlk.refl _ _⟩, fun _ _ _ h => h, Nat.le_refl _, fun _ _ => rfl, fun _ _ => .inl rfl, rfl, rfl⟩
  exact ⟨hst, fun i e hi => (h.ents i e hi).keep hst.keeps (lt_of_get hi) rfl (fun _ => by rw [hh]) (fun _ _ c e f hc => ⟨c, by rw [hh]; exact hc, rfl, fun _ _ _ => rfl⟩), h.disj, by rw [hh]; exact h.xlt, h.xown⟩

theorem rel_drew (h : Rel ρ σ w) : Stp ρ σ w ρ σ w.drew ∧ Rel ρ σ w.drew := rel_same h rfl rfl rfl rfl

def Ro.add (ρ : Ro) (n b : Nat) : Ro := ⟨fun i => if i = n then b else ρ.b i, ρ.t, ρ.x, ρ.m⟩

theorem heap_alloc_old {o : Obj} {k : Nat} {ob : Obj} (h : w.heap[k]? = some ob) : (w.alloc o).heap[k]? = some ob := by
  have := lt_of_heap h
  show (w.heap.push o)[k]? = _
  rw [Array.getElem?_push, if_neg (by omega)]
  exact h

theorem heap_alloc_new {o : Obj} : (w.alloc o).heap[w.heap.size]? = some o := by
  show (w.heap.push o)[w.heap.size]? = _
  simp

theorem rel_var (h : Rel ρ σ w) {cs : List AV} {vs : List Value} (e : TypeId) (hv : All2 (Val w (Stay ρ σ) ρ σ.length) cs vs) :
    Stp ρ σ w (ρ.add σ.length w.heap.size) (σ ++ [.var cs]) (w.alloc (.cells vs.toArray e)) ∧ Rel (ρ.add σ.length w.heap.size) (σ ++ [.var cs]) (w.alloc (.cells vs.toArray e)) := by
  refine h.push (fun i hi => by simp [Ro.add]; omega) (fun _ _ => rfl) rfl rfl rfl rfl rfl (fun k ob hk => heap_alloc_old hk) (by rw [World.size_alloc]; omega) (fun b o ho => ?_) (fun hst => ?_)
  · simp only [OwnE, Ro.add, if_true] at ho; omega
  · exact ⟨vs, e, hv.imp fun _ _ h => h.step hst, by simp only [Ro.add, if_true]; exact heap_alloc_new⟩

theorem heap_setRow_other {g k : Nat} {c : Array Value} (h : k ≠ g) : (w.setRow g c).heap[k]? = w.heap[k]? := by
  simp only [World.setRow, Array.getElem?_modify]
  rw [if_neg (by omega)]

theorem get_set {σ : List Ent} {id i : Nat} {e f : Ent} (h : (setN σ id e)[i]? = some f) : i = id ∧ f = e ∨ i ≠ id ∧ σ[i]? = some f := by
  rw [setN_eq, List.getElem?_set] at h
  split at h
  · rename_i hi
    split at h
    · exact .inl ⟨hi.symm, by simpa using h.symm⟩
    · simp at h
  · exact .inr ⟨fun e => by simp_all, h⟩

theorem rel_store (h : Rel ρ σ w) {id : Nat} {cs cs' : List AV} {vs vs' : List Value} {e : TypeId} (hid : σ[id]? = some (.var cs))
    (hb : w.heap[ρ.b id]? = some (.cells vs.toArray e (0, 0))) (hl : vs'.length = vs.length) (hv : All2 (Val w (Stay ρ σ) ρ σ.length) cs' vs') :
    Stp ρ σ w ρ (setN σ id (.var cs')) (w.setRow (ρ.b id) vs'.toArray) ∧ Rel ρ (setN σ id (.var cs')) (w.setRow (ρ.b id) vs'.toArray) := by
  have hheap : (w.setRow (ρ.b id) vs'.toArray).heap[ρ.b id]? = some (.cells vs'.toArray e (0, 0)) := by
    simp [World.setRow, Array.getElem?_modify, hb]
  have hlen : (setN σ id (.var cs')).length = σ.length := by rw [setN_eq]; simp
  have hown : ∀ b o, Own ρ (setN σ id (.var cs')) b o ↔ Own ρ σ b o := by
    intro b o
    constructor
    · rintro ⟨i, f, hi, ho⟩
      rcases get_set hi with ⟨rfl, rfl⟩ | ⟨hne, hi⟩
      · exact ⟨i, _, hid, ho⟩
      · exact ⟨i, f, hi, ho⟩
    · rintro ⟨i, f, hi, ho⟩
      by_cases hne : i = id
      · subst hne
        rw [hid] at hi; simp at hi; subst hi
        exact ⟨i, .var cs', by rw [setN_eq]; simp [lt_of_get hid], ho⟩
      · exact ⟨i, f, by rw [setN_eq, List.getElem?_set]; simp [Ne.symm hne, hi], ho⟩
  have hst : Stp ρ σ w ρ (setN σ id (.var cs')) (w.setRow (ρ.b id) vs'.toArray) := by
    refine ⟨rfl, rfl, rfl, by simp [World.setRow], fun b ob hob => ?_, fun b o _ ho => (hown b o).1 ho, by omega, fun _ _ => rfl, fun _ _ => .inl rfl, rfl, rfl⟩
    by_cases hbb : b = ρ.b id
    · subst hbb
      rw [hb] at hob; simp at hob; subst hob
      exact ⟨_, hheap, _, rfl, by simp [hl], fun o ho => absurd ⟨id, _, hid, rfl⟩ ho⟩
    · exact ⟨ob, by rw [heap_setRow_other hbb]; exact hob, okBlk.refl _ _⟩
  refine ⟨hst, fun i f hi => ?_, fun i j f g b o hi hj hf hg => ?_, fun b o ho => ?_, fun b o ho => h.xown b o ((hown b o).1 ho)⟩
  · rcases get_set hi with ⟨rfl, rfl⟩ | ⟨hne, hi⟩
    · exact ⟨vs', e, hv.imp fun _ _ h => h.step hst, hheap⟩
    · refine (h.ents i f hi).keep hst.keeps (lt_of_get hi) rfl (fun hk => ?_) (fun hp hlt c e' f' hc => ?_)
      · refine heap_setRow_other fun e => hne ?_
        refine h.disj i id f _ (ρ.b id) 0 hi hid ?_ rfl
        cases f <;> simp_all [Ent.blk, OwnE]
      · refine ⟨c, ?_, rfl, fun _ _ _ => rfl⟩
        rw [heap_setRow_other fun e => hne ?_]
        · exact hc
        · refine h.disj i id f _ (ρ.b id) (ρ.t i).start hi hid ?_ rfl
          cases f <;> first | (simp [Ent.row] at hp; done) | exact ⟨e, Nat.le_refl _, hlt⟩
  · have back : ∀ i f, (setN σ id (.var cs'))[i]? = some f → OwnE ρ i b o f → ∃ f', σ[i]? = some f' ∧ OwnE ρ i b o f' := by
      intro i f hi ho
      rcases get_set hi with ⟨rfl, rfl⟩ | ⟨hne, hi⟩
      · exact ⟨_, hid, ho⟩
      · exact ⟨f, hi, ho⟩
    obtain ⟨f', hi', hf'⟩ := back i f hi hf
    obtain ⟨g', hj', hg'⟩ := back j g hj hg
    exact h.disj i j f' g' b o hi' hj' hf' hg'
  · have := h.xlt b o ho; simpa [World.setRow] using this

/-- The deferred calls of an activation: marks of its loops over functions, each its own; nothing is deferred in them. -/
def Marks (m : Nat) (w : World) : List Deferred → Prop
  | [] => m ≤ w.heap.size
  | d :: ds => (∃ D, d = { target := .collected D, args := #[] } ∧ m ≤ D ∧ w.heap[D]? = some (.deferred (some [])) ∧ ∀ d' ∈ ds, d' ≠ { target := .collected D, args := #[] }) ∧ Marks m w ds

theorem not_own {D : Nat} {q : Option (List Deferred)} (hr : Rel ρ σ w) (h : w.heap[D]? = some (.deferred q)) (o : Nat) : ¬ Own ρ σ D o := by
  rintro ⟨i, e, hi, ho⟩
  have hk := hr.ents i e hi
  cases e with
  | var cs => obtain ⟨vs, e, _, h2⟩ := hk; simp only [OwnE] at ho; subst ho; rw [h] at h2; simp at h2
  | mp es => obtain ⟨ms, c, h1, _⟩ := hk; simp only [OwnE] at ho; subst ho; rw [h] at h1; simp at h1
  | lp ps asg body env k st pe => obtain ⟨r, h1, _⟩ := hk; simp only [OwnE] at ho; subst ho; rw [h] at h1; simp at h1
  | tip pos => obtain ⟨_, _, h3⟩ := hk; obtain ⟨rfl, h4, h5⟩ := ho; obtain ⟨c, e, f, g1, _⟩ := h3 (by omega); rw [h] at g1; simp at g1
  | vec s xs => obtain ⟨_, _, h3, _⟩ := hk; obtain ⟨rfl, h4, h5⟩ := ho; obtain ⟨c, e, f, g1, _⟩ := h3 (by omega); rw [h] at g1; simp at g1
  | dead => exact ho.elim

theorem Marks.step {n₀ : Nat} {ρ' : Ro} {σ' : List Ent} {w' : World} {m : Nat} (hr : Rel ρ σ w) (hst : StpN n₀ ρ σ w ρ' σ' w') : ∀ {ds : List Deferred}, Marks m w ds → Marks m w' ds
  | [], h => Nat.le_trans h hst.size
  | d :: ds, ⟨⟨D, h1, h2, h3, h4⟩, h5⟩ => by
    obtain ⟨ob', k1, k2⟩ := hst.frm D _ h3
    refine ⟨⟨D, h1, h2, ?_, h4⟩, Marks.step hr hst h5⟩
    rcases k2 with k2 | k2
    · exact absurd k2 (not_own hr h3 0)
    · rw [k1, k2]

/-- The fence that lets everything in; r: the loop whose round it is. -/
abbrev fen (r : Option Nat) : Fence := { Fence.wide with round := r }

def IsRound (r : Option Nat) (w : World) : Prop := ∀ l, r = some l → ∃ q : Loop, w.heap[l]? = some (.loop q)

theorem IsRound.step {n₀ : Nat} {ρ' : Ro} {σ' : List Ent} {w' : World} {r : Option Nat} (hst : StpN n₀ ρ σ w ρ' σ' w') (h : IsRound r w) : IsRound r w' := by
  intro l hl
  obtain ⟨q, hq⟩ := h l hl
  obtain ⟨ob', k1, q', rfl, _⟩ := hst.frm l _ hq
  exact ⟨q', k1⟩

/-- What a state of the abstract machine says of slots and memory. -/
structure RelS (ρ : Ro) (s : St) (a : Act) (w : World) : Prop where
  defers : Marks ρ.m w a.defers
  size : a.tmps.size = s.n
  rel : Rel ρ s.hp w
  vals : ∀ t, Val w (Stay ρ s.hp) ρ s.hp.length (look s.env t) (a.tmps.getD t undef)

def exOk (w : World) (ρ : Ro) (s : St) : Ex → Exit → Prop
  | .normal, e => e = .normal
  | .exit i, e => e = .exit i
  | .ret, e => e = .ret
  | .pan x, e => ∃ v, e = .panic [{ v, recovered := false }] ∧ Val w (Stay ρ s.hp) ρ s.hp.length x v

/-- Behind some code: the abstract machine's Q holds of a state that tells of these slots and this memory. -/
def Post (n₀ : Nat) (ρ : Ro) (σ : List Ent) (w : World) (Q : Ex → St → Prop) : Exit → Act → World → Prop := fun e a' w' =>
  ∃ x s' ρ', Q x s' ∧ exOk w' ρ' s' x e ∧ RelS ρ' s' a' w' ∧ StpN n₀ ρ σ w ρ' s'.hp w'

def CodeA (P : Program) (n₀ : Nat) (c : Code) (Q : Ex → St → Prop) (s : St) : Prop := ∀ r ρ a w, n₀ ≤ s.hp.length → IsRound r w → RelS ρ s a w → c.wpIn (fen r) 0 P (Post n₀ ρ s.hp w Q) a w

/-- A function with a body, that the model enters. -/
def HasBody (P : Program) (f : FuncId) : Prop := ∃ fn c, P.funcs[f]? = some fn ∧ fn.body = some c ∧ (fn.name == "runtime.NumGoroutine") = false

def CallA (P : Program) (f : FuncId) (args : List AV) (σ : List Ent) (K E : AV → List Ent → Prop) : Prop :=
  HasBody P f ∧ ∀ ρ w (vs : List Value), Rel ρ σ w → All2 (Val w (Stay ρ σ) ρ σ.length) args vs →
    Calls P f vs.toArray w fun e w' => ∃ ρ' σ', Stp ρ σ w ρ' σ' w' ∧ Rel ρ' σ' w' ∧ match e with
      | .returned v => ∃ r, K r σ' ∧ Val w' (Stay ρ' σ') ρ' σ'.length r v
      | .panicked ch => ∃ r v, ch = [{ v, recovered := false }] ∧ E r σ' ∧ Val w' (Stay ρ' σ') ρ' σ'.length r v
      | .outgrown => False

/-- A round of the loop i, called with these values. -/
def YieldA (P : Program) (i : Nat) (args : List AV) (σ : List Ent) (K : AV → List Ent → Prop) : Prop :=
  ∀ ρ w (vs : List Value), Rel ρ σ w → All2 (Val w (Stay ρ σ) ρ σ.length) args vs →
    ∃ fn tmps asg body, (Instr.yield (ρ.b i) vs.toArray).run P w = .ok (.round (ρ.b i) fn tmps asg body) w ∧
      RoundIn Fence.wide 0 P (ρ.b i) fn tmps asg body w fun e w' => ∃ ρ' σ', Stp ρ σ w ρ' σ' w' ∧ Rel ρ' σ' w' ∧ match e with
        | .returned v => ∃ r, K r σ' ∧ Val w' (Stay ρ' σ') ρ' σ'.length r v
        | _ => False

def bits (p : BinOp) (k : IntKind) (x y : Int) : Int :=
  let a := BitVec.ofInt k.bits x
  let b := BitVec.ofInt k.bits y
  match p with
  | .and => k.wrap ((a &&& b).toNat : Int)
  | .or => k.wrap ((a ||| b).toNat : Int)
  | .xor => k.wrap ((a ^^^ b).toNat : Int)
  | _ => k.wrap ((a &&& ~~~b).toNat : Int)

def keqC (x y : AV) : Bool :=
  match x, y with
  | .int _ a, .int _ b => a == b
  | .str a, .str b => a == b
  | x, y => match x.tell, y.tell with
    | some a, some b => a == b
    | _, _ => false

def keqL : List AV → List AV → Bool
  | [], [] => true
  | x :: xs, y :: ys => keqC x y && keqL xs ys
  | _, _ => false

/-- Are two keys the same? -/
def keq (x y : AV) : Bool := keqL x.cells y.cells

def mput : List (AV × AV) → AV → AV → List (AV × AV)
  | [], k, v => [(k, v)]
  | x :: es, k, v => if keq k x.1 then (k, v) :: es else x :: mput es k v

def mfind : List (AV × AV) → AV → Option AV
  | [], _ => none
  | x :: es, k => if keq k x.1 then some x.2 else mfind es k

def mdel : List (AV × AV) → AV → List (AV × AV)
  | [], _ => []
  | x :: es, k => if keq k x.1 then es else x :: mdel es k

def stdOps : Ops where
  ar p k x y := match p with
    | .add => k.wrap (x + y)
    | .sub => k.wrap (x - y)
    | .mul => k.wrap (x * y)
    | .quo => k.wrap (x.tdiv y)
    | .rem => x.tmod y
    | p => bits p k x y
  sh p k x y := match p with
    | .shl => k.wrap (x * 2 ^ (min y.toNat k.bits))
    | _ => x.fdiv (2 ^ (min y.toNat k.bits))
  cmp p x y := match p with
    | .eql => x == y
    | .neq => x != y
    | .lss => decide (x < y)
    | .leq => decide (x ≤ y)
    | .gtr => decide (x > y)
    | _ => decide (x ≥ y)
  seq x y := x == y
  scmp p x y := match p with
    | .lss => Op.bytesLess x.toList y.toList
    | .leq => Op.bytesLess x.toList y.toList || x.toList == y.toList
    | .gtr => !(Op.bytesLess x.toList y.toList || x.toList == y.toList)
    | _ => !Op.bytesLess x.toList y.toList
  cat x y := x ++ y
  wrap k n := k.wrap n
  neg k n := k.wrap (0 - n)
  com k n := bits .xor k (if k.signed then -1 else k.max) n
  mx x y := if y > x then y else x
  mn x y := if y < x then y else x
  band a b := a && b
  bnot a := !a
  pick c a b := if c then a else b
  same a b := a == b
  nat n := n
  len l := l.length
  get l i := l[i.toNat]?
  apnd l m := l ++ m
  pos l m := l.length + m.length
  padd n m := n + m.length
  room l m b := (l.length + m.length) * b ≤ 2 ^ 47
  slen b := b.size
  byte b i := b.data.toList[i.toNat]?
  bytes b := bytesOf b
  inb i n := 0 ≤ i ∧ i < n
  nz b := b ≠ 0
  nn b := 0 ≤ b
  mks n m b := n = m ∧ 0 ≤ n ∧ n * b ≤ 2 ^ 47
  le a b := a ≤ b
  sub xs l h := (xs.take h.toNat).drop l.toNat
  drop xs l := xs.drop l.toNat
  ssub b l h := b.extract l.toNat h.toNat
  mfind := mfind
  mput := mput
  mdel := mdel
  mok agg lv es := ∀ x ∈ es, keyOk agg lv x.1 = true
  sum a b := a + b
  dif a b := a - b
  upd xs i v := xs.set i.toNat v
  lay xs i ys := xs.take i.toNat ++ ys ++ xs.drop (i.toNat + ys.length)
  rep n v := List.replicate n.toNat v
  emp xs := xs = []
  is a b := a = b

/-- A call that changes nothing, and gives one thing. -/
def PureA (P : Program) (f : FuncId) (args : List AV) (r : AV) : Prop := ∀ (σ : List Ent) (K E : AV → List Ent → Prop), K r σ → CallA P f args σ K E

def std (P : Program) (n₀ : Nat) : Jd := ⟨stdOps, CallA P, CodeA P n₀, fun f args K => ∃ r, PureA P f args r ∧ K r, YieldA P⟩

theorem binB_A {P : Program} {n₀ : Nat} {T : Ty} {p : BinOp} {x y : AV} {one : Bool} {K : AV → Prop} (h : binB (std P n₀) T p x y one K) : binA (std P n₀) T p x y K := by
  cases one with
  | false => exact h
  | true =>
    cases p <;> first
      | exact h
      | (simp only [binB, bitA] at h
         simp only [binA, arA]
         split at h
         · split at h
           · split at h
             · rename_i hk
               simp only [hk]
               rcases h.1 with h1 | h1
               · have := h.2.1 h1; rw [h1]; exact this
               · have := h.2.2 h1; rw [h1]; exact this
             · exact h.elim
           · exact h.elim
         · exact h.elim)

/-- What the abstract machine's K must give for the model's next step. -/
structure Goes (ρ : Ro) (s : St) (a : Act) (w : World) (dst : Option Nat) (K : AV → List Ent → Prop) (next : Act → World → Prop) : Prop where
  go : ∀ v u ρ' σ' w', K v σ' → Val w' (Stay ρ' σ') ρ' σ'.length v u → Stp ρ s.hp w ρ' σ' w' → Rel ρ' σ' w' → next (a.put dst u) w'

structure Dies (ρ : Ro) (s : St) (a : Act) (w : World) (E : AV → List Ent → Prop) (Q : Exit → Act → World → Prop) : Prop where
  die : ∀ x v ρ' σ' w', E x σ' → Val w' (Stay ρ' σ') ρ' σ'.length x v → Stp ρ s.hp w ρ' σ' w' → Rel ρ' σ' w' → Q (.panic [{ v, recovered := false }]) a w'

theorem ev_val {s : St} {a : Act} (h : RelS ρ s a w) (x : Operand) : Val w (Stay ρ s.hp) ρ s.hp.length (s.ev x) (a.eval x) := by
  cases x with
  | tmp t => exact h.vals t
  | const v => exact lit_val v
  | func f => exact ⟨2, [], rfl, trivial⟩
  | global g => exact Val.junk

theorem evs_val {s : St} {a : Act} (h : RelS ρ s a w) : ∀ l : List Operand, All2 (Val w (Stay ρ s.hp) ρ s.hp.length) (evs s l) (l.map a.eval)
  | [] => trivial
  | x :: l => ⟨ev_val h x, evs_val h l⟩

theorem evs_eq (s : St) : ∀ l : List Operand, evs s l = l.map s.ev
  | [] => rfl
  | _ :: l => by simp [evs, evs_eq s l]

theorem val_int {S : Nat → Nat → Prop} {n : Nat} {k : IntKind} {x : Int} {v : Value} (h : Val w S ρ n (.int k x) v) : v = .int k x := by
  obtain ⟨d, h⟩ := h; cases d <;> simp [Cz] at h; exact h
theorem val_bool {S : Nat → Nat → Prop} {n : Nat} {b : Bool} {v : Value} (h : Val w S ρ n (.bool b) v) : v = .bool b := by
  obtain ⟨d, h⟩ := h; cases d <;> simp [Cz] at h; exact h
theorem val_bl {S : Nat → Nat → Prop} {n : Nat} {b : Bool} {v : Value} (h : Val w S ρ n (.bl b) v) : v = .bool b := by
  obtain ⟨d, h⟩ := h; cases d <;> simp [Cz] at h; exact h
theorem val_str {S : Nat → Nat → Prop} {n : Nat} {b : ByteArray} {v : Value} (h : Val w S ρ n (.str b) v) : v = .string b := by
  obtain ⟨d, h⟩ := h; cases d <;> simp [Cz] at h; exact h
theorem val_ptr {S : Nat → Nat → Prop} {n id off : Nat} {v : Value} (h : Val w S ρ n (.ptr id off) v) : id < n ∧ v = .pointer (some ⟨ρ.b id, off, none⟩) := by
  obtain ⟨d, h⟩ := h; cases d <;> simp [Cz] at h; exact h
theorem val_yld {S : Nat → Nat → Prop} {n id : Nat} {v : Value} (h : Val w S ρ n (.yld id) v) : id < n ∧ v = .func (.yield (ρ.b id)) #[] #[] := by
  obtain ⟨d, h⟩ := h; cases d <;> simp [Cz] at h; exact h
theorem val_nils {S : Nat → Nat → Prop} {n : Nat} {v : Value} (h : Val w S ρ n .nils v) : v = .slice none 0 0 := by
  obtain ⟨d, h⟩ := h; cases d <;> simp [Cz] at h; exact h
theorem val_agg {S : Nat → Nat → Prop} {n : Nat} {cs : List AV} {v : Value} (h : Val w S ρ n (.agg cs) v) : ∃ vs : List Value, v = .agg vs.toArray ∧ All2 (Val w S ρ n) cs vs := by
  obtain ⟨d, h⟩ := h; cases d with
  | zero => exact h.elim
  | succ d => obtain ⟨vs, e, h⟩ := h; exact ⟨vs, e, vals_of h⟩
theorem val_tup {S : Nat → Nat → Prop} {n : Nat} {cs : List AV} {v : Value} (h : Val w S ρ n (.tup cs) v) : ∃ vs : List Value, v = .tuple vs.toArray ∧ All2 (Val w S ρ n) cs vs := by
  obtain ⟨d, h⟩ := h; cases d with
  | zero => exact h.elim
  | succ d => obtain ⟨vs, e, h⟩ := h; exact ⟨vs, e, vals_of h⟩
theorem val_func {S : Nat → Nat → Prop} {n f : Nat} {cs : List AV} {v : Value} (h : Val w S ρ n (.func f cs) v) : ∃ vs : List Value, v = .func (.func f) #[] vs.toArray ∧ All2 (Val w S ρ n) cs vs := by
  obtain ⟨d, h⟩ := h; cases d with
  | zero => exact h.elim
  | succ d => obtain ⟨vs, e, h⟩ := h; exact ⟨vs, e, vals_of h⟩
theorem val_cptr {S : Nat → Nat → Prop} {n off : Nat} {cs : List AV} {v : Value} (h : Val w S ρ n (.cptr cs off) v) : ∃ b o vs, v = .pointer (some ⟨b, o + off, none⟩) ∧ All2 (Val w S ρ 0) cs vs ∧ Reads w S b o vs := by
  obtain ⟨d, h⟩ := h; cases d with
  | zero => exact h.elim
  | succ d => obtain ⟨b, o, vs, e, h, hr⟩ := h; exact ⟨b, o, vs, e, vals_of h, hr⟩
theorem val_iface {S : Nat → Nat → Prop} {n : Nat} {t : TypeId} {x : AV} {v : Value} (h : Val w S ρ n (.iface t x) v) : ∃ u, v = .iface t u ∧ Val w S ρ n x u := by
  obtain ⟨d, h⟩ := h; cases d with
  | zero => exact h.elim
  | succ d => obtain ⟨u, e, h⟩ := h; exact ⟨u, e, d, h⟩
theorem val_cond {S : Nat → Nat → Prop} {n : Nat} {g : Bool} {x : AV} {v : Value} (h : Val w S ρ n (.cond g x) v) : (g = true → Val w S ρ n x v) ∧ (g = false → v = undef) := by
  obtain ⟨d, h⟩ := h; cases d with
  | zero => exact h.elim
  | succ d => exact ⟨fun e => ⟨d, h.1 e⟩, h.2⟩
theorem val_sl {S : Nat → Nat → Prop} {n s : Nat} {xs : List AV} {t : Tok} {v : Value} (h : Val w S ρ n (.sl s xs t) v) :
    ∃ ad len cap, v = .slice ad len cap ∧ len = xs.length ∧ len ≤ cap ∧ tokOk ρ n s len cap ad t ∧
      (xs ≠ [] → ∃ b o, ad = some ⟨b, o, none⟩ ∧ ∀ (i : Nat) x, xs[i]? = some x → ∃ vs, All2 (Val w S ρ 0) x.cells vs ∧ vs.length = s ∧ Reads w S b (o + i * s) vs) := by
  obtain ⟨d, h⟩ := h; cases d with
  | zero => exact h.elim
  | succ d =>
    obtain ⟨ad, len, cap, e, h1, h2, h3, h4⟩ := h
    refine ⟨ad, len, cap, e, h1, h2, h3, fun hx => ?_⟩
    obtain ⟨b, o, e, h⟩ := h4 hx
    exact ⟨b, o, e, fun i x hi => let ⟨vs, a, b, c⟩ := h i x hi; ⟨vs, vals_of a, b, c⟩⟩

end
end Go.Pt
