/- What the model's single operations do, in the abstract machine's words: types, worlds, loads and stores. -/
import Derived.Test.YtilffanmaicakaaAmSem
import Derived.ChangeKeysEq
import Derived.Laws.Entries
import Derived.Laws.CopyRow
import Derived.Laws.NewBlocks
import Derived.Laws.StructEq
import Derived.Laws.Tables
namespace Go.Pt
open Go

def tkOf : TypeDesc → TK
  | .int k => .int k
  | .bool => .bool
  | .string => .str
  | .slice e => .slice e
  | .pointer e => .ptr e
  | .struct fs => .struct (fs.toList.map fun f => (f.type, f.offset))
  | .array n e => .arr n e
  | .map k e => .map k e
  | .func _ _ _ => .func
  | .interface _ => .iface
  | .tuple _ => .tup
  | _ => .other

def aggOf : TypeDesc → Bool
  | .struct _ | .array _ _ => true
  | _ => false

/-- n times l. -/
def reps {α : Type} : Nat → List α → List α
  | 0, _ => []
  | n + 1, l => l ++ reps n l

/-- The kinds of the cells of fields, one behind the other. -/
def leavesF (P : Program) (r : TypeId → Option (List TK)) : List Field → Nat → Option (List TK)
  | [], _ => some []
  | f :: fs, off => match r f.type with
    | none => none
    | some l => if f.offset = off ∧ f.name ≠ "_" ∧ (P.info? f.type).map (·.size) = some l.length then (leavesF P r fs (off + l.length)).map (l ++ ·) else none

/-- The kinds of a type's cells, where '==' goes through these one by one. -/
def leaves (P : Program) : Nat → TypeId → Option (List TK)
  | 0, _ => none
  | d + 1, t => match P.underlying t with
    | some (.struct fs) => if P.stoodInHeld t then none else leavesF P (leaves P d) fs.toList 0
    | some (.int k) => some [.int k]
    | some .bool => some [.bool]
    | some .string => some [.str]
    | some (.pointer e) => some [.ptr e]
    | some (.map k e) => some [.map k e]
    | some (.func _ _ _) => some [.func]
    | _ => none

def lvOf (P : Program) (t : TypeId) : List TK := if P.eqGuardType P.depth t then [] else (leaves P 8 t).getD []

/-- The types within one are there. -/
def subOk (P : Program) : TypeDesc → Bool
  | .struct fs => fs.toList.all fun f => (P.info? f.type).isSome
  | .array _ e => (P.info? e).isSome
  | _ => true

def isAggV : Value → Bool
  | .agg _ => true
  | _ => false

def tyOf (P : Program) (t : TypeId) : Option Ty :=
  match P.info? t, P.underlying t with
  | some i, some d => match (if subOk P d && (aggOf d || i.size == 1) then i.zero.filter (fun z => z.cells.size == i.size && isAggV z == aggOf d) else none) with
    | some z => some ⟨tkOf d, i.size, i.bytes, aggOf d, z.cells.toList.map lit, lvOf P t, true, 0⟩
    | none => none
  | _, _ => none

structure TabOk (P : Program) (tab : Nat → Ty) : Prop where
  ty : ∀ t, tyOf P t = some { tab t with md := 0 } ∨ tab t = Ty.no
  mixed : P.follows .mixedOrders = true

structure TyOk (P : Program) (t : TypeId) (T : Ty) (i : TypeInfo) (d : TypeDesc) (z : Value) : Prop where
  info : P.info? t = some i
  und : P.underlying t = some d
  zero : i.zero = some z
  k : T.k = tkOf d
  size : T.size = i.size
  bytes : T.bytes = i.bytes
  agg : T.agg = aggOf d
  zeros : T.zero = z.cells.toList.map lit
  lv : T.lv = lvOf P t
  sub : subOk P d = true
  one : T.agg = false → T.size = 1
  zsize : z.cells.size = T.size
  zagg : isAggV z = T.agg

theorem TabOk.of {P : Program} {tab : Nat → Ty} (h : TabOk P tab) {t : TypeId} (hn : tab t ≠ Ty.no) : ∃ i d z, TyOk P t (tab t) i d z := by
  rcases h.ty t with h | h
  · unfold tyOf at h
    split at h
    · rename_i i d hi hd
      split at h
      · rename_i z hz
        simp only [Option.some.injEq] at h
        have e1 := congrArg Ty.k h; have e2 := congrArg Ty.size h; have e3 := congrArg Ty.bytes h; have e4 := congrArg Ty.agg h; have e5 := congrArg Ty.zero h; have e6 := congrArg Ty.lv h
        simp only at e1 e2 e3 e4 e5 e6
        split at hz
        case isFalse => simp at hz
        rename_i hc
        simp only [Bool.and_eq_true, Bool.or_eq_true, beq_iff_eq] at hc
        rw [Option.filter_eq_some_iff] at hz
        obtain ⟨hz1, hz2⟩ := hz
        simp only [Bool.and_eq_true, beq_iff_eq] at hz2
        exact ⟨i, d, z, hi, hd, hz1, e1.symm, e2.symm, e3.symm, e4.symm, e5.symm, e6.symm, hc.1, fun e => e2 ▸ hc.2.resolve_left (by rw [← e4] at e; simp [e]), e2 ▸ hz2.1, e4 ▸ hz2.2⟩
      · simp at h
    · simp at h
  · exact absurd h hn

theorem tyOf_md {P : Program} {t : TypeId} {T : Ty} (h : tyOf P t = some T) : { T with md := 0 } = T := by
  unfold tyOf at h
  split at h
  · split at h
    · simp only [Option.some.injEq] at h; rw [← h]
    · simp at h
  · simp at h

/-- The type c in the mode k. -/
theorem TabOk.md {P : Program} {tab : Nat → Ty} (h : TabOk P tab) (c k : Nat) (hc : (tab c).ok = true) : TabOk P (fun t => match Nat.beq t c with | true => { tab t with md := k } | false => tab t) := by
  refine ⟨fun t => ?_, h.mixed⟩
  dsimp only
  split
  · rename_i e
    have := Nat.eq_of_beq_eq_true e
    subst this
    rcases h.ty t with h | h
    · exact .inl h
    · rw [h] at hc; simp [Ty.no] at hc
  · exact h.ty t

theorem TabOk.ok {P : Program} {tab : Nat → Ty} (h : TabOk P tab) {t : TypeId} (hn : (tab t).ok = true) : ∃ i d z, TyOk P t (tab t) i d z :=
  h.of fun e => by rw [e] at hn; simp [Ty.no] at hn
theorem TabOk.agg {P : Program} {tab : Nat → Ty} (h : TabOk P tab) {t : TypeId} (hn : (tab t).agg = true) : ∃ i d z, TyOk P t (tab t) i d z :=
  h.of fun e => by rw [e] at hn; simp [Ty.no] at hn
theorem TabOk.kind {P : Program} {tab : Nat → Ty} (h : TabOk P tab) {t : TypeId} {k : TK} (hn : (tab t).k = k) (hk : k ≠ .other) : ∃ i d z, TyOk P t (tab t) i d z :=
  h.of fun e => by rw [e] at hn; exact hk hn.symm
theorem TabOk.pos {P : Program} {tab : Nat → Ty} (h : TabOk P tab) {t : TypeId} (hn : Nat.blt 0 (tab t).size = true) : ∃ i d z, TyOk P t (tab t) i d z :=
  h.of fun e => by rw [e] at hn; simp [Ty.no] at hn

section
variable {P : Program} {w : World}

theorem run_size {t : TypeId} {T : Ty} {i : TypeInfo} {d : TypeDesc} {z : Value} (h : TyOk P t T i d z) (w : World) : (sizeOf t).run P w = .ok T.size w := by
  have := run_sizeOf w h.info
  rw [this, h.size]
  simp [Program.cellsOf, h.info]

theorem run_info {t : TypeId} {T : Ty} {i : TypeInfo} {d : TypeDesc} {z : Value} (h : TyOk P t T i d z) (w : World) : (typeInfo t).run P w = .ok i w := run_typeInfo w h.info

theorem run_und {t : TypeId} {T : Ty} {i : TypeInfo} {d : TypeDesc} {z : Value} (h : TyOk P t T i d z) (w : World) : (underlying t).run P w = .ok d w := run_underlying h.und w

theorem run_agg {t : TypeId} {T : Ty} {i : TypeInfo} {d : TypeDesc} {z : Value} (h : TyOk P t T i d z) (w : World) : (isAgg t).run P w = .ok T.agg w := by
  rw [h.agg]
  cases d <;> simp [isAgg, run_underlying h.und, aggOf]

theorem run_zero {t : TypeId} {T : Ty} {i : TypeInfo} {d : TypeDesc} {z : Value} (h : TyOk P t T i d z) (w : World) : (zeroValue t).run P w = .ok z w := by
  simp [zeroValue, run_typeInfo _ h.info, h.zero]

theorem lit_val {S : Nat → Nat → Prop} {ρ : Ro} {n : Nat} (v : Value) : Val w S ρ n (lit v) v := by
  refine ⟨1, ?_⟩
  unfold lit
  split <;> simp [Cz]

theorem lits_val {S : Nat → Nat → Prop} {ρ : Ro} {n : Nat} : ∀ (l : List Value), All2 (Val w S ρ n) (l.map lit) l
  | [] => trivial
  | _ :: l => ⟨lit_val _, lits_val l⟩

/-- A row of cells in memory, read as a variable of type T. -/
theorem run_loadVar_at {t : TypeId} {T : Ty} {i : TypeInfo} {d : TypeDesc} {z : Value} (ht : TyOk P t T i d z) {b o off : Nat} {vs : List Value} {cs : List AV} {av : AV}
    {S : Nat → Nat → Prop} {ρ : Ro} {n : Nat}
    (hm : ∀ (j : Nat) u, vs[j]? = some u → cellAt w b (o + j) = some u) (hc : All2 (Val w S ρ n) cs vs) (hr : rd T cs off = some av) :
    ∃ u, (loadVar t ⟨b, o + off, none⟩).run P w = .ok u w ∧ Val w S ρ n av u := by
  unfold rd at hr
  split at hr
  case h_2 => simp at hr
  split at hr
  · rename_i _ ha
    simp only [Option.map_eq_some_iff] at hr
    obtain ⟨r, hr, rfl⟩ := hr
    have hcut : r = (cs.drop off).take T.size ∧ ((vs.drop off).take T.size).length = T.size := by
      have hl := hc.length
      rcases cut_eq _ _ _ hr with ⟨h1, h2⟩ | ⟨h1, h2⟩
      · exact ⟨h1, by simp; omega⟩
      · simp [h1, h2]
    obtain ⟨rfl, hlen⟩ := hcut
    have h2 : All2 (Val w S ρ n) ((cs.drop off).take T.size) ((vs.drop off).take T.size) := (hc.drop off).take _
    refine ⟨.agg ((vs.drop off).take T.size).toArray, ?_, ?_⟩
    · have := run_loadCells_list (P := P) w ⟨b, o + off, none⟩ ((vs.drop off).take T.size) (fun j v hj => by
        have hj' : vs[off + j]? = some v := by
          rw [List.getElem?_take] at hj
          split at hj
          · simpa using hj
          · simp at hj
        have := hm _ _ hj'
        unfold Addr.add
        split
        · rename_i e; subst e; simpa using this
        · simpa [Nat.add_assoc] using this)
      rw [hlen] at this
      simp [loadVar, run_agg ht, ha, run_size ht, this]
    · obtain ⟨d, hd⟩ := all2_depth h2
      exact ⟨d + 1, _, rfl, hd⟩
  · rename_i _ ha
    rw [nth_eq] at hr
    obtain ⟨u, hu, hv⟩ := hc.get hr
    refine ⟨u, ?_, hv⟩
    have := hm _ _ hu
    simp only [cellAt] at this
    simp [loadVar, run_agg ht, ha, this]

theorem lt_len {α : Type} {l : List α} {i : Nat} {x : α} (h : l[i]? = some x) : i < l.length := by
  rcases Nat.lt_or_ge i l.length with h' | h'
  · exact h'
  · simp [List.getElem?_eq_none h'] at h

theorem OwnE.congr {ρ ρ' : Ro} {i b o : Nat} {e : Ent} (hb : ρ'.b i = ρ.b i) (ht : ρ'.t i = ρ.t i) : OwnE ρ' i b o e ↔ OwnE ρ i b o e := by
  cases e <;> simp [OwnE, hb, ht]

def Ent.blk : Ent → Bool
  | .var _ | .mp _ | .lp .. => true
  | _ => false

def Ent.row : Ent → Bool
  | .tip _ | .vec .. => true
  | _ => false

theorem EntOk.keep {w w' : World} {S S' : Nat → Nat → Prop} {ρ ρ' : Ro} {n n' i : Nat} {e : Ent} (h : EntOk w S ρ n i e) (hk : Keeps w w' S S' ρ ρ' n n') (hi : i < n)
    (ht : ρ'.t i = ρ.t i) (hb : e.blk = true → w'.heap[ρ.b i]? = w.heap[ρ.b i]?)
    (hs : e.row = true → (ρ.t i).start < (ρ.t i).stop → ∀ c e f, w.heap[(ρ.t i).blk]? = some (.cells c e f) → ∃ c', w'.heap[(ρ.t i).blk]? = some (.cells c' e f) ∧ c'.size = c.size ∧ ∀ o, (ρ.t i).start ≤ o → o < (ρ.t i).stop → c'[o]? = c[o]?) :
    EntOk w' S' ρ' n' i e := by
  have hbb := hk.b i hi
  cases e with
  | var cs =>
    obtain ⟨vs, e, h1, h2⟩ := h
    exact ⟨vs, e, h1.imp fun _ _ h => h.keep hk, by rw [hbb, hb rfl]; exact h2⟩
  | mp es =>
    obtain ⟨ms, c, h1, h2, h3⟩ := h
    exact ⟨ms, c, by rw [hbb, hb rfl]; exact h1, h2.imp fun _ _ h => ⟨h.1.keep hk, h.2.keep hk⟩, h3⟩
  | lp ps asg body env k st pe =>
    obtain ⟨r, h1, h2, h3, h4, h5, h6, h7, h8⟩ := h
    exact ⟨r, by rw [hbb, hb rfl]; exact h1, h2, h3, h4, h5, h6, h7, fun t => (h8 t).keep hk⟩
  | dead => trivial
  | tip pos =>
    obtain ⟨h1, h2, h3⟩ := h
    refine ⟨by rw [ht]; exact h1, by rw [ht]; exact h2, fun hlt => ?_⟩
    rw [ht] at hlt ⊢
    obtain ⟨c, e, f, g1, g2, g3⟩ := h3 hlt
    obtain ⟨c', k1, k2, _⟩ := hs rfl hlt c e f g1
    refine ⟨c', e, f, k1, by omega, fun o ho ho' => ?_⟩
    have := g3 o ho ho'
    unfold World.frozen? at this ⊢
    simp only [g1] at this
    simp only [k1]
    exact this
  | vec s xs =>
    obtain ⟨h1, h2, h3, h4⟩ := h
    refine ⟨by rw [ht]; exact h1, by rw [ht]; exact h2, fun hlt => ?_, fun k x hx => ?_⟩
    · rw [ht] at hlt ⊢
      obtain ⟨c, e, f, g1, g2, g3⟩ := h3 hlt
      obtain ⟨c', k1, k2, _⟩ := hs rfl hlt c e f g1
      refine ⟨c', e, f, k1, by omega, fun o ho ho' => ?_⟩
      have := g3 o ho ho'
      unfold World.frozen? at this ⊢
      simp only [g1] at this
      simp only [k1]
      exact this
    · obtain ⟨vs, g1, g2, g3⟩ := h4 k x hx
      refine ⟨vs, g1.imp fun _ _ h => h.keep hk.zero, g2, fun j u hu => ?_⟩
      obtain ⟨g4, g5⟩ := g3 j u hu
      refine ⟨?_, g5⟩
      rw [ht]
      have hkl := lt_len hx
      have hjl := lt_len hu
      rw [g2] at hjl
      have hin : k * s + j < xs.length * s := by
        calc k * s + j < k * s + s := by omega
          _ = (k + 1) * s := by rw [Nat.succ_mul]
          _ ≤ xs.length * s := Nat.mul_le_mul_right s hkl
      obtain ⟨c, e, f, q1, q2, q3⟩ := h3 (by omega)
      obtain ⟨c', k1, k2, k3⟩ := hs rfl (by omega) c e f q1
      rw [cellAt_cells q1] at g4
      rw [cellAt_cells k1, k3 _ (by omega) (by omega)]
      exact g4

theorem get_push {σ : List Ent} {e f : Ent} {i : Nat} (h : (σ ++ [e])[i]? = some f) : i < σ.length ∧ σ[i]? = some f ∨ i = σ.length ∧ f = e := by
  rcases Nat.lt_trichotomy i σ.length with hl | hl | hl
  · exact .inl ⟨hl, by rwa [List.getElem?_append_left hl] at h⟩
  · subst hl; simp at h; exact .inr ⟨rfl, h.symm⟩
  · rw [List.getElem?_eq_none (by simp; omega)] at h; simp at h

theorem lt_of_get {α : Type} {l : List α} {i : Nat} {x : α} (h : l[i]? = some x) : i < l.length := by
  rcases Nat.lt_or_ge i l.length with h' | h'
  · exact h'
  · simp [List.getElem?_eq_none h'] at h

/-- The heap gets a new place. -/
theorem Rel.push {ρ : Ro} {σ : List Ent} (h : Rel ρ σ w) {ρ' : Ro} {w' : World} {e : Ent}
    (hb : ∀ i, i < σ.length → ρ'.b i = ρ.b i) (ht : ∀ i, i < σ.length → ρ'.t i = ρ.t i) (hx : ρ'.x = ρ.x) (hm : ρ'.m = ρ.m)
    (hos : w'.os = w.os) (htape : w'.tape = w.tape) (hout : w'.output = w.output)
    (hh : ∀ (k : Nat) ob, w.heap[k]? = some ob → w'.heap[k]? = some ob) (hsz : w.heap.size ≤ w'.heap.size)
    (hnew : ∀ b o, OwnE ρ' σ.length b o e → w.heap.size ≤ b)
    (hok : Stp ρ σ w ρ' (σ ++ [e]) w' → EntOk w' (Stay ρ' (σ ++ [e])) ρ' (σ ++ [e]).length σ.length e) :
    Stp ρ σ w ρ' (σ ++ [e]) w' ∧ Rel ρ' (σ ++ [e]) w' := by
  have hown : ∀ b o, b < w.heap.size → Own ρ' (σ ++ [e]) b o → Own ρ σ b o := by
    rintro b o hlt ⟨i, f, hi, ho⟩
    rcases get_push hi with ⟨hl, hi⟩ | ⟨rfl, rfl⟩
    · exact ⟨i, f, hi, (OwnE.congr (hb i hl) (ht i hl)).1 ho⟩
    · have := hnew _ _ ho; omega
  have hst : Stp ρ σ w ρ' (σ ++ [e]) w' := ⟨hos, htape, hout, hsz, fun b ob hb => ⟨ob, hh b ob hb, okBlk.refl _ _⟩, hown, by simp, hb, fun i hi => .inl (ht i hi), hx, hm⟩
  refine ⟨hst, fun i f hi => ?_, fun i j f g b o hi hj hf hg => ?_, fun b o ho => ?_, fun b o ho hxo => ?_⟩
  · rcases get_push hi with ⟨hl, hi⟩ | ⟨rfl, rfl⟩
    · refine (h.ents i f hi).keep hst.keeps hl (ht i hl) (fun hn => ?_) (fun _ _ c e f hc => ⟨c, hh _ _ hc, rfl, fun _ _ _ => rfl⟩)
      cases f with
      | var cs => obtain ⟨vs, e, _, h2⟩ := h.ents i _ hi; rw [hh _ _ h2, h2]
      | mp es => obtain ⟨ms, c, h1, _⟩ := h.ents i _ hi; rw [hh _ _ h1, h1]
      | lp ps asg body env k st pe => obtain ⟨r, h1, _⟩ := h.ents i _ hi; rw [hh _ _ h1, h1]
      | _ => simp [Ent.blk] at hn
    · exact hok hst
  · have old : ∀ i f, (σ ++ [e])[i]? = some f → i < σ.length → σ[i]? = some f := fun i f hi hl => by rwa [List.getElem?_append_left hl] at hi
    have hlt : ∀ i f, σ[i]? = some f → OwnE ρ i b o f → b < w.heap.size := by
      intro i f hi hf
      have hk := h.ents i f hi
      cases f with
      | var cs => obtain ⟨vs, e, _, h2⟩ := hk; simp only [OwnE] at hf; subst hf; exact lt_of_heap h2
      | mp es => obtain ⟨ms, c, h1, _⟩ := hk; simp only [OwnE] at hf; subst hf; exact lt_of_heap h1
      | lp ps asg body env k st pe => obtain ⟨r, h1, _⟩ := hk; simp only [OwnE] at hf; subst hf; exact lt_of_heap h1
      | tip pos => obtain ⟨_, _, h3⟩ := hk; obtain ⟨rfl, h4, h5⟩ := hf; obtain ⟨c, e, f, g1, _⟩ := h3 (by omega); exact lt_of_heap g1
      | vec s xs => obtain ⟨_, _, h3, _⟩ := hk; obtain ⟨rfl, h4, h5⟩ := hf; obtain ⟨c, e, f, g1, _⟩ := h3 (by omega); exact lt_of_heap g1
      | dead => exact hf.elim
    rcases get_push hi with ⟨hl, hi'⟩ | ⟨rfl, rfl⟩ <;> rcases get_push hj with ⟨hl', hj'⟩ | ⟨rfl, rfl⟩
    · exact h.disj i j f g b o hi' hj' ((OwnE.congr (hb i hl) (ht i hl)).1 hf) ((OwnE.congr (hb j hl') (ht j hl')).1 hg)
    · have := hlt i f hi' ((OwnE.congr (hb i hl) (ht i hl)).1 hf); have := hnew _ _ hg; omega
    · have := hlt j g hj' ((OwnE.congr (hb j hl') (ht j hl')).1 hg); have := hnew _ _ hf; omega
    · rfl
  · rw [hx] at ho; have := h.xlt b o ho; omega
  · rw [hx] at hxo
    exact h.xown b o (hown b o (h.xlt b o hxo) ho) hxo

end
end Go.Pt
