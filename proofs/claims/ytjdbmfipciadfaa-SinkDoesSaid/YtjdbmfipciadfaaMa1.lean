/- '==' of the model, where the abstract machine tells it. -/
import Derived.Test.YtjdbmfipciadfaaMa0
import Derived.Laws.AppendOwn
import Derived.Deep.AppendSrc
import Derived.Deep.Upon
import Derived.Laws.MakeOwn
import Derived.Laws.Slices
import Derived.Laws.Strings2
import Derived.MapKept
import Derived.RangeFuncRecord

namespace Go.Pt
open Go

def eqVL : TK → Value → Value → Option Bool
  | .int _, .int k a, .int k' b => if k = k' then some (a == b) else none
  | .bool, .bool a, .bool b => some (a == b)
  | .str, .string a, .string b => some (a == b)
  | .ptr _, .pointer none, .pointer b => some b.isNone
  | .ptr _, .pointer (some _), .pointer none => some false
  | .map _ _, .map none, .map b => some b.isNone
  | .map _ _, .map (some _), .map none => some false
  | .func, .nilFunc, .nilFunc => some true
  | .func, .nilFunc, .func _ _ _ => some false
  | .func, .func _ _ _, .nilFunc => some false
  | _, _, _ => none

def eqsV : List TK → List Value → List Value → Option Bool
  | [], [], [] => some true
  | k :: ks, x :: xs, y :: ys => match eqVL k x y with
    | none => none
    | some b => match eqsV ks xs ys with
      | none => none
      | some c => some (b && c)
  | _, _, _ => none

theorem eqsV_append : ∀ (l : List TK) {m : List TK} {xs xs' ys ys' : List Value} {b : Bool}, xs.length = l.length → ys.length = l.length → eqsV (l ++ m) (xs ++ xs') (ys ++ ys') = some b →
    ∃ c d, eqsV l xs ys = some c ∧ eqsV m xs' ys' = some d ∧ b = (c && d)
  | [], m, [], xs', [], ys', b, _, _, h => ⟨true, b, rfl, h, by simp⟩
  | k :: l, m, x :: xs, xs', y :: ys, ys', b, hx, hy, h => by
    simp only [List.cons_append, eqsV] at h
    cases h1 : eqVL k x y with
    | none => rw [h1] at h; simp at h
    | some b1 =>
      rw [h1] at h
      cases h2 : eqsV (l ++ m) (xs ++ xs') (ys ++ ys') with
      | none => rw [h2] at h; simp at h
      | some b2 =>
        rw [h2] at h
        obtain ⟨c, d, hc, hd, rfl⟩ := eqsV_append l (by simpa using hx) (by simpa using hy) h2
        simp only [Option.some.injEq] at h
        exact ⟨b1 && c, d, by simp [eqsV, h1, hc], hd, by rw [← h, Bool.and_assoc]⟩

def isAggT (P : Program) (t : TypeId) : Bool := ((P.underlying t).map aggOf).getD false

def asVal (P : Program) (t : TypeId) (xs : List Value) (x : Value) : Prop := if isAggT P t then x = .agg xs.toArray else xs = [x]

section
variable {P : Program} (w : World)

theorem eq_leaf {t : TypeId} {d : TypeDesc} (hu : P.underlying t = some d) (D : Nat) {x y : Value} {b : Bool} (h : eqVL (tkOf d) x y = some b) : (Op.equalIn (D + 1) t x y).run P w = .ok b w := by
  unfold eqVL at h
  split at h <;> first | (simp at h; done) | skip
  all_goals
    rename_i hk
    cases d <;> simp only [tkOf, reduceCtorEq] at hk
  all_goals first
    | (split at h
       · rename_i e; subst e; simp at h; subst h; exact run_equalIn_int w D t _ _ _ _ hu
       · simp at h)
    | (simp at h; subst h; simp [Op.equalIn, run_underlying hu]; done)

theorem run_part_agg {t : TypeId} {xs : Array Value} {off : Nat} {i : TypeInfo} (hi : P.info? t = some i) (hu : (P.underlying t).isSome) (ha : isAggT P t = true) : (part t xs off).run P w = .ok (.agg (xs.extract off (off + i.size))) w := by
  obtain ⟨d, hd⟩ := Option.isSome_iff_exists.1 hu
  have hs := run_sizeOf w hi
  simp only [Program.cellsOf, hi, Option.map_some, Option.getD_some] at hs
  simp only [isAggT, hd, Option.map_some, Option.getD_some] at ha
  cases d <;> simp only [aggOf, Bool.false_eq_true] at ha <;> simp [part, isAgg, run_underlying hd, hs]

theorem run_part_one {t : TypeId} {xs : Array Value} {off : Nat} {v : Value} (hu : (P.underlying t).isSome) (ha : isAggT P t = false) (hx : xs[off]? = some v) : (part t xs off).run P w = .ok v w := by
  obtain ⟨d, hd⟩ := Option.isSome_iff_exists.1 hu
  simp only [isAggT, hd, Option.map_some, Option.getD_some] at ha
  cases d <;> simp only [aggOf, reduceCtorEq] at ha <;> simp [part, isAgg, run_underlying hd, hx]

theorem leaves_und {d : Nat} {t : TypeId} {L : List TK} (h : leaves P d t = some L) : (P.underlying t).isSome := by
  cases d with
  | zero => simp [leaves] at h
  | succ d => simp only [leaves] at h; split at h <;> simp_all

theorem take_split {α : Type} (l : List α) (off m n : Nat) : (l.drop off).take (m + n) = (l.drop off).take m ++ (l.drop (off + m)).take n := by
  rw [List.take_add, List.drop_drop]

theorem eq_main : ∀ (d : Nat) {t : TypeId} {L : List TK}, leaves P d t = some L → ∀ (D : Nat), d ≤ D → ∀ {xs ys : List Value} {b : Bool}, xs.length = L.length → ys.length = L.length → eqsV L xs ys = some b →
    ∀ {x y : Value}, asVal P t xs x → asVal P t ys y → (Op.equalIn D t x y).run P w = .ok b w := by
  intro d
  induction d with
  | zero => intro t L h; simp [leaves] at h
  | succ d ih =>
    intro t L h D hD xs ys b hx hy he x y hax hay
    obtain ⟨D, rfl⟩ : ∃ m, D = m + 1 := ⟨D - 1, by omega⟩
    have leafy : ∀ {k : TypeDesc}, P.underlying t = some k → aggOf k = false → L = [tkOf k] → (Op.equalIn (D + 1) t x y).run P w = .ok b w := by
      intro k hk ha hL
      subst hL
      simp only [asVal, isAggT, hk, Option.map_some, Option.getD_some, ha, Bool.false_eq_true, if_false] at hax hay
      subst hax; subst hay
      simp only [eqsV] at he
      cases h1 : eqVL (tkOf k) x y with
      | none => rw [h1] at he; simp at he
      | some c => rw [h1] at he; simp at he; subst he; exact eq_leaf w hk D h1
    simp only [leaves] at h
    split at h
    · rename_i fs hu
      split at h
      · simp at h
      · rename_i hp
        simp only [asVal, isAggT, hu, Option.map_some, Option.getD_some, aggOf, if_true] at hax hay
        subst hax; subst hay
        have hf : P.fieldsOf t = fs := by simp [Program.fieldsOf, hu]
        rw [run_equalIn_struct w D t _ _ (by rw [hf]; exact hu) (by simpa using hp), hf]
        have key : ∀ (fl : List Field) (off : Nat) (L : List TK) (b : Bool), leavesF P (leaves P d) fl off = some L → eqsV L ((xs.drop off).take L.length) ((ys.drop off).take L.length) = some b → off + L.length ≤ xs.length → off + L.length ≤ ys.length →
            (Op.eqFields D xs.toArray ys.toArray fl).run P w = .ok b w := by
          intro fl
          induction fl with
          | nil => intro off L b hL he _ _; simp [leavesF] at hL; subst hL; simp [eqsV] at he; subst he; simp [Op.eqFields]
          | cons f fl ihf =>
            intro off L b hL he hlx hly
            simp only [leavesF] at hL
            split at hL
            · simp at hL
            · rename_i l hl
              split at hL
              case isFalse => simp at hL
              rename_i hc
              obtain ⟨hoff, hname, hsize⟩ := hc
              simp only [Option.map_eq_some_iff] at hL
              obtain ⟨m, hm, rfl⟩ := hL
              rw [List.length_append] at he hlx hly
              rw [take_split, take_split] at he
              obtain ⟨c, e, h1, h2, rfl⟩ := eqsV_append l (by simp; omega) (by simp; omega) he
              have hrest := ihf (off + l.length) m e hm h2 (by omega) (by omega)
              simp only [Option.map_eq_some_iff] at hsize
              obtain ⟨i, hi, hsz⟩ := hsize
              have hund := leaves_und hl
              have hpart : ∀ (zs : List Value), off + l.length ≤ zs.length → ∃ z, (part f.type zs.toArray f.offset).run P w = .ok z w ∧ asVal P f.type ((zs.drop off).take l.length) z := by
                intro zs hz
                cases ha : isAggT P f.type with
                | true =>
                  refine ⟨_, run_part_agg w hi hund ha, ?_⟩
                  simp only [asVal, ha, if_true, hsz, hoff]
                  congr 1
                  apply Array.ext'
                  simp [List.extract_eq_take_drop]
                | false =>
                  have l1 : l.length = 1 := by
                    cases d with
                    | zero => simp [leaves] at hl
                    | succ d =>
                      simp only [leaves] at hl
                      split at hl <;> first | (simp at hl; subst hl; rfl) | (simp at hl; done) | skip
                      rename_i hu'
                      simp [isAggT, hu', aggOf] at ha
                  have hlt : off < zs.length := by omega
                  refine ⟨zs[off], run_part_one w hund ha (by simp [hoff, hlt]), ?_⟩
                  simp only [asVal, ha, Bool.false_eq_true, if_false, l1]
                  rw [List.drop_eq_getElem_cons hlt, List.take_succ_cons, List.take_zero]
              obtain ⟨p, hp1, hp2⟩ := hpart xs (by omega)
              obtain ⟨q, hq1, hq2⟩ := hpart ys (by omega)
              have heq := ih hl D (by omega) (by simp; omega) (by simp; omega) h1 hp2 hq2
              rw [Op.eqFields]
              simp only [hname, ne_eq, not_false_eq_true, if_true, Sem.run_bind, hp1, hq1, heq, Result.andThen_ok]
              cases c
              · simp
              · simpa using hrest
        refine key fs.toList 0 L b h ?_ (by omega) (by omega)
        rw [List.drop_zero, List.drop_zero, List.take_of_length_le (by omega), List.take_of_length_le (by omega)]
        exact he
    all_goals first
      | (rename_i hu; simp at h; exact leafy hu rfl h.symm)
      | (simp at h; done)

end
end Go.Pt

/- Each operation that the abstract machine does is one that the model does: tests, sums, slices, calls, builtins. -/
namespace Go.Pt
open Go

section
variable {P : Program} {n₀ : Nat} {tab : Nat → Ty} {w : World} {ρ : Ro} {s : St} {a : Act} {o : Oper} {K E : AV → List Ent → Prop} {next : Act → World → Prop} {Q : Exit → Act → World → Prop}

theorem kn_eq {k k' : IntKind} (h : beN (kn k) (kn k') = true) : k = k' := by
  cases k <;> cases k' <;> first | rfl | (simp [kn] at h)

theorem leaf_sound {S : Nat → Nat → Prop} {n : Nat} {k : TK} {x y : AV} {v u : Value} {b : Bool} (h : eqLeaf (std P n₀) k x y = some b) (hx : Val w S ρ n x v) (hy : Val w S ρ n y u) : eqVL k v u = some b := by
  obtain ⟨d1, hx⟩ := hx
  obtain ⟨d2, hy⟩ := hy
  cases d1 with
  | zero => exact hx.elim
  | succ d1 =>
    cases d2 with
    | zero => exact hy.elim
    | succ d2 =>
      cases k <;> simp only [eqLeaf] at h
      case int =>
        cases x <;> first | (simp at h; done) | skip
        cases y <;> first | (simp at h; done) | skip
        simp only [Cz] at hx hy
        subst hx; subst hy
        dsimp only at h
        split at h
        · rename_i e
          have := kn_eq e; subst this
          simp only [Option.some.injEq] at h; subst h
          simp [eqVL, std, stdOps]
        · simp at h
      case bool =>
        have tel : ∀ {v : AV} {t : Bool} {u : Value} {d : Nat}, v.tell = some t → Cz w S ρ (d + 1) n v u → u = .bool t := by
          intro v t u d e h
          unfold AV.tell at e
          split at e <;> simp at e <;> subst e <;> exact h
        split at h
        · rename_i p hp
          split at h
          · rename_i q hq
            have := tel hp hx; subst this
            have := tel hq hy; subst this
            simp only [Option.some.injEq] at h; subst h
            simp [eqVL, std, stdOps]
          · simp at h
        · simp at h
      case str =>
        cases x <;> first | (simp at h; done) | skip
        cases y <;> first | (simp at h; done) | skip
        simp only [Cz] at hx hy
        subst hx; subst hy
        simp only [Option.some.injEq] at h; subst h
        simp [eqVL, std, stdOps]
      case other => simp at h
      case slice => simp at h
      case struct => simp at h
      case arr => simp at h
      case iface => simp at h
      case tup => simp at h
      all_goals
        cases x <;> first | (simp at h; done) | skip
        all_goals (cases y <;> first | (simp at h; done) | skip)
        all_goals
          simp only [Cz] at hx hy
          simp only [Option.some.injEq] at h
          subst h
        all_goals first
          | (subst hx; subst hy; rfl)
          | (subst hx; obtain ⟨_, rfl⟩ := hy; rfl)
          | (subst hy; obtain ⟨_, rfl⟩ := hx; rfl)
          | (subst hx; obtain ⟨_, _, _, rfl, _⟩ := hy; rfl)
          | (subst hy; obtain ⟨_, _, _, rfl, _⟩ := hx; rfl)
          | (subst hx; obtain ⟨_, rfl, _⟩ := hy; rfl)
          | (subst hy; obtain ⟨_, rfl, _⟩ := hx; rfl)

theorem all_sound {S : Nat → Nat → Prop} {n : Nat} : ∀ {ks : List TK} {xs ys : List AV} {vs us : List Value} {b : Bool}, eqAll (std P n₀) ks xs ys = some b → All2 (Val w S ρ n) xs vs → All2 (Val w S ρ n) ys us →
    eqsV ks vs us = some b ∧ vs.length = ks.length ∧ us.length = ks.length
  | [], [], [], [], [], b, h, _, _ => by simp [eqAll] at h; subst h; exact ⟨rfl, rfl, rfl⟩
  | k :: ks, x :: xs, y :: ys, v :: vs, u :: us, b, h, hx, hy => by
    simp only [eqAll] at h
    split at h
    · simp at h
    · rename_i c hc
      have h1 := leaf_sound hc hx.1 hy.1
      split at h
      · split at h
        · split at h
          · simp only [Option.some.injEq] at h; subst h
            have e1 : vs = [] := by cases vs with | nil => rfl | cons _ _ => exact hx.2.elim
            have e2 : us = [] := by cases us with | nil => rfl | cons _ _ => exact hy.2.elim
            subst e1; subst e2
            simp [eqsV, h1]
          · simp at h
        · simp at h
      · split at h
        · simp at h
        · rename_i e he
          obtain ⟨h2, h3, h4⟩ := all_sound he hx.2 hy.2
          simp only [Option.some.injEq] at h; subst h
          simp [eqsV, h1, h2, h3, h4, std, stdOps]
  | [], [], [], _ :: _, _, _, _, hx, _ => hx.elim
  | [], [], [], [], _ :: _, _, _, _, hy => hy.elim
  | [], _ :: _, _, _, _, _, h, _, _ => by simp [eqAll] at h
  | [], [], _ :: _, _, _, _, h, _, _ => by simp [eqAll] at h
  | _ :: _, [], _, _, _, _, h, _, _ => by simp [eqAll] at h
  | _ :: _, _ :: _, [], _, _, _, h, _, _ => by simp [eqAll] at h
  | _ :: _, _ :: _, _ :: _, [], _, _, _, hx, _ => hx.elim
  | _ :: _, _ :: _, _ :: _, _ :: _, [], _, _, _, hy => hy.elim

/-- The test '==' of two values that the machine can tell apart. -/
theorem run_eqT (ht : TabOk P tab) {t : TypeId} {x y : AV} {v u : Value} {b : Bool} {S : Nat → Nat → Prop} {n : Nat} (h : eqT (std P n₀) (tab t) x y = some b) (hx : Val w S ρ n x v) (hy : Val w S ρ n y u) :
    ((binOp .eql t v u).run P w = .ok (.bool b) w ∧ (binOp .neq t v u).run P w = .ok (.bool (!b)) w) ∧ (∀ op p q, (eqGuard op t p q v u).run P w = .ok () w) := by
  unfold eqT at h
  split at h
  · simp at h
  rename_i ks hks
  have hno : tab t ≠ Ty.no := fun e => by rw [e] at hks; simp [Ty.no] at hks
  obtain ⟨i, d, z, hty⟩ := ht.of hno
  rw [hty.lv] at hks h
  have hlv : P.eqGuardType P.depth t = false ∧ leaves P 8 t = some (lvOf P t) := by
    unfold lvOf at hks ⊢
    split at hks
    · exact absurd rfl hks
    · rename_i hg
      refine ⟨by simpa using hg, ?_⟩
      simp only [hg, if_false, Bool.false_eq_true]
      cases hl : leaves P 8 t with
      | none => rw [hl] at hks; simp at hks
      | some l => simp
  split at h
  · rename_i ha
    have hagg : isAggT P t = true := by rw [hty.agg] at ha; simp [isAggT, hty.und, ha]
    cases x <;> first | (simp at h; done) | skip
    cases y <;> first | (simp at h; done) | skip
    rename_i xs ys
    obtain ⟨vs, rfl, h1⟩ := val_agg hx
    obtain ⟨us, rfl, h2⟩ := val_agg hy
    obtain ⟨h3, h4, h5⟩ := all_sound (P := P) h h1 h2
    have hm := eq_main w 8 hlv.2 10000 (by omega) h4 h5 h3 (x := .agg vs.toArray) (y := .agg us.toArray) (by simp [asVal, hagg]) (by simp [asVal, hagg])
    exact ⟨⟨by rw [run_eql_struct, hm]; rfl, by rw [run_neq_struct, hm]; rfl⟩, fun op p q => run_eqGuard_agg w op t p q _ _ hlv.1⟩
  · rename_i ha
    have hagg : isAggT P t = false := by rw [hty.agg] at ha; simp [isAggT, hty.und, ha]
    obtain ⟨h3, h4, h5⟩ := all_sound (P := P) (vs := [v]) (us := [u]) h ⟨hx, trivial⟩ ⟨hy, trivial⟩
    have hm := eq_main w 8 hlv.2 10000 (by omega) h4 h5 h3 (x := v) (y := u) (by simp [asVal, hagg]) (by simp [asVal, hagg])
    have hk : ∃ k, eqVL k v u = some b := by
      cases hl : lvOf P t with
      | nil => exact absurd hl hks
      | cons k ks =>
        rw [hl] at h3 h4
        have : ks = [] := by simpa using h4
        subst this
        refine ⟨k, ?_⟩
        simp only [eqsV] at h3
        cases hc : eqVL k v u with
        | none => rw [hc] at h3; simp at h3
        | some c => rw [hc] at h3; simpa using h3
    obtain ⟨k, hk⟩ := hk
    refine ⟨?_, fun op p q => ?_⟩
    · clear h3 h4 h5 h hx hy
      unfold eqVL at hk
      split at hk <;> first | (simp at hk; done) | skip
      · split at hk
        · rename_i e; subst e; simp only [Option.some.injEq] at hk; subst hk
          exact ⟨by simp [binOp, Op.intCmp], by simp [binOp, Op.intCmp, bne]⟩
        · simp at hk
      · exact ⟨by simp [binOp, Op.equal, Op.maxDepth, hm], by simp [binOp, Op.equal, Op.maxDepth, hm]⟩
      · simp only [Option.some.injEq] at hk; subst hk
        exact ⟨by simp [binOp, Op.stringOp, beq_toListBytes], by simp [binOp, Op.stringOp, beq_toListBytes]⟩
      all_goals exact ⟨by simp [binOp, Op.equal, Op.maxDepth, hm], by simp [binOp, Op.equal, Op.maxDepth, hm]⟩
    · cases op <;> first | rfl | skip
      all_goals
        unfold eqVL at hk
        split at hk <;> first | (simp at hk; done) | (simp [eqGuard]; done)

/-- What the model's integer operations come to. -/
def intOp (p : BinOp) (k : IntKind) (x y : Int) : Sem Value :=
  match p with
  | .add | .sub | .mul => Op.intArith p k x y
  | .quo | .rem => Op.intDiv p k x y
  | .and | .or | .xor | .andNot => Op.intBits p k x y
  | _ => Op.intCmp p x y

theorem binOp_int {p : BinOp} {k : IntKind} {x y : Int} {t : TypeId} (hp : p ≠ .shl) (hp' : p ≠ .shr) : binOp p t (.int k x) (.int k y) = intOp p k x y := by
  cases p <;> first | exact absurd rfl hp | exact absurd rfl hp' | simp [binOp, intOp]

theorem guard_ok {p : BinOp} {t : TypeId} {x y : Operand} {u v : Value} (h : p ≠ .eql) (h' : p ≠ .neq) : (eqGuard p t x y u v).run P w = .ok () w := by
  cases p <;> first | exact absurd rfl h | exact absurd rfl h' | rfl

end
end Go.Pt

/- Each operation that the abstract machine does is one that the model does: sums, tests, slices, maps made, functions made. -/
namespace Go.Pt
open Go

section
variable {P : Program} {n₀ : Nat} {tab : Nat → Ty} {w : World} {ρ : Ro} {s : St} {a : Act} {o : Oper} {K E : AV → List Ent → Prop} {next : Act → World → Prop} {Q : Exit → Act → World → Prop}

theorem run_binOp {p : BinOp} {t t' : TypeId} {x y : Operand} {r : Value} (ho : o.op = .binOp p t x y t') (hg : (eqGuard p t x y (a.eval x) (a.eval y)).run P w = .ok () w) (h : (binOp p t (a.eval x) (a.eval y)).run P w = .ok r w) :
    (execOp a.eval o).run P w = .ok (.value r) w := by
  simp [execOp, ho, hg, h]

theorem sound_binOp (ht : TabOk P tab) {p : BinOp} {t t' : TypeId} {x y : Operand} (ho : o.op = .binOp p t x y t') (hs : RelS ρ s a w) (h : aop (std P n₀) tab (.binOp p t x y t') s K E) (hg : Goes ρ s a w o.dst K next) : o.wp P a w next Q := by
  have hx := ev_val hs x
  have hy := ev_val hs y
  have arith : ∀ {k k' : IntKind} {m n : Int} {r : AV} {rv : Value}, p ≠ .eql → p ≠ .neq → p ≠ .shl → p ≠ .shr → s.ev x = .int k m → s.ev y = .int k' n → beN (kn k) (kn k') = true → K r s.hp →
      (intOp p k m n).run P w = .ok rv w → Val w (Stay ρ s.hp) ρ s.hp.length r rv → o.wp P a w next Q := by
    intro k k' m n r rv p1 p2 p3 p4 ex ey hk hkk hr hv
    have := kn_eq hk; subst this
    rw [ex] at hx; rw [ey] at hy
    refine wp_value (v := rv) (w' := w) (run_binOp ho (guard_ok p1 p2) ?_) (hg.here hs hkk hv)
    rw [val_int hx, val_int hy, binOp_int p3 p4]
    exact hr
  have shifts : ∀ {k k' : IntKind} {m n : Int}, p = .shl ∨ p = .shr → s.ev x = .int k m → s.ev y = .int k' n → 0 ≤ n → K (.int k (stdOps.sh p k m n)) s.hp → o.wp P a w next Q := by
    intro k k' m n hp ex ey h0 hk
    rw [ex] at hx; rw [ey] at hy
    refine wp_value (v := .int k (stdOps.sh p k m n)) (w' := w) (run_binOp ho (guard_ok (by rcases hp with e | e <;> simp [e]) (by rcases hp with e | e <;> simp [e])) ?_) (hg.here hs hk ⟨1, rfl⟩)
    rw [val_int hx, val_int hy]
    have : ¬ n < 0 := by omega
    rcases hp with e | e <;> subst e <;> simp [binOp, Op.shift, this, stdOps]
  have strs : ∀ {u v : ByteArray} {r : AV} {rv : Value}, p ≠ .eql → p ≠ .neq → p ≠ .shl → p ≠ .shr → s.ev x = .str u → s.ev y = .str v → K r s.hp → (Op.stringOp p u v).run P w = .ok rv w → Val w (Stay ρ s.hp) ρ s.hp.length r rv → o.wp P a w next Q := by
    intro u v r rv p1 p2 p3 p4 ex ey hk hr hv
    rw [ex] at hx; rw [ey] at hy
    refine wp_value (v := rv) (w' := w) (run_binOp ho (guard_ok p1 p2) ?_) (hg.here hs hk hv)
    rw [val_str hx, val_str hy]
    cases p <;> first | exact absurd rfl p1 | exact absurd rfl p2 | exact absurd rfl p3 | exact absurd rfl p4 | (simpa [binOp] using hr)
  have sln : ∀ {z : Nat} {xs : List AV} {tk : Tok} (q : BinOp), s.ev x = .sl z xs tk → s.ev y = .nils → (p = .eql ∨ p = .neq) → (∀ b : Bool, (xs ≠ [] → b = decide (p = .neq)) → K (.bool b) s.hp) → (∃ e, P.underlying t = some (.slice e)) → o.wp P a w next Q := by
    intro z xs tk q ex ey hp hk hu
    rw [ex] at hx; rw [ey] at hy
    obtain ⟨ad, len, cap, hv, hl, _, _, hne⟩ := val_sl hx
    have hv2 := val_nils hy
    obtain ⟨e, hu⟩ := hu
    have run' : ∀ D, (Op.equalIn (D + 1) t (.slice ad len cap) (.slice none 0 0)).run P w = .ok ad.isNone w := by
      intro D; cases ad <;> simp [Op.equalIn, run_underlying hu]
    have run := run' 9999
    have hgd : (eqGuard p t x y (a.eval x) (a.eval y)).run P w = .ok () w := by rw [hv, hv2]; cases p <;> rfl
    have hne' : xs ≠ [] → ad.isNone = false := fun e => by obtain ⟨b, o', e', _⟩ := hne e; simp [e']
    rcases hp with e | e <;> subst e
    · refine wp_value (v := .bool ad.isNone) (w' := w) (run_binOp ho hgd ?_) (hg.here hs (hk _ (by simpa using hne')) ⟨1, rfl⟩)
      rw [hv, hv2]; simp [binOp, Op.equal, Op.maxDepth, run]
    · refine wp_value (v := .bool (!ad.isNone)) (w' := w) (run_binOp ho hgd ?_) (hg.here hs (hk _ (fun e => by simp [hne' e])) ⟨1, rfl⟩)
      rw [hv, hv2]; simp [binOp, Op.equal, Op.maxDepth, run]
  have eqs : ∀ {b : Bool}, eqT (std P n₀) (tab t) (s.ev x) (s.ev y) = some b → (p = .eql ∧ K (.bool b) s.hp ∨ p = .neq ∧ K (.bool (!b)) s.hp) → o.wp P a w next Q := by
    intro b he hk
    obtain ⟨⟨h1, h2⟩, h3⟩ := run_eqT ht he hx hy
    rcases hk with ⟨e, hk⟩ | ⟨e, hk⟩ <;> subst e
    · exact wp_value (run_binOp ho (h3 _ _ _) h1) (hg.here hs hk ⟨1, rfl⟩)
    · exact wp_value (run_binOp ho (h3 _ _ _) h2) (hg.here hs hk ⟨1, rfl⟩)
  have cmps : p = .lss ∨ p = .leq ∨ p = .gtr ∨ p = .geq → cpA (std P n₀) p (s.ev x) (s.ev y) (fun v => K v s.hp) → o.wp P a w next Q := by
    intro hp h
    have n1 : p ≠ .eql := by rcases hp with e | e | e | e <;> simp [e]
    have n2 : p ≠ .neq := by rcases hp with e | e | e | e <;> simp [e]
    have n3 : p ≠ .shl := by rcases hp with e | e | e | e <;> simp [e]
    have n4 : p ≠ .shr := by rcases hp with e | e | e | e <;> simp [e]
    unfold cpA at h
    split at h
    · rename_i k m ex
      split at h
      · rename_i k' n ey
        split at h
        · rename_i hk
          refine arith n1 n2 n3 n4 ex ey hk h (rv := .bool (stdOps.cmp p m n)) ?_ ⟨1, rfl⟩
          rcases hp with e | e | e | e <;> subst e <;> simp [intOp, Op.intCmp, stdOps]
        · exact h.elim
      · exact h.elim
    · rename_i u ex
      split at h
      · rename_i v ey
        refine strs n1 n2 n3 n4 ex ey h (rv := .bool (stdOps.scmp p u v)) ?_ ⟨1, rfl⟩
        rcases hp with e | e | e | e <;> subst e <;> simp [Op.stringOp, stdOps]
      · exact h.elim
    · exact h.elim
  have nums : p = .sub ∨ p = .mul ∨ p = .and ∨ p = .or ∨ p = .xor ∨ p = .andNot ∨ p = .add → arA (std P n₀) p (s.ev x) (s.ev y) (fun v => K v s.hp) → o.wp P a w next Q := by
    intro hp h
    unfold arA at h
    split at h
    · rename_i k m ex
      split at h
      · rename_i k' n ey
        split at h
        · rename_i hk
          refine arith (by rcases hp with e | e | e | e | e | e | e <;> simp [e]) (by rcases hp with e | e | e | e | e | e | e <;> simp [e]) (by rcases hp with e | e | e | e | e | e | e <;> simp [e]) (by rcases hp with e | e | e | e | e | e | e <;> simp [e]) ex ey hk h (rv := .int k (stdOps.ar p k m n)) ?_ ⟨1, rfl⟩
          rcases hp with e | e | e | e | e | e | e <;> subst e <;> simp [intOp, Op.intArith, Op.intBits, stdOps, bits]
        · exact h.elim
      · exact h.elim
    · rename_i u ex
      split at h
      · rename_i v ey
        split at h
        · refine strs (by simp) (by simp) (by simp) (by simp) ex ey h.2 (rv := .string (u ++ v)) ?_ ⟨1, rfl⟩
          have : ¬ ((u.size + v.size : Nat) : Int) > IntKind.i64.max := by have := h.1; simp [IntKind.max, IntKind.bits, IntKind.signed]; omega
          simp only [Op.stringOp, this, if_false, Sem.run_pure]
        · exact h.elim
      · exact h.elim
    · exact h.elim
  have divs : p = .quo ∨ p = .rem → dvA (std P n₀) p (s.ev x) (s.ev y) (fun v => K v s.hp) → o.wp P a w next Q := by
    intro hp h
    unfold dvA at h
    split at h
    · rename_i k m ex
      split at h
      · rename_i k' n ey
        split at h
        · rename_i hk
          have h0 : n ≠ 0 := h.1
          refine arith (by rcases hp with e | e <;> simp [e]) (by rcases hp with e | e <;> simp [e]) (by rcases hp with e | e <;> simp [e]) (by rcases hp with e | e <;> simp [e]) ex ey hk h.2 (rv := .int k (stdOps.ar p k m n)) ?_ ⟨1, rfl⟩
          rcases hp with e | e <;> subst e <;> simp [intOp, Op.intDiv, h0, stdOps]
        · exact h.elim
      · exact h.elim
    · exact h.elim
  have shfs : p = .shl ∨ p = .shr → shA (std P n₀) p (s.ev x) (s.ev y) (fun v => K v s.hp) → o.wp P a w next Q := by
    intro hp h
    unfold shA at h
    split at h
    · rename_i ex; split at h
      · rename_i ey; exact shifts hp ex ey h.1 h.2
      · exact h.elim
    · exact h.elim
  have equs : ∀ n : Bool, p = (if n then .neq else .eql) → eqA (std P n₀) (tab t) n (s.ev x) (s.ev y) (fun v => K v s.hp) → o.wp P a w next Q := by
    intro n hp h
    unfold eqA at h
    split at h
    · rename_i z xs tk ex ey
      refine sln .eql ex ey (by cases n <;> simp [hp]) (fun b hb => h.2 b (fun e => by rw [hb e]; cases n <;> simp [hp])) ?_
      obtain ⟨e, he⟩ := h.1
      obtain ⟨i, d, z', hty⟩ := ht.kind he (by simp)
      have := hty.k; rw [he] at this
      cases d <;> simp [tkOf] at this; exact ⟨_, hty.und⟩
    · split at h
      · rename_i b he
        cases n
        · exact eqs he (.inl ⟨by simp [hp], h⟩)
        · exact eqs he (.inr ⟨by simp [hp], h⟩)
      · exact h.elim
  simp only [aop] at h
  replace h := binB_A h
  cases p
  case eql => exact equs false rfl h
  case neq => exact equs true rfl h
  case lss => exact cmps (by simp) h
  case leq => exact cmps (by simp) h
  case gtr => exact cmps (by simp) h
  case geq => exact cmps (by simp) h
  case shl => exact shfs (by simp) h
  case shr => exact shfs (by simp) h
  case quo => exact divs (by simp) h
  case rem => exact divs (by simp) h
  all_goals exact nums (by simp) h

theorem sound_makeFunc {fn : Fn} {f1 cs : Array Operand} (ho : o.op = .makeFunc fn f1 cs) (hs : RelS ρ s a w) (h : aop (std P n₀) tab (.makeFunc fn f1 cs) s K E) (hg : Goes ρ s a w o.dst K next) : o.wp P a w next Q := by
  simp only [aop] at h
  split at h
  case h_2 => exact h.elim
  rename_i f
  split at h
  case h_2 => exact h.elim
  rename_i e
  have he : f1 = #[] := by cases f1; simp_all
  subst he
  obtain ⟨d, hd⟩ := all2_depth (evs_val hs cs.toList)
  refine wp_value (v := .func (.func f) #[] (cs.toList.map a.eval).toArray) (w' := w) ?_ (hg.here hs h ⟨d + 1, _, rfl, hd⟩)
  have : cs.map a.eval = (cs.toList.map a.eval).toArray := by apply Array.ext'; simp
  simp [execOp, ho, Instr.makeFunc, this]

theorem sound_makeMap {t : TypeId} {r : Option Operand} (ho : o.op = .makeMap t r) (hs : RelS ρ s a w) (h : aop (std P n₀) tab (.makeMap t r) s K E) (hg : Goes ρ s a w o.dst K next) : o.wp P a w next Q := by
  simp only [aop] at h
  split at h
  case h_2 => exact h.elim
  rw [lenN_eq, snoc_eq] at h
  have hst := hs.rel.push (ρ' := ρ.add s.hp.length w.heap.size) (w' := w.alloc (.map #[] 0)) (e := .mp []) (fun i hi => by simp [Ro.add]; omega) (fun _ _ => rfl) rfl rfl rfl rfl rfl (fun k ob hk => heap_alloc_old hk) (by rw [World.size_alloc]; omega)
    (fun b o ho => by simp only [OwnE, Ro.add, if_true] at ho; omega) (fun hst => ⟨[], 0, by simp only [Ro.add, if_true]; exact heap_alloc_new, trivial, by simp, by simp⟩)
  refine wp_value (v := .map (some w.heap.size)) (w' := w.alloc (.map #[] 0)) ?_ (hg.go _ _ _ _ _ h ⟨1, ?_⟩ hst.1 hst.2)
  · simp [execOp, ho, Instr.makeMap]
  · simp [Cz, Ro.add]

theorem repl_eq {α : Type} (l : List α) : ∀ n, repl n l = (List.replicate n l).flatten
  | 0 => rfl
  | n + 1 => by simp [repl, repl_eq l n, List.replicate_succ]

theorem lits_repl {S : Nat → Nat → Prop} {m : Nat} (l : List Value) : ∀ n, All2 (Val w S ρ m) (repl n (l.map lit)) (repl n l)
  | 0 => trivial
  | n + 1 => (lits_val l).append (lits_repl l n)

theorem repl_length {α : Type} (l : List α) : ∀ n, (repl n l).length = n * l.length
  | 0 => by simp [repl]
  | n + 1 => by simp [repl, repl_length l n, Nat.succ_mul, Nat.add_comm]

theorem repl_get {α : Type} (l : List α) : ∀ (n i : Nat), i < n * l.length → (repl n l)[i]? = l[i % l.length]?
  | 0, i, h => by simp at h
  | n + 1, i, h => by
    by_cases hi : i < l.length
    · rw [repl, List.getElem?_append_left hi, Nat.mod_eq_of_lt hi]
    · have hl : l.length ≤ i := Nat.le_of_not_lt hi
      rw [repl, List.getElem?_append_right hl, repl_get l n _ (by rw [Nat.succ_mul] at h; omega), ← Nat.mod_eq_sub_mod hl]

theorem zeros_repl (z : Array Value) (n k : Nat) (hk : k = n * z.size) : ((Array.range k).map fun i => z[i % z.size]!) = (repl n z.toList).toArray := by
  subst hk
  apply Array.ext'
  apply List.ext_getElem?
  intro i
  simp only [Array.toList_map, Array.toList_range, List.getElem?_map]
  by_cases hi : i < n * z.size
  · rw [repl_get _ _ _ (by simpa using hi)]
    have hz : 0 < z.size := by rcases Nat.eq_zero_or_pos z.size with e | e; · simp [e] at hi
                               · exact e
    have hm : i % z.size < z.size := Nat.mod_lt _ hz
    simp [hi, hm]
  · rw [List.getElem?_eq_none (by simp; omega), List.getElem?_eq_none (by rw [repl_length]; simp; omega)]; rfl

theorem sound_indexAddr (ht : TabOk P tab) {t : TypeId} {x y : Operand} (ho : o.op = .indexAddr t x y) (hs : RelS ρ s a w) (h : aop (std P n₀) tab (.indexAddr t x y) s K E) (hg : Goes ρ s a w o.dst K next) : o.wp P a w next Q := by
  have hx := ev_val hs x
  have hy := ev_val hs y
  simp only [aop] at h
  split at h
  case h_2 => exact h.elim
  rename_i k n ey
  rw [ey] at hy
  have hyv := val_int hy
  split at h
  · rename_i e hk
    obtain ⟨i, d, z, hty⟩ := ht.kind hk (by simp)
    have hd : d = .slice e := by have := hty.k; rw [hk] at this; cases d <;> simp [tkOf] at this; rw [this]
    subst hd
    split at h
    · exact h.elim
    rename_i hok
    obtain ⟨i', d', z', hty'⟩ := ht.ok hok
    have run : ∀ {b o' len cap : Nat}, a.eval x = .slice (some ⟨b, o', none⟩) len cap → 0 ≤ n ∧ n < len → (execOp a.eval o).run P w = .ok (.value (.pointer (some ⟨b, o' + n.toNat * (tab e).size, none⟩))) w := by
      intro b o' len cap hv hn
      have h1 := run_und hty w
      have h2 := run_size hty' w
      simp only [execOp, ho, Instr.indexAt, hyv, hv, Sem.run_bind, asIntOf, Sem.run_pure, Result.andThen_ok, h1, hn.1, hn.2, and_self, if_true, h2, Addr.add]
      split
      · rename_i e0; simp [e0]
      · rfl
    split at h
    · rename_i z'' xs tk ex
      rw [ex] at hx
      split at h
      case h_2 => exact h.elim
      rename_i hz
      have hz' := beN_t hz
      obtain ⟨ad, len, cap, hv, hl, hcap, _, hne⟩ := val_sl hx
      obtain ⟨⟨h0, h1⟩, hkk⟩ := h
      replace h1 : n < (xs.length : Int) := h1
      replace hkk : ∀ e, xs[n.toNat]? = some e → _ := hkk
      have hlt : n.toNat < xs.length := by omega
      obtain ⟨b, o', rfl, hget⟩ := hne (by intro e; simp [e] at hlt)
      obtain ⟨vs, hc, hlen, hrd⟩ := hget n.toNat xs[n.toNat] (by simp [hlt])
      have hK := hkk xs[n.toNat] (by simp [hlt])
      obtain ⟨dd, hdd⟩ := all2_depth hc
      refine wp_value (run hv ⟨h0, by omega⟩) (hg.here hs hK ⟨dd + 1, b, o' + n.toNat * (tab e).size, vs, by simp, hdd, by rw [← hz']; exact hrd⟩)
    · rename_i id off z'' len ex
      rw [ex] at hx
      split at h
      case h_2 => exact h.elim
      rename_i hz
      have hz' := beN_t hz
      obtain ⟨dd, hx⟩ := hx
      cases dd with
      | zero => exact hx.elim
      | succ dd =>
        obtain ⟨hid, cap, hcap, hv⟩ := hx
        refine wp_value (run hv h.1) (hg.here hs h.2 ⟨1, hid, ?_⟩)
        rw [hz']
    · rename_i id z'' lo len N ex
      rw [ex] at hx
      split at h
      case h_2 => exact h.elim
      rename_i hz
      have hz' := beN_t hz
      obtain ⟨hid, ad, ln, cap, hv, hl, hcap, hadr, hloc⟩ := val_vs hx
      obtain ⟨⟨h0, h1⟩, h⟩ := h
      replace h1 : n < len := h1
      replace h : K (.vp id z'' (lo + n) 0) s.hp := h
      have hrun : ∃ b o', (execOp a.eval o).run P w = .ok (.value (.pointer (some ⟨b, o', none⟩))) w ∧ ((ρ.t id).pos = 0 → ∃ k : Nat, lo + n = k ∧ b = (ρ.t id).blk ∧ o' = (ρ.t id).start + k * z'' + 0) := by
        obtain ⟨b, o', rfl⟩ := hadr (by omega)
        refine ⟨b, _, run hv ⟨h0, by omega⟩, fun hp => ?_⟩
        obtain ⟨l, e1, e2, e3⟩ := hloc
        obtain ⟨e4, e5⟩ := e3 hp (by omega)
        simp only [Option.some.injEq, Addr.mk.injEq, and_true] at e4
        refine ⟨l + n.toNat, by omega, e4.1, ?_⟩
        rw [e4.2, Nat.add_mul, hz']; omega
      obtain ⟨b, o', hr, hlo⟩ := hrun
      exact wp_value hr (hg.here hs h ⟨1, hid, b, o', rfl, hlo⟩)
    · exact h.elim
  · rename_i len e hk
    obtain ⟨i, d, z, hty⟩ := ht.kind hk (by simp)
    have hd : d = .array len e := by have := hty.k; rw [hk] at this; cases d <;> simp [tkOf] at this; obtain ⟨rfl, rfl⟩ := this; rfl
    subst hd
    split at h
    · exact h.elim
    rename_i hok
    obtain ⟨i', d', z', hty'⟩ := ht.ok hok
    have run : ∀ {b o' : Nat}, a.eval x = .pointer (some ⟨b, o', none⟩) → 0 ≤ n ∧ n < len → (execOp a.eval o).run P w = .ok (.value (.pointer (some ⟨b, o' + n.toNat * (tab e).size, none⟩))) w := by
      intro b o' hv hn
      have h1 := run_und hty w
      have h2 := run_size hty' w
      simp only [execOp, ho, Instr.indexAt, hyv, hv, Sem.run_bind, asIntOf, Sem.run_pure, Result.andThen_ok, h1, hn.1, hn.2, and_self, if_true, h2, Addr.add, Instr.sureAddr]
      split
      · rename_i e0; simp [e0]
      · rfl
    split at h
    · rename_i id off ex
      rw [ex] at hx
      obtain ⟨hid, hv⟩ := val_ptr hx
      exact wp_value (run hv h.1) (hg.here hs h.2 ⟨1, hid, rfl⟩)
    · rename_i cs off ex
      rw [ex] at hx
      obtain ⟨b, o', vs, hv, h1, h2⟩ := val_cptr hx
      obtain ⟨dd, h1⟩ := all2_depth h1
      exact wp_value (run hv h.1) (hg.here hs h.2 ⟨dd + 1, b, o', vs, by rw [Nat.add_assoc], h1, h2⟩)
    · exact h.elim
  · exact h.elim

theorem sound_index (ht : TabOk P tab) {t : TypeId} {x y : Operand} (ho : o.op = .index t x y) (hs : RelS ρ s a w) (h : aop (std P n₀) tab (.index t x y) s K E) (hg : Goes ρ s a w o.dst K next) : o.wp P a w next Q := by
  have hx := ev_val hs x
  have hy := ev_val hs y
  simp only [aop] at h
  split at h
  case h_2 => exact h.elim
  rename_i k n ey
  rw [ey] at hy
  have hyv := val_int hy
  split at h
  case h_2 => exact h.elim
  rename_i hk
  obtain ⟨i, d, z, hty⟩ := ht.kind hk (by simp)
  have hd : d = .string := by have := hty.k; rw [hk] at this; cases d <;> simp [tkOf] at this; rfl
  subst hd
  split at h
  case h_2 => exact h.elim
  rename_i b ex
  rw [ex] at hx
  have hxv := val_str hx
  obtain ⟨⟨h0, h1⟩, hkk⟩ := h
  replace h1 : n < (b.size : Int) := h1
  replace hkk : ∀ c : UInt8, b.data.toList[n.toNat]? = some c → _ := hkk
  have hlt : n.toNat < b.data.toList.length := by simp; have : b.data.size = b.size := rfl; omega
  have hK := hkk b.data.toList[n.toNat] (by simp)
  refine wp_value (v := .int .u8 (b.data.toList[n.toNat]).toNat) (w' := w) ?_ (hg.here hs hK ⟨1, rfl⟩)
  have hu := run_und hty w
  have hb : b[n.toNat]? = some b.data.toList[n.toNat] := by
    have hs : n.toNat < b.size := by omega
    rw [getElem?_pos b n.toNat hs]
    rfl
  simp only [execOp, ho, Instr.index, hyv, hxv, Sem.run_bind, asIntOf, Sem.run_pure, Result.andThen_ok, hu, h0, if_true, hb]

end
end Go.Pt

/- Each operation that the abstract machine does is one that the model does: things built, slices made, calls, builtins. -/
namespace Go.Pt
open Go

section
variable {P : Program} {n₀ : Nat} {tab : Nat → Ty} {w : World} {ρ : Ro} {s : St} {a : Act} {o : Oper} {K E : AV → List Ent → Prop} {next : Act → World → Prop} {Q : Exit → Act → World → Prop}

theorem foldl_set (l : List Value) : ∀ (off k : Nat) (cs : Array Value), off + k + l.length ≤ cs.size →
    ((l.zipIdx k).foldl (fun cs (x : Value × Nat) => cs.setIfInBounds (off + x.2) x.1) cs).toList = cs.toList.take (off + k) ++ l ++ cs.toList.drop (off + k + l.length) := by
  induction l with
  | nil => intro off k cs h; simp
  | cons v l ih =>
    intro off k cs h
    simp only [List.zipIdx_cons, List.foldl_cons]
    rw [ih off (k + 1) _ (by simp at h ⊢; omega)]
    simp only [Array.toList_setIfInBounds, List.length_cons]
    have hlt : off + k < cs.toList.length := by simp at h ⊢; omega
    rw [show off + (k + 1) = off + k + 1 by omega, List.take_succ_eq_append_getElem (by simpa using hlt)]
    rw [List.getElem_set_self, List.take_set_of_le (Nat.le_refl _), List.drop_set_of_lt (by omega)]
    simp [Nat.add_assoc, Nat.add_comm, Nat.add_left_comm]

theorem fill_sound {S : Nat → Nat → Prop} {n : Nat} {place : Nat → Option (Nat × Nat)} : ∀ {ps : List (Nat × AV)} {vs : List (Nat × Value)} {cs cs' : List AV} {us : List Value},
    fillA place cs ps = some cs' → All2 (fun (x : Nat × AV) (y : Nat × Value) => x.1 = y.1 ∧ Val w S ρ n x.2 y.2) ps vs → All2 (Val w S ρ n) cs us →
    ∃ us', Instr.fill place us.toArray vs = some us' ∧ All2 (Val w S ρ n) cs' us'.toList
  | [], [], cs, cs', us, h, _, hc => by simp [fillA] at h; subst h; exact ⟨_, rfl, hc⟩
  | (i, x) :: ps, (j, v) :: vs, cs, cs', us, h, hp, hc => by
    obtain ⟨⟨hij, hv⟩, hp⟩ := hp
    simp only at hij hv
    subst hij
    simp only [fillA] at h
    split at h
    · simp at h
    · rename_i off size hpl
      split at h
      · simp at h
      · rename_i hsz
        split at h
        · simp at h
        rename_i hnil
        split at h
        · simp at h
        rename_i h1
        split at h
        · simp at h
        · rename_i cs'' hup
          obtain ⟨hvc, _⟩ := hv.cells h1
          have hl := hvc.length
          have hcl := hc.length
          have hsz' : x.cells.length = size := by have := beN_t hsz; rwa [lenN_eq] at this
          obtain ⟨rfl, hle, hlen⟩ := upon_eq _ _ _ hup
          have hvs : v.cells.size = size := by rw [← hsz', hl]; simp
          by_cases he : x.cells = []
          · exact absurd he hnil
          · have hb := hle he
            have hfold := foldl_set v.cells.toList off 0 us.toArray (by simp; simp at hl; omega)
            have key : (v.cells.zipIdx.foldl (fun cs (x : Value × Nat) => cs.setIfInBounds (off + x.2) x.1) us.toArray).toList = us.take off ++ v.cells.toList ++ us.drop (off + v.cells.toList.length) := by
              rw [← Array.foldl_toList, Array.toList_zipIdx]
              simpa using hfold
            have hc2 : All2 (Val w S ρ n) (cs.take off ++ x.cells ++ cs.drop (off + x.cells.length)) (us.take off ++ v.cells.toList ++ us.drop (off + v.cells.toList.length)) :=
              ((hc.take off).append hvc).append (by rw [hl]; exact hc.drop _)
            rw [← key] at hc2
            obtain ⟨us', h2, h3⟩ := fill_sound (us := _) h hp hc2
            refine ⟨us', ?_, h3⟩
            simp only [Instr.fill, hpl, hvs]
            rw [if_neg (by simp; simp at hl; omega)]
            simpa using h2
  | [], _ :: _, _, _, _, _, h, _ => h.elim
  | _ :: _, [], _, _, _, _, h, _ => h.elim

theorem parts_eq (s : St) : ∀ l : List (Nat × Operand), parts s l = l.map fun x => (x.1, s.ev x.2)
  | [] => rfl
  | (_, _) :: l => by simp [parts, parts_eq s l]

theorem parts_val (hs : RelS ρ s a w) : ∀ l : List (Nat × Operand), All2 (fun (x : Nat × AV) (y : Nat × Value) => x.1 = y.1 ∧ Val w (Stay ρ s.hp) ρ s.hp.length x.2 y.2) (parts s l) (l.map fun x => (x.1, a.eval x.2))
  | [] => trivial
  | (_, x) :: l => ⟨⟨rfl, ev_val hs x⟩, parts_val hs l⟩

theorem toList_parts (ps : Array (Nat × Operand)) : (ps.map fun (i, x) => (i, a.eval x)).toList = ps.toList.map fun x => (x.1, a.eval x.2) := by simp

theorem fill_mono {p p' : Nat → Option (Nat × Nat)} (hp : ∀ i x, p i = some x → p' i = some x) : ∀ {vs : List (Nat × Value)} {us us' : Array Value}, Instr.fill p us vs = some us' → Instr.fill p' us vs = some us'
  | [], _, _, h => h
  | (i, v) :: vs, us, us', h => by
    simp only [Instr.fill] at h ⊢
    cases hpi : p i with
    | none => rw [hpi] at h; simp at h
    | some x =>
      obtain ⟨off, size⟩ := x
      rw [hpi] at h
      rw [hp i _ hpi]
      dsimp only at h ⊢
      split at h
      · simp at h
      · rename_i hc
        rw [if_neg hc]
        exact fill_mono hp h

theorem mapM_places : ∀ fs : List Field, (fs.all fun f => (P.info? f.type).isSome) = true → ∃ pl, fs.mapM (fun f => (P.info? f.type).map fun i => (f.offset, i.size)) = some pl ∧ ∀ (i : Nat) f, fs[i]? = some f → ∃ j, P.info? f.type = some j ∧ pl[i]? = some (f.offset, j.size)
  | [], _ => ⟨[], by simp, fun i f h => by simp at h⟩
  | f :: fs, h => by
    simp only [List.all_cons, Bool.and_eq_true] at h
    obtain ⟨j, hj⟩ := Option.isSome_iff_exists.1 h.1
    obtain ⟨pl, h1, h2⟩ := mapM_places fs h.2
    refine ⟨(f.offset, j.size) :: pl, by simp [List.mapM_cons, hj, h1], fun i g hg => ?_⟩
    cases i with
    | zero => simp at hg; subst hg; exact ⟨j, hj, rfl⟩
    | succ i => simpa using h2 i g (by simpa using hg)

theorem sound_build (ht : TabOk P tab) {t : TypeId} {ps : Array (Nat × Operand)} (ho : o.op = .build t ps) (hs : RelS ρ s a w) (h : aop (std P n₀) tab (.build t ps) s K E) (hg : Goes ρ s a w o.dst K next) : o.wp P a w next Q := by
  simp only [aop] at h
  split at h
  case h_2 => exact h.elim
  rename_i hagg
  split at h
  case h_2 => exact h.elim
  rename_i cs hf
  obtain ⟨i, d, z, hty⟩ := ht.agg hagg
  rw [hty.zeros] at hf
  obtain ⟨us, h1, h2⟩ := fill_sound (us := z.cells.toList) hf (parts_val hs ps.toList) (lits_val _)
  obtain ⟨dd, hdd⟩ := all2_depth h2
  refine wp_value (v := .agg us) (w' := w) ?_ (hg.here hs h ⟨dd + 1, us.toList, by simp, hdd⟩)
  rw [← toList_parts] at h1
  rw [hty.agg] at hagg
  have hk := hty.k
  have hsub := hty.sub
  suffices hb : P.built t (ps.map fun (i, x) => (i, a.eval x)).toList = some us by
    simp only [execOp, ho, Sem.run_bind, run_build w t _ us hb, Result.andThen_ok, Sem.run_pure]
  unfold Program.built
  rw [hty.info, hty.und]
  cases d <;> simp only [aggOf, Bool.false_eq_true] at hagg
  · rename_i len e
    rw [hk] at h1
    simp only [subOk] at hsub
    obtain ⟨ie, hie⟩ := Option.isSome_iff_exists.1 hsub
    simp only [hty.zero, hie]
    refine fill_mono (fun j x hx => ?_) (by simpa using h1)
    simp only [tkOf, places] at hx
    split at hx
    · rename_i hok
      obtain ⟨i', d', z', hty'⟩ := ht.ok hok
      have := hty'.info; rw [hie] at this; simp at this; subst this
      rw [← hx, hty'.size]
    · simp at hx
  · rename_i fields
    rw [hk] at h1
    simp only [subOk] at hsub
    obtain ⟨pl, hpl, hget⟩ := mapM_places fields.toList hsub
    simp only [hty.zero, hpl]
    refine fill_mono (fun j x hx => ?_) (by simpa using h1)
    simp only [tkOf, places] at hx
    rw [nth_eq, List.getElem?_map] at hx
    cases hfj : fields.toList[j]? with
    | none => rw [hfj] at hx; simp at hx
    | some f =>
      rw [hfj] at hx
      simp only [Option.map_some] at hx
      obtain ⟨ij, hij, hpj⟩ := hget j f hfj
      split at hx
      · rename_i hok
        obtain ⟨i', d', z', hty'⟩ := ht.ok hok
        have := hty'.info; rw [hij] at this; simp at this; subst this
        simp only [Option.some.injEq] at hx
        rw [← hx, hty'.size]
        simpa using hpj
      · simp at hx

theorem chunks_sound {T : Ty} (h1 : T.agg = false → T.size = 1) : ∀ (n : Nat) {cs xs : List AV}, chunks T n cs = some xs → (∀ y ∈ cs, y.one = true) → xs.length = n ∧ (∀ (j : Nat) x, xs[j]? = some x → x.cells = (cs.drop (j * T.size)).take T.size ∧ x.cells.length = T.size)
  | 0, [], xs, h, _ => by simp [chunks] at h; subst h; simp
  | 0, _ :: _, xs, h, _ => by simp [chunks] at h
  | n + 1, cs, xs, h, ho => by
    simp only [chunks] at h
    split at h
    · simp at h
    · rename_i v hr
      simp only [Option.map_eq_some_iff] at h
      obtain ⟨r, hr', rfl⟩ := h
      obtain ⟨h2, h3⟩ := chunks_sound h1 n hr' (fun y hy => ho y (List.mem_of_mem_drop hy))
      have hv : v.cells = cs.take T.size ∧ v.cells.length = T.size := by
        unfold rd at hr
        split at hr
        case h_2 => simp at hr
        split at hr
        · simp only [Option.map_eq_some_iff] at hr
          obtain ⟨c, hc, rfl⟩ := hr
          rcases cut_eq _ _ _ hc with ⟨rfl, hl⟩ | ⟨e, rfl⟩
          · simp [AV.cells]; omega
          · simp [AV.cells, e]
        · rename_i ha
          rw [nth_eq] at hr
          have := h1 ha
          cases cs with
          | nil => simp at hr
          | cons c cs => simp at hr; subst hr; rw [cells_one (ho c (by simp)), this]; simp
      refine ⟨by simp [h2], fun j x hx => ?_⟩
      cases j with
      | zero => simp at hx; subst hx; simpa using hv
      | succ j =>
        obtain ⟨h4, h5⟩ := h3 j x (by simpa using hx)
        refine ⟨?_, h5⟩
        rw [h4, List.drop_drop, Nat.succ_mul, Nat.add_comm]

/-- A new block that nobody owns. -/
theorem rel_free (h : Rel ρ s.hp w) (ob : Obj) : Stp ρ s.hp w ρ s.hp (w.alloc ob) ∧ Rel ρ s.hp (w.alloc ob) := by
  have hst : Stp ρ s.hp w ρ s.hp (w.alloc ob) := ⟨rfl, rfl, rfl, by rw [World.size_alloc]; omega, fun b o hb => ⟨o, heap_alloc_old hb, okBlk.refl _ _⟩, fun _ _ _ h => h, Nat.le_refl _, fun _ _ => rfl, fun _ _ => .inl rfl, rfl, rfl⟩
  refine ⟨hst, fun i e hi => (h.ents i e hi).keep hst.keeps (lt_of_get hi) rfl (fun hk => ?_) (fun _ _ c e f hc => ⟨c, heap_alloc_old hc, rfl, fun _ _ _ => rfl⟩), h.disj, fun b o ho => by have := h.xlt b o ho; rw [World.size_alloc]; omega, h.xown⟩
  have := h.ents i e hi
  cases e with
  | var cs => obtain ⟨vs, e, _, h2⟩ := this; rw [heap_alloc_old h2, h2]
  | mp es => obtain ⟨ms, c, h1, _⟩ := this; rw [heap_alloc_old h1, h1]
  | lp ps asg body env k st pe => obtain ⟨r, h1, _⟩ := this; rw [heap_alloc_old h1, h1]
  | _ => simp [Ent.blk] at hk

theorem new_stay (h : Rel ρ s.hp w) (o' : Nat) : Stay ρ s.hp w.heap.size o' := by
  refine ⟨?_, fun hx => by have := h.xlt _ _ hx; omega⟩
  rintro ⟨i, e, hi, ho⟩
  have := h.ents i e hi
  cases e with
  | var cs => obtain ⟨vs, e, _, h2⟩ := this; simp only [OwnE] at ho; rw [ho] at h2; have := lt_of_heap h2; omega
  | mp es => obtain ⟨ms, c, h1, _⟩ := this; simp only [OwnE] at ho; rw [ho] at h1; have := lt_of_heap h1; omega
  | lp ps asg body env k st pe => obtain ⟨r, h1, _⟩ := this; simp only [OwnE] at ho; rw [ho] at h1; have := lt_of_heap h1; omega
  | tip pos =>
    obtain ⟨_, _, h3⟩ := this
    obtain ⟨e1, h4, h5⟩ := ho
    obtain ⟨c, e, f, g1, _⟩ := h3 (by omega)
    rw [e1] at g1
    have := lt_of_heap g1; omega
  | vec s xs =>
    obtain ⟨_, _, h3, _⟩ := this
    obtain ⟨e1, h4, h5⟩ := ho
    obtain ⟨c, e, f, g1, _⟩ := h3 (by omega)
    rw [e1] at g1
    have := lt_of_heap g1; omega
  | dead => exact ho.elim

/-- A row of new cells, read as a slice's elements. -/
theorem ones_of {S : Nat → Nat → Prop} {n : Nat} : ∀ {xs : List AV} {vs : List Value}, All2 (Val w S ρ n) xs vs → (∀ x ∈ xs, x.one = true) → ∀ u ∈ vs, u.oneCell' = true
  | [], [], _, _ => by simp
  | x :: xs, v :: vs, h, h1 => by
    intro u hu
    rcases List.mem_cons.1 hu with rfl | hu
    · have hx := h1 x (by simp)
      have := h.1.cells (by rw [cells_one hx]; simp [allOne, hx])
      rw [cells_one hx] at this
      have hl := this.1.length
      cases u <;> first | rfl | skip
      · obtain ⟨d, h⟩ := h.1
        cases d with
        | zero => exact h.elim
        | succ d => cases x <;> simp [AV.one] at hx <;> simp [Cz] at h
      · exact this.2 _ (by simp [Value.cells])
    · exact ones_of h.2 (fun y hy => h1 y (by simp [hy])) u hu
  | [], _ :: _, h, _ => h.elim
  | _ :: _, [], h, _ => h.elim

theorem new_reads {w' : World} {b s' : Nat} {S : Nat → Nat → Prop} {ρ' : Ro} {cs xs : List AV} {vs : List Value} {c : Array Value} {e : TypeId} {f : Nat × Nat} {k0 : Nat}
    (hb : w'.heap[b]? = some (.cells c e f)) (hc : ∀ (j : Nat) u, vs[j]? = some u → c[k0 + j]? = some u) (hS : ∀ j, j < vs.length → S b (k0 + j)) (ho : ∀ u ∈ vs, u.oneCell' = true) (hv : All2 (Val w' S ρ' 0) cs vs)
    (hx : ∀ (j : Nat) x, xs[j]? = some x → x.cells = (cs.drop (j * s')).take s' ∧ x.cells.length = s') :
    ∀ (i : Nat) x, xs[i]? = some x → ∃ us, All2 (Val w' S ρ' 0) x.cells us ∧ us.length = s' ∧ Reads w' S b (k0 + i * s') us := by
  intro i x hi
  obtain ⟨h1, h2⟩ := hx i x hi
  have h3 : All2 (Val w' S ρ' 0) ((cs.drop (i * s')).take s') ((vs.drop (i * s')).take s') := (hv.drop _).take _
  rw [← h1] at h3
  refine ⟨_, h3, by rw [← h3.length, h2], fun j u hu => ?_⟩
  rw [List.getElem?_take] at hu
  split at hu
  · rw [List.getElem?_drop] at hu
    refine ⟨?_, ?_, ho u (List.mem_of_getElem? hu)⟩
    · have := lt_of_get hu
      rw [Nat.add_assoc]; exact hS _ this
    · rw [cellAt_cells hb, Nat.add_assoc]; exact hc _ _ hu
  · simp at hu

theorem vals_depth2 {S : Nat → Nat → Prop} {s' : Nat} {b k0 : Nat} : ∀ {xs : List AV}, (∀ (i : Nat) x, xs[i]? = some x → ∃ us, All2 (Val w S ρ 0) x.cells us ∧ us.length = s' ∧ Reads w S b (k0 + i * s') us) →
    ∃ d, ∀ (i : Nat) x, xs[i]? = some x → ∃ us, All2 (Cz w S ρ d 0) x.cells us ∧ us.length = s' ∧ Reads w S b (k0 + i * s') us := by
  intro xs
  induction xs generalizing k0 with
  | nil => intro _; exact ⟨0, fun i x h => by simp at h⟩
  | cons x xs ih =>
    intro h
    obtain ⟨d, hd⟩ := ih (k0 := k0 + s') (fun i y hy => by
      have := h (i + 1) y (by simpa using hy)
      rwa [Nat.succ_mul, Nat.add_comm (i * s') s', ← Nat.add_assoc] at this)
    obtain ⟨us, h1, h2, h3⟩ := h 0 x rfl
    obtain ⟨d', h1⟩ := all2_depth h1
    refine ⟨max d d', fun i y hy => ?_⟩
    cases i with
    | zero => simp at hy; subst hy; exact ⟨us, h1.imp fun _ _ => Cz.le (Nat.le_max_right _ _), h2, h3⟩
    | succ i =>
      obtain ⟨us, k1, k2, k3⟩ := hd i y (by simpa using hy)
      refine ⟨us, k1.imp fun _ _ => Cz.le (Nat.le_max_left _ _), k2, ?_⟩
      rwa [Nat.succ_mul, Nat.add_comm (i * s') s', ← Nat.add_assoc]

theorem sound_buildSlice (ht : TabOk P tab) {t : TypeId} {n : Nat} {ps : Array (Nat × Operand)} (ho : o.op = .buildSlice t n ps) (hs : RelS ρ s a w) (h : aop (std P n₀) tab (.buildSlice t n ps) s K E) (hg : Goes ρ s a w o.dst K next) : o.wp P a w next Q := by
  simp only [aop] at h
  split at h
  case h_2 => exact h.elim
  rename_i e hk
  split at h
  case h_2 => exact h.elim
  rename_i hok
  split at h
  case h_2 => exact h.elim
  rename_i hlt
  split at h
  case h_2 => exact h.elim
  rename_i cs hf
  split at h
  case h_2 => exact h.elim
  rename_i xs hch
  simp only [Option.bind_eq_some_iff] at hch
  obtain ⟨cs', hfree, hch⟩ := hch
  obtain ⟨i, d, z, hty⟩ := ht.kind hk (by simp)
  have hd : d = .slice e := by have := hty.k; rw [hk] at this; cases d <;> simp [tkOf] at this; rw [this]
  subst hd
  obtain ⟨i', d', z', hty'⟩ := ht.ok hok
  rw [hty'.zeros] at hf
  obtain ⟨us, h1, h2⟩ := fill_sound (us := repl n z'.cells.toList) hf (parts_val hs ps.toList) (lits_repl _ _)
  have hst := rel_free hs.rel (.cells us e)
  obtain ⟨h3, h3'⟩ := freeT_val hfree (h2.imp fun _ _ h => h.step hst.1)
  obtain ⟨h4, h5⟩ := chunks_sound hty'.one n hch h3'
  have hrd := new_reads (k0 := 0) (b := w.heap.size) (S := Stay ρ s.hp) (ρ' := ρ) (w' := w.alloc (.cells us e)) heap_alloc_new (fun j u hu => by simpa using hu) (fun j _ => new_stay hs.rel _) (ones_of h3 h3') h3 h5
  obtain ⟨dd, hdd⟩ := vals_depth2 hrd
  refine wp_value (v := .slice (some ⟨w.heap.size, 0, none⟩) n n) (w' := w.alloc (.cells us e)) ?_ (hg.go _ _ _ _ _ h ⟨dd + 1, _, _, _, rfl, h4.symm, Nat.le_refl _, rfl, fun _ => ⟨_, _, rfl, hdd⟩⟩ hst.1 hst.2)
  have hsz := run_size hty' w
  have hz := run_zero hty' w
  have hu := run_und hty w
  have hlt' : ¬ n * (tab e).size > 2 ^ 24 := by simp only [ltN_eq] at hlt; omega
  rw [← toList_parts] at h1
  have hzero : ∀ zz : Array Value, (n * (tab e).size = 0 → zz = #[]) → (n * (tab e).size ≠ 0 → zz = z'.cells) → ((Array.range (n * (tab e).size)).map fun i => zz[i % zz.size]!) = (repl n z'.cells.toList).toArray := by
    intro zz e0 e1
    by_cases he : n * (tab e).size = 0
    · rw [he]
      apply Array.ext'
      have : (repl n z'.cells.toList).length = 0 := by rw [repl_length]; simp [hty'.zsize, he]
      simp [List.eq_nil_of_length_eq_zero this]
    · rw [e1 he]; exact zeros_repl _ _ _ (by rw [hty'.zsize])
  by_cases he : n * (tab e).size = 0
  · have hz0 := hzero #[] (fun _ => rfl) (fun e => absurd he e)
    simp only [he] at hz0
    have h00 : ¬ (0 : Nat) > 2 ^ 24 := by omega
    simp only [execOp, ho, Instr.buildSlice, Sem.run_bind, hu, hsz, Result.andThen_ok, Sem.run_ite, he, h00, if_true, if_false, Sem.run_pure, hz0, h1]
    simp [newRow]
  · have hz0 := hzero z'.cells (fun e => absurd e he) (fun _ => rfl)
    simp only [execOp, ho, Instr.buildSlice, Sem.run_bind, hu, hsz, Result.andThen_ok, Sem.run_ite, he, hlt', if_false, hz, Sem.run_pure, hz0, h1]
    simp [newRow]

end
end Go.Pt

/- Each operation that the abstract machine does is one that the model does: append, the other builtins, calls. -/
namespace Go.Pt
open Go

section
variable {P : Program} {n₀ : Nat} {tab : Nat → Ty} {w : World} {ρ : Ro} {s : St} {a : Act} {o : Oper} {K E : AV → List Ent → Prop} {next : Act → World → Prop} {Q : Exit → Act → World → Prop}

theorem own_tipAt {σ : List Ent} {id p p' : Nat} {l : Loc} (hid : σ[id]? = some (.tip p)) (b o' : Nat) :
    Own (ρ.tipAt id l) (setN σ id (.tip p')) b o' ↔ (l.blk = b ∧ l.start ≤ o' ∧ o' < l.stop) ∨ ∃ i e, i ≠ id ∧ σ[i]? = some e ∧ OwnE ρ i b o' e := by
  constructor
  · rintro ⟨i, e, hi, ho⟩
    rcases get_set hi with ⟨rfl, rfl⟩ | ⟨hne, hi⟩
    · left; simpa [OwnE, Ro.tipAt] using ho
    · right; refine ⟨i, e, hne, hi, ?_⟩
      cases e <;> first | (simp [OwnE, Ro.tipAt, hne] at ho; done) | simpa [OwnE, Ro.tipAt, hne] using ho
  · rintro (h | ⟨i, e, hne, hi, ho⟩)
    · exact ⟨id, .tip p', by rw [setN_eq]; simp [lt_of_get hid], by simpa [OwnE, Ro.tipAt] using h⟩
    · refine ⟨i, e, by rw [setN_eq, List.getElem?_set]; simp [Ne.symm hne, hi], ?_⟩
      cases e <;> first | (simp [OwnE] at ho; done) | simpa [OwnE, Ro.tipAt, hne] using ho

/-- The tip 'id' moves on: over what it owned, or into a new block. -/
theorem rel_tip (h : Rel ρ s.hp w) {id p p' : Nat} {l : Loc} {w' : World} (hid : s.hp[id]? = some (.tip p)) (hlp : l.pos = p') (hp : p < p' ∨ l = ρ.t id ∧ p = p')
    (hos : w'.os = w.os) (htape : w'.tape = w.tape) (hout : w'.output = w.output) (hsz : w.heap.size ≤ w'.heap.size)
    (hfrm : ∀ (b : Nat) ob, w.heap[b]? = some ob → ∃ ob', w'.heap[b]? = some ob' ∧ okBlk (fun o' => (ρ.t id).blk = b ∧ (ρ.t id).start ≤ o' ∧ o' < (ρ.t id).stop) ob ob')
    (hl : l.start ≤ l.stop) (hown : ∀ o', l.start ≤ o' → o' < l.stop → (l.blk = (ρ.t id).blk ∧ (ρ.t id).start ≤ o' ∧ o' < (ρ.t id).stop) ∨ w.heap.size ≤ l.blk)
    (hok : l.start < l.stop → ∃ c e f, w'.heap[l.blk]? = some (.cells c e f) ∧ l.stop ≤ c.size ∧ ∀ o', l.start ≤ o' → o' < l.stop → w'.frozen? ⟨l.blk, o', none⟩ = false) :
    Stp ρ s.hp w (ρ.tipAt id l) (setN s.hp id (.tip p')) w' ∧ Rel (ρ.tipAt id l) (setN s.hp id (.tip p')) w' := by
  have hidl := lt_of_get hid
  have hlen : (setN s.hp id (.tip p')).length = s.hp.length := by rw [setN_eq]; simp
  obtain ⟨hpos, _, _⟩ := h.ents id _ hid
  have mine : ∀ b o', ((ρ.t id).blk = b ∧ (ρ.t id).start ≤ o' ∧ o' < (ρ.t id).stop) → Own ρ s.hp b o' := fun b o' ho => ⟨id, _, hid, ho⟩
  have hlt : ∀ i f b o', s.hp[i]? = some f → OwnE ρ i b o' f → b < w.heap.size := by
    intro i f b o' hi hf
    have hk := h.ents i f hi
    cases f with
    | var cs => obtain ⟨vs, e, _, h2⟩ := hk; simp only [OwnE] at hf; subst hf; exact lt_of_heap h2
    | mp es => obtain ⟨ms, c, h1, _⟩ := hk; simp only [OwnE] at hf; subst hf; exact lt_of_heap h1
    | lp ps asg body env k st pe => obtain ⟨r, h1, _⟩ := hk; simp only [OwnE] at hf; subst hf; exact lt_of_heap h1
    | tip pos => obtain ⟨_, _, h3⟩ := hk; obtain ⟨rfl, h4, h5⟩ := hf; obtain ⟨c, e, f, g1, _⟩ := h3 (by omega); exact lt_of_heap g1
    | vec s xs => obtain ⟨_, _, h3, _⟩ := hk; obtain ⟨rfl, h4, h5⟩ := hf; obtain ⟨c, e, f, g1, _⟩ := h3 (by omega); exact lt_of_heap g1
    | dead => exact hf.elim
  have hst : Stp ρ s.hp w (ρ.tipAt id l) (setN s.hp id (.tip p')) w' := by
    refine ⟨hos, htape, hout, hsz, fun b ob hb => ?_, fun b o' hb ho => ?_, by omega, fun _ _ => rfl, fun i hi => ?_, rfl, rfl⟩
    · obtain ⟨ob', h1, h2⟩ := hfrm b ob hb
      exact ⟨ob', h1, (okBlk.refl (Own ρ s.hp b) ob).trans h2 (fun o' ho => mine b o' ho)⟩
    · rcases (own_tipAt hid b o').1 ho with ⟨rfl, h1, h2⟩ | ⟨i, e, hne, hi, ho⟩
      · rcases hown o' h1 h2 with ⟨e, h3, h4⟩ | h3
        · rw [e]; exact mine _ _ ⟨rfl, h3, h4⟩
        · omega
      · exact ⟨i, e, hi, ho⟩
    · by_cases e : i = id
      · subst e
        simp only [Ro.tipAt, if_true]
        rcases hp with hp | ⟨hp, _⟩
        · right; omega
        · left; exact hp
      · left; simp [Ro.tipAt, e]
  refine ⟨hst, fun i e hi => ?_, fun i j e f b o' hi hj he hf => ?_, fun b o' ho => by have := h.xlt b o' ho; omega, fun b o' ho hx => h.xown b o' (hst.own b o' (h.xlt b o' hx) ho) hx⟩
  · rcases get_set hi with ⟨rfl, rfl⟩ | ⟨hne, hi⟩
    · refine ⟨by simp [Ro.tipAt, hlp], by simpa [Ro.tipAt] using hl, ?_⟩
      simpa [Ro.tipAt] using hok
    · refine (h.ents i e hi).keep hst.keeps (lt_of_get hi) (by simp [Ro.tipAt, hne]) (fun hk => ?_) (fun hp hlt' c e' f hc => ?_)
      · have hex : ∃ ob, w.heap[ρ.b i]? = some ob ∧ ∀ o', OwnE ρ i (ρ.b i) o' e := by
          have := h.ents i e hi
          cases e with
          | var cs => obtain ⟨vs, e, _, h2⟩ := this; exact ⟨_, h2, fun _ => rfl⟩
          | mp es => obtain ⟨ms, c, h1, _⟩ := this; exact ⟨_, h1, fun _ => rfl⟩
          | lp ps asg body env k st pe => obtain ⟨r, h1, _⟩ := this; exact ⟨_, h1, fun _ => rfl⟩
          | _ => simp [Ent.blk] at hk
        obtain ⟨ob, hob, hall⟩ := hex
        obtain ⟨ob', h1, h2⟩ := hfrm _ _ hob
        have hno : ∀ o', ¬ ((ρ.t id).blk = ρ.b i ∧ (ρ.t id).start ≤ o' ∧ o' < (ρ.t id).stop) := fun o' ho => hne (h.disj i id e _ (ρ.b i) o' hi hid (hall o') ho)
        rw [h1, hob]
        cases ob with
        | cells c e' f =>
          obtain ⟨c', rfl, h3, h4⟩ := h2
          congr 2
          apply Array.ext_getElem?
          intro j; exact h4 j (hno j)
        | loop r =>
          obtain ⟨r', rfl, _, h4⟩ := h2
          rcases h4 with h4 | h4
          · exact absurd h4 (hno 0)
          · rw [h4]
        | _ => rcases h2 with h2 | h2
               · exact absurd h2 (hno 0)
               · rw [h2]
      · obtain ⟨ob', h1, c', rfl, h3, h4⟩ := hfrm _ _ hc
        refine ⟨c', h1, h3, fun o' g1 g2 => h4 o' fun ho => hne (h.disj i id e _ (ρ.t i).blk o' hi hid ?_ ho)⟩
        cases e <;> first | (simp [Ent.row] at hp; done) | exact ⟨rfl, g1, g2⟩
  · have split : ∀ i e, (setN s.hp id (.tip p'))[i]? = some e → OwnE (ρ.tipAt id l) i b o' e → (i = id ∧ l.blk = b ∧ l.start ≤ o' ∧ o' < l.stop) ∨ (i ≠ id ∧ s.hp[i]? = some e ∧ OwnE ρ i b o' e) := by
      intro i e hi he
      rcases get_set hi with ⟨rfl, rfl⟩ | ⟨hne, hi⟩
      · left; exact ⟨rfl, by simpa [OwnE, Ro.tipAt] using he⟩
      · right; refine ⟨hne, hi, ?_⟩
        cases e <;> first | (simp [OwnE, Ro.tipAt, hne] at he; done) | simpa [OwnE, Ro.tipAt, hne] using he
    have clash : ∀ i e, i ≠ id → s.hp[i]? = some e → OwnE ρ i b o' e → l.blk = b → l.start ≤ o' → o' < l.stop → False := by
      intro i e hne hi he hb h1 h2
      rcases hown o' h1 h2 with ⟨e1, h3, h4⟩ | h3
      · exact hne (h.disj i id e _ b o' hi hid he ⟨by rw [← hb, e1], h3, h4⟩)
      · have := hlt i e b o' hi he; omega
    rcases split i e hi he with ⟨rfl, h1, h2, h3⟩ | ⟨hne, hi', he'⟩ <;> rcases split j f hj hf with ⟨rfl, k1, k2, k3⟩ | ⟨hne', hj', hf'⟩
    · rfl
    · exact (clash j f hne' hj' hf' h1 h2 h3).elim
    · exact (clash i e hne hi' he' k1 k2 k3).elim
    · exact h.disj i j e f b o' hi' hj' he' hf'

/-- What is appended: a slice's elements, or a string's bytes. -/
structure Apps (P : Program) (w : World) (S : Nat → Nat → Prop) (ρ : Ro) (size : Nat) (tx : TypeId) (x : Value) (ys : List AV) (news : List Value) : Prop where
  src : ∀ w' : World, (∀ b o u, S b o → cellAt w b o = some u → cellAt w' b o = some u) → Src P size tx x ys.length news w'
  cells : ∀ (i : Nat) y, ys[i]? = some y → ∃ vs, All2 (Val w S ρ 0) y.cells vs ∧ vs.length = size ∧ ∀ (j : Nat) u, vs[j]? = some u → news[i * size + j]? = some u

theorem flat_cells {S : Nat → Nat → Prop} {size b k0 : Nat} : ∀ {xs : List AV}, (∀ (i : Nat) x, xs[i]? = some x → ∃ us, All2 (Val w S ρ 0) x.cells us ∧ us.length = size ∧ Reads w S b (k0 + i * size) us) →
    ∃ all : List Value, all.length = xs.length * size ∧ Reads w S b k0 all ∧ ∀ (i : Nat) x, xs[i]? = some x → ∃ us, All2 (Val w S ρ 0) x.cells us ∧ us.length = size ∧ ∀ (j : Nat) u, us[j]? = some u → all[i * size + j]? = some u := by
  intro xs
  induction xs generalizing k0 with
  | nil => intro _; exact ⟨[], by simp, fun j u hu => by simp at hu, fun i x h => by simp at h⟩
  | cons x xs ih =>
    intro h
    obtain ⟨all, h1, h2, h3⟩ := ih (k0 := k0 + size) (fun i y hy => by
      have := h (i + 1) y (by simpa using hy)
      rwa [Nat.succ_mul, Nat.add_comm (i * size) size, ← Nat.add_assoc] at this)
    obtain ⟨us, g1, g2, g3⟩ := h 0 x rfl
    refine ⟨us ++ all, by simp [h1, g2, Nat.succ_mul, Nat.add_comm], fun j u hu => ?_, fun i y hy => ?_⟩
    · by_cases hj : j < us.length
      · rw [List.getElem?_append_left hj] at hu
        have := g3 j u hu
        simpa using this
      · rw [List.getElem?_append_right (Nat.le_of_not_lt hj)] at hu
        have := h2 _ u hu
        rwa [g2, show k0 + size + (j - size) = k0 + j by omega] at this
    · cases i with
      | zero =>
        simp at hy; subst hy
        exact ⟨us, g1, g2, fun j u hu => by rw [Nat.zero_mul, Nat.zero_add, List.getElem?_append_left (lt_of_get hu)]; exact hu⟩
      | succ i =>
        obtain ⟨vs, k1, k2, k3⟩ := h3 i y (by simpa using hy)
        refine ⟨vs, k1, k2, fun j u hu => ?_⟩
        rw [Nat.succ_mul, Nat.add_comm (i * size) size, Nat.add_assoc, List.getElem?_append_right (by omega), g2, show size + (i * size + j) - size = i * size + j by omega]
        exact k3 j u hu

theorem und_slice (ht : TabOk P tab) {u e' : TypeId} (hu : (tab u).k = .slice e') : P.underlying u = some (.slice e') := by
  obtain ⟨i, d, z, hty⟩ := ht.kind hu (by simp)
  have hd : d = .slice e' := by have := hty.k; rw [hu] at this; cases d <;> simp [tkOf] at this; rw [this]
  rw [← hd]; exact hty.und

theorem Apps.ofSl {u e' : TypeId} (hu : P.underlying u = some (.slice e')) {S : Nat → Nat → Prop} {n size : Nat} {ys : List AV} {tk : Tok} {v : Value} (h : Val w S ρ n (.sl size ys tk) v) :
    ∃ news, Apps P w S ρ size u v ys news ∧ ∀ b o l c, v = .slice (some ⟨b, o, none⟩) l c → Reads w S b o news := by
  obtain ⟨ad, len, cap, rfl, hl, _, _, hne⟩ := val_sl h
  by_cases he : ys = []
  · subst he
    simp only [List.length_nil] at hl
    subst hl
    cases ad with
    | none => exact ⟨[], ⟨fun w' _ => by simpa using Src.ofNil w' hu cap, fun i y h => by simp at h⟩, fun _ _ _ _ _ j u h => by simp at h⟩
    | some ad => exact ⟨[], ⟨fun w' _ => by simpa using Src.ofSlice w' hu ad 0 cap [] (by simp) (by simp) (by simp), fun i y h => by simp at h⟩, fun _ _ _ _ _ j u h => by simp at h⟩
  · obtain ⟨b, o', rfl, hget⟩ := hne he
    obtain ⟨all, h1, h2, h3⟩ := flat_cells hget
    refine ⟨all, ⟨fun w' hw => ?_, h3⟩, fun b' o'' l c e => by
      simp only [Value.slice.injEq, Option.some.injEq, Addr.mk.injEq, and_true] at e
      obtain ⟨⟨rfl, rfl⟩, _⟩ := e; exact h2⟩
    rw [hl]
    refine Src.ofSlice w' hu _ _ cap all h1 (fun j x hx => ?_) (fun x hx => ?_)
    · have := hw _ _ _ (h2 j x hx).1 (h2 j x hx).2.1
      simp only [cellAt] at this
      unfold Addr.add
      split
      · rename_i e; subst e; simpa using this
      · exact this
    · obtain ⟨j, hj⟩ := List.mem_iff_getElem?.1 hx
      exact (h2 j x hj).2.2

theorem Apps.ofNils {u e' : TypeId} (hu : P.underlying u = some (.slice e')) {S : Nat → Nat → Prop} {size : Nat} : Apps P w S ρ size u (.slice none 0 0) [] [] :=
  ⟨fun w' _ => by simpa using Src.ofNil w' hu 0, fun i y h => by simp at h⟩

theorem Apps.ofStr (ht : TabOk P tab) {u : TypeId} (hu : (tab u).k = .str) {S : Nat → Nat → Prop} (b : ByteArray) : Apps P w S ρ 1 u (.string b) (bytesOf b) (byteCells b) := by
  obtain ⟨i, d, z, hty⟩ := ht.kind hu (by simp)
  have hd : d = .string := by have := hty.k; rw [hu] at this; cases d <;> simp [tkOf] at this; rfl
  subst hd
  have hl : (bytesOf b).length = b.size := by simp [bytesOf]
  refine ⟨fun w' _ => by rw [hl]; exact Src.ofString w' hty.und b, fun i y hy => ?_⟩
  simp only [bytesOf, List.getElem?_map, Option.map_eq_some_iff] at hy
  obtain ⟨c, hc, rfl⟩ := hy
  refine ⟨[.int .u8 c.toNat], ⟨⟨1, rfl⟩, trivial⟩, rfl, fun j x hx => ?_⟩
  cases j with
  | zero => simp at hx; subst hx; simp only [byteCells, Nat.mul_one, Nat.add_zero, List.getElem?_map]; rw [hc]; rfl
  | succ j => simp at hx

theorem all2_append_cells {S : Nat → Nat → Prop} {w' : World} {ρ' : Ro} {size b k0 : Nat} {xs ys : List AV} {olds news : List Value}
    (hx : ∀ (i : Nat) x, xs[i]? = some x → ∃ vs, All2 (Val w' S ρ' 0) x.cells vs ∧ vs.length = size ∧ ∀ (j : Nat) u, vs[j]? = some u → olds[i * size + j]? = some u)
    (hy : ∀ (i : Nat) y, ys[i]? = some y → ∃ vs, All2 (Val w' S ρ' 0) y.cells vs ∧ vs.length = size ∧ ∀ (j : Nat) u, vs[j]? = some u → news[i * size + j]? = some u)
    (hol : olds.length = xs.length * size) (hr : Reads w' S b k0 (olds ++ news)) :
    ∀ (i : Nat) x, (xs ++ ys)[i]? = some x → ∃ vs, All2 (Val w' S ρ' 0) x.cells vs ∧ vs.length = size ∧ Reads w' S b (k0 + i * size) vs := by
  intro i x hi
  by_cases hlt : i < xs.length
  · rw [List.getElem?_append_left hlt] at hi
    obtain ⟨vs, h1, h2, h3⟩ := hx i x hi
    refine ⟨vs, h1, h2, fun j u hu => ?_⟩
    have h4 := h3 j u hu
    have := hr (i * size + j) u (by rw [List.getElem?_append_left (lt_of_get h4)]; exact h4)
    rwa [← Nat.add_assoc] at this
  · have hge := Nat.le_of_not_lt hlt
    rw [List.getElem?_append_right hge] at hi
    obtain ⟨vs, h1, h2, h3⟩ := hy _ x hi
    refine ⟨vs, h1, h2, fun j u hu => ?_⟩
    have h4 := h3 j u hu
    have hm : xs.length * size + (i - xs.length) * size = i * size := by rw [← Nat.add_mul]; congr 1; omega
    have := hr (i * size + j) u (by
      rw [List.getElem?_append_right (by rw [hol]; omega), hol, show i * size + j - xs.length * size = (i - xs.length) * size + j by omega]; exact h4)
    rwa [← Nat.add_assoc] at this

theorem vals_keep2 {w' : World} {S S' : Nat → Nat → Prop} {ρ' : Ro} {size : Nat} {xs : List AV} {olds : List Value}
    (hk : ∀ b o u, S b o → cellAt w b o = some u → S' b o ∧ cellAt w' b o = some u)
    (hx : ∀ (i : Nat) x, xs[i]? = some x → ∃ vs, All2 (Val w S ρ 0) x.cells vs ∧ vs.length = size ∧ ∀ (j : Nat) u, vs[j]? = some u → olds[i * size + j]? = some u) :
    ∀ (i : Nat) x, xs[i]? = some x → ∃ vs, All2 (Val w' S' ρ' 0) x.cells vs ∧ vs.length = size ∧ ∀ (j : Nat) u, vs[j]? = some u → olds[i * size + j]? = some u := by
  intro i x hi
  obtain ⟨vs, h1, h2, h3⟩ := hx i x hi
  exact ⟨vs, h1.imp fun _ _ h => h.keep ⟨hk, Nat.le_refl _, fun i hi => by omega, fun i hi => by omega⟩, h2, h3⟩

/-- A slice whose elements lie so. -/
theorem val_sl_mk {w' : World} {S : Nat → Nat → Prop} {ρ' : Ro} {n size len cap : Nat} {xs : List AV} {tk : Tok} {ad : Option Addr} (hl : len = xs.length) (hc : len ≤ cap) (ht : tokOk ρ' n size len cap ad tk)
    (h : xs ≠ [] → ∃ b o, ad = some ⟨b, o, none⟩ ∧ ∀ (i : Nat) x, xs[i]? = some x → ∃ vs, All2 (Val w' S ρ' 0) x.cells vs ∧ vs.length = size ∧ Reads w' S b (o + i * size) vs) : Val w' S ρ' n (.sl size xs tk) (.slice ad len cap) := by
  by_cases he : xs = []
  · exact ⟨1, ad, len, cap, rfl, hl, hc, ht, fun h => absurd he h⟩
  · obtain ⟨b, o', e, h⟩ := h he
    obtain ⟨d, hd⟩ := vals_depth2 h
    exact ⟨d + 1, ad, len, cap, rfl, hl, hc, ht, fun _ => ⟨b, o', e, hd⟩⟩

/-- The slice that an append to xs gives, xs without spare places: no right is told. -/
theorem sound_appQ {t u e : TypeId} {size : Nat} {i : TypeInfo} {T : Ty} {d : TypeDesc} {z : Value} (hut : P.underlying t = some (.slice e)) (hty : TyOk P e T i d z) (hsize : size = T.size) (hs : RelS ρ s a w)
    {xs ys : List AV} {v x : Value} {news : List Value} {ty : TypeId} (hv : Val w (Stay ρ s.hp) ρ s.hp.length (.sl size xs .full) v) (ha : Apps P w (Stay ρ s.hp) ρ size u x ys news)
    (hb : (xs.length + ys.length) * T.bytes ≤ 2 ^ 47) (hpos : 0 < T.bytes) :
    ∃ r w', (Builtin.append_ #[t, u] ty #[v, x]).run P w = .ok r w' ∧ Val w' (Stay ρ s.hp) ρ s.hp.length (.sl size (xs ++ ys) .no) r ∧ Stp ρ s.hp w ρ s.hp w' ∧ Rel ρ s.hp w' := by
  obtain ⟨olds, hxs, hrd⟩ := Apps.ofSl (w := w) hut hv
  obtain ⟨ad, len, cap, rfl, hl, hcap, htk, hne⟩ := val_sl hv
  have hsrc := ha.src w (fun _ _ _ _ h => h)
  have hsi : size = i.size := by rw [hsize, hty.size]
  have hbi : T.bytes = i.bytes := hty.bytes
  have hol : olds.length = xs.length * size := (hxs.src w (fun _ _ _ _ h => h)).newsLen
  have hnl : news.length = ys.length * size := hsrc.newsLen
  simp only [tokOk] at htk
  have htk := htk.symm
  subst htk
  by_cases hys : ys = []
  · subst hys
    have hn0 : news = [] := List.eq_nil_of_length_eq_zero (by rw [hnl]; simp)
    subst hn0
    refine ⟨_, w, run_append_nothing w t u ty _ i hut hty.info ad len len hcap x (by rw [← hsi]; exact hsrc), ?_, Stp.refl _ _ _, hs.rel⟩
    rw [List.append_nil]
    exact val_sl_mk hl (Nat.le_refl _) trivial (fun hn => by
      obtain ⟨b, o', e', hg⟩ := hne hn
      exact ⟨b, o', e', hg⟩)
  · have hyl : 0 < ys.length := by cases ys <;> simp_all
    have h1 := (hxs.src w.drew (fun _ _ _ _ h => h)).cells
    rw [← hl] at h1
    have hlen63 : xs.length + ys.length ≤ 2 ^ 47 := Nat.le_trans (Nat.le_mul_of_pos_right _ hpos) hb
    have hrun := run_append_grow_src w t u ty _ i z hut hty.info hty.zero ad len len olds (by rw [← hsi]; exact h1) x ys.length news (by rw [← hsi]; exact hsrc) (by omega) (by omega)
      (growslice_fits (by omega) (by rw [← hbi, hl]; exact hb))
    have hge := grownCap_ge w (len + ys.length) len e
    obtain ⟨c, g, hg, hrun, hcc⟩ : ∃ (c : Array Value) (g : Nat), len + ys.length ≤ g ∧ (Builtin.append_ #[t, u] ty #[.slice ad len len, x]).run P w = .ok (.slice (some ⟨w.heap.size, 0, none⟩) (len + ys.length) g) (w.drew.alloc (.cells c e)) ∧
      ∀ (j : Nat) v, (olds ++ news)[j]? = some v → c[j]? = some v := by
      refine ⟨_, _, hge, hrun, fun j v hj => ?_⟩
      rw [Array.getElem?_append_left (by simpa using lt_of_get hj)]
      simpa using hj
    have hd := rel_drew hs.rel
    have hp := rel_free hd.2 (.cells c e)
    have hst := hd.1.trans' hp.1
    refine ⟨_, _, hrun, ?_, hst, hp.2⟩
    refine val_sl_mk (by simp [hl]) hg trivial (fun _ => ⟨_, _, rfl, ?_⟩)
    refine all2_append_cells (vals_keep2 hst.keeps.rd hxs.cells) (vals_keep2 hst.keeps.rd ha.cells) hol (fun j v hj => ?_)
    refine ⟨?_, ?_, ?_⟩
    · simpa using new_stay hs.rel j
    · have hh : (w.drew.alloc (.cells c e)).heap[w.heap.size]? = some (.cells c e (0, 0)) := heap_alloc_new (w := w.drew)
      rw [cellAt_cells hh]; simpa using hcc j v hj
    · rcases List.mem_append.1 (List.mem_of_getElem? hj) with hm | hm
      · exact (hxs.src w (fun _ _ _ _ h => h)).one _ hm
      · exact hsrc.one _ hm

/-- The slice that an append to xs gives. -/
theorem sound_app {t u e : TypeId} {size : Nat} {i : TypeInfo} {T : Ty} {d : TypeDesc} {z : Value} (hut : P.underlying t = some (.slice e)) (hty : TyOk P e T i d z) (hsize : size = T.size) (hs : RelS ρ s a w)
    {xs ys : List AV} {tk : Tok} {v x : Value} {news : List Value} {ty : TypeId} (hv : Val w (Stay ρ s.hp) ρ s.hp.length (.sl size xs tk) v) (ha : Apps P w (Stay ρ s.hp) ρ size u x ys news)
    (hb : (xs.length + ys.length) * T.bytes ≤ 2 ^ 47) (hpos : 0 < T.bytes) (h : app (std P n₀) size xs ys tk s.hp K) :
    ∃ r w' ρ' σ' av, (Builtin.append_ #[t, u] ty #[v, x]).run P w = .ok r w' ∧ K av σ' ∧ Val w' (Stay ρ' σ') ρ' σ'.length av r ∧ Stp ρ s.hp w ρ' σ' w' ∧ Rel ρ' σ' w' := by
  obtain ⟨olds, hxs, hrd⟩ := Apps.ofSl (w := w) hut hv
  obtain ⟨ad, len, cap, rfl, hl, hcap, htk, hne⟩ := val_sl hv
  have hsrc := ha.src w (fun _ _ _ _ h => h)
  have hsi : size = i.size := by rw [hsize, hty.size]
  have hbi : T.bytes = i.bytes := hty.bytes
  have hlen63 : xs.length + ys.length ≤ 2 ^ 47 := Nat.le_trans (Nat.le_mul_of_pos_right _ hpos) hb
  have hol : olds.length = xs.length * size := (hxs.src w (fun _ _ _ _ h => h)).newsLen
  have hnl : news.length = ys.length * size := hsrc.newsLen
  -- nothing is appended
  have nothing : ys = [] → (Builtin.append_ #[t, u] ty #[.slice ad len cap, x]).run P w = .ok (.slice ad len cap) w := by
    intro e
    subst e
    have : news = [] := List.eq_nil_of_length_eq_zero (by rw [hnl]; simp)
    subst this
    exact run_append_nothing w t u ty _ i hut hty.info ad len cap hcap x (by rw [← hsi]; exact hsrc)
  -- a new row
  have grows : cap < len + ys.length → ∃ (c : Array Value) (g : Nat), len + ys.length ≤ g ∧ (Builtin.append_ #[t, u] ty #[.slice ad len cap, x]).run P w = .ok (.slice (some ⟨w.heap.size, 0, none⟩) (len + ys.length) g) (w.drew.alloc (.cells c e)) ∧
      c.size = g * size ∧ ∀ (j : Nat) v, (olds ++ news)[j]? = some v → c[j]? = some v := by
    intro hg
    have h1 := (hxs.src w.drew (fun _ _ _ _ h => h)).cells
    rw [← hl] at h1
    have hrun := run_append_grow_src w t u ty _ i z hut hty.info hty.zero ad len cap olds (by rw [← hsi]; exact h1) x ys.length news (by rw [← hsi]; exact hsrc) hg (by omega)
      (growslice_fits hg (by rw [← hbi, hl]; exact hb))
    have hge := grownCap_ge w (len + ys.length) cap e
    refine ⟨_, _, hge, hrun, ?_, fun j v hj => ?_⟩
    · simp [Builtin.zeroCells, hol, hnl, hty.zsize, ← hsize, ← hl]
      rw [← Nat.add_mul, ← Nat.add_mul]; congr 1; omega
    · rw [Array.getElem?_append_left (by simpa using lt_of_get hj)]
      simpa using hj
  have newTip : ∀ {id pos' : Nat} {σ' : List Ent} {ρ' : Ro} {w' : World} {c : Array Value} {g : Nat}, w'.heap[w.heap.size]? = some (.cells c e (0, 0)) → len + ys.length ≤ g → c.size = g * size → (∀ (j : Nat) v, (olds ++ news)[j]? = some v → c[j]? = some v) →
      Stp ρ s.hp w ρ' σ' w' → id < σ'.length → ρ'.t id = ⟨w.heap.size, (len + ys.length) * size, g * size, pos'⟩ → (∀ j, j < (len + ys.length) * size → Stay ρ' σ' w.heap.size j) →
      Val w' (Stay ρ' σ') ρ' σ'.length (.sl size (xs ++ ys) (.tip id pos')) (.slice (some ⟨w.heap.size, 0, none⟩) (len + ys.length) g) := by
    intro id pos' σ' ρ' w' c g hh hg hcs hcc hst hid hloc hstay
    refine val_sl_mk (by simp [hl]) hg ⟨hid, by rw [hloc]; exact Nat.le_refl _, fun _ => by
      rw [hloc]; refine ⟨?_, fun _ => ⟨0, rfl, by simp⟩⟩; show (len + ys.length) * size + (g - (len + ys.length)) * size = g * size; rw [← Nat.add_mul]; congr 1; omega⟩ (fun _ => ⟨_, _, rfl, ?_⟩)
    refine all2_append_cells (vals_keep2 hst.keeps.rd hxs.cells) (vals_keep2 hst.keeps.rd ha.cells) hol (fun j v hj => ?_)
    have hlt := lt_of_get hj
    refine ⟨hstay _ ?_, ?_, ?_⟩
    · rw [List.length_append, hol, hnl, ← Nat.add_mul, ← hl] at hlt
      simpa using hlt
    · rw [cellAt_cells hh]; simpa using hcc j v hj
    · rcases List.mem_append.1 (List.mem_of_getElem? hj) with hm | hm
      · exact (hxs.src w (fun _ _ _ _ h => h)).one _ hm
      · exact hsrc.one _ hm
  cases tk with
  | no => exact h.elim
  | full =>
    simp only [tokOk] at htk
    have htk := htk.symm
    subst htk
    simp only [app, lenN_eq, snoc_eq] at h
    replace h : K (.sl size (xs ++ ys) (.tip s.hp.length (xs.length + ys.length))) (s.hp ++ [.tip (xs.length + ys.length)]) := h
    by_cases hys : ys = []
    · have hp := hs.rel.push (ρ' := ρ.tipAt s.hp.length ⟨0, 0, 0, xs.length + ys.length⟩) (w' := w) (e := .tip (xs.length + ys.length)) (fun _ _ => rfl) (fun i hi => by simp [Ro.tipAt]; omega) rfl rfl rfl rfl rfl (fun _ _ h => h) (Nat.le_refl _)
        (fun b o' ho => by simp [OwnE, Ro.tipAt] at ho) (fun _ => by simp [EntOk, Ro.tipAt])
      refine ⟨_, w, _, _, _, nothing hys, h, ?_, hp.1, hp.2⟩
      subst hys
      rw [List.append_nil]
      refine val_sl_mk hl (Nat.le_refl _) ⟨by simp, by simp [Ro.tipAt], fun _ => by simp [Ro.tipAt, hdr]⟩ (fun hn => ?_)
      obtain ⟨b, o', e', hg⟩ := hne hn
      exact ⟨b, o', e', fun i x hi => let ⟨vs, a1, a2, a3⟩ := hg i x hi; ⟨vs, a1.imp fun _ _ h => h.keep hp.1.keeps.zero, a2, a3.keep hp.1.keeps.rd⟩⟩
    · have hyl : 0 < ys.length := by cases ys <;> simp_all
      obtain ⟨c, g, hg, hrun, hcs, hcc⟩ := grows (by omega)
      have hd := rel_drew hs.rel
      have hp := hs.rel.push (ρ' := ρ.tipAt s.hp.length ⟨w.heap.size, (len + ys.length) * size, g * size, xs.length + ys.length⟩) (w' := w.drew.alloc (.cells c e)) (e := .tip (xs.length + ys.length)) (fun _ _ => rfl) (fun i hi => by simp [Ro.tipAt]; omega) rfl rfl rfl rfl rfl
        (fun _ _ h => heap_alloc_old (w := w.drew) h) (by rw [World.size_alloc]; simp) (fun b o' ho => by simp only [OwnE, Ro.tipAt, if_true] at ho; omega)
        (fun _ => ⟨by simp [Ro.tipAt], by simpa [Ro.tipAt] using Nat.mul_le_mul_right size hg, fun _ => ⟨c, e, (0, 0), by simpa [Ro.tipAt] using heap_alloc_new (w := w.drew), by simp [Ro.tipAt, hcs], fun o' _ _ => by simp only [Ro.tipAt, if_true]; exact World.frozen?_alloc_new w.drew c e o'⟩⟩)
      refine ⟨_, _, _, _, _, hrun, h, ?_, hp.1, hp.2⟩
      refine newTip (heap_alloc_new (w := w.drew)) hg hcs hcc hp.1 (by simp) (by simp [Ro.tipAt]) (fun j hj => ⟨?_, (new_stay hs.rel j).2⟩)
      rintro ⟨i', f, hi, ho⟩
      rcases get_push hi with ⟨hlt, hi⟩ | ⟨rfl, rfl⟩
      · have := (OwnE.congr (ρ := ρ) (ρ' := ρ.tipAt s.hp.length ⟨w.heap.size, (len + ys.length) * size, g * size, xs.length + ys.length⟩) rfl (by simp [Ro.tipAt]; omega)).1 ho
        exact (new_stay hs.rel j).1 ⟨i', f, hi, this⟩
      · simp only [OwnE, Ro.tipAt, if_true] at ho; omega
  | tip id pos =>
    simp only [app] at h
    rw [nth_eq] at h
    split at h
    case h_2 => exact h.elim
    rename_i p hid
    replace h : p = pos ∧ K (.sl size (xs ++ ys) (.tip id (pos + ys.length))) (setN s.hp id (.tip (pos + ys.length))) := h
    obtain ⟨rfl, h⟩ := h
    obtain ⟨hidl, _, hhdr⟩ := htk
    obtain ⟨hpos', hle, hblk⟩ := hs.rel.ents id _ hid
    obtain ⟨hh1, hh2⟩ := hhdr hpos'
    by_cases hys : ys = []
    · have hp := rel_tip hs.rel (l := ρ.t id) (p' := p + ys.length) (w' := w) hid (by rw [hpos']; simp [hys]) (.inr ⟨rfl, by simp [hys]⟩) rfl rfl rfl (Nat.le_refl _) (fun b ob hb => ⟨ob, hb, okBlk.refl _ _⟩) hle (fun o' h1 h2 => .inl ⟨rfl, h1, h2⟩) hblk
      refine ⟨_, w, _, _, _, nothing hys, h, ?_, hp.1, hp.2⟩
      subst hys
      rw [List.append_nil]
      refine val_sl_mk hl hcap ⟨by rw [setN_eq]; simpa using hidl, by simp [Ro.tipAt, hpos'], fun _ => by simpa [Ro.tipAt] using ⟨hh1, hh2⟩⟩ (fun hn => ?_)
      obtain ⟨b, o', e', hg⟩ := hne hn
      exact ⟨b, o', e', fun i x hi => let ⟨vs, a1, a2, a3⟩ := hg i x hi; ⟨vs, a1.imp fun _ _ h => h.keep hp.1.keeps.zero, a2, a3.keep hp.1.keeps.rd⟩⟩
    · have hyl : 0 < ys.length := by cases ys <;> simp_all
      by_cases hroom : len + ys.length ≤ cap
      · obtain ⟨o', rfl, ho'⟩ := hh2 (by omega)
        obtain ⟨st, hst0⟩ : ∃ st, st = (ρ.t id).start := ⟨_, rfl⟩
        have hfit : ys.length * size ≤ (cap - len) * size := Nat.mul_le_mul_right size (by omega)
        have hdr2 : st + ys.length * size + (cap - (len + ys.length)) * size = (ρ.t id).stop := by
          rw [← hh1, ← hst0, Nat.add_assoc, ← Nat.add_mul]; congr 2; omega
        by_cases hz : size = 0
        · -- no cells at all
          have hn0 : news = [] := List.eq_nil_of_length_eq_zero (by rw [hnl, hz]; simp)
          subst hn0
          have hrun := run_append_room_src w t u ty _ i hut hty.info (ρ.t id).blk o' len cap x ys.length [] (by rw [← hsi]; exact hsrc) hroom (by simp) (by simp)
          simp only [World.setCells] at hrun
          have hp := rel_tip hs.rel (l := ⟨(ρ.t id).blk, st + ys.length * size, (ρ.t id).stop, p + ys.length⟩) (p' := p + ys.length) (w' := w) hid rfl (.inl (by omega)) rfl rfl rfl (Nat.le_refl _) (fun b ob hb => ⟨ob, hb, okBlk.refl _ _⟩)
            (by simp only; omega) (fun o'' h1 h2 => .inl ⟨rfl, by simp only at h1; omega, h2⟩) (fun hlt => by
              obtain ⟨c, e', f, g1, g2, g3⟩ := hblk (by simp only at hlt; omega)
              exact ⟨c, e', f, g1, g2, fun o'' h1 h2 => g3 o'' (by simp only at h1; omega) h2⟩)
          refine ⟨_, w, _, _, _, hrun, h, ?_, hp.1, hp.2⟩
          refine val_sl_mk (by simp [hl]) hroom ⟨by rw [setN_eq]; simpa using hidl, by simp [Ro.tipAt], fun _ => by
            simp only [Ro.tipAt, if_true, hdr]; refine ⟨by omega, fun _ => ⟨o', rfl, ?_⟩⟩; rw [hst0, ← ho', hz]; simp⟩ (fun _ => ⟨_, _, rfl, ?_⟩)
          refine all2_append_cells (vals_keep2 hp.1.keeps.rd hxs.cells) (vals_keep2 hp.1.keeps.rd ha.cells) hol (fun j v hj => ?_)
          have : olds = [] := List.eq_nil_of_length_eq_zero (by rw [hol, hz]; simp)
          subst this
          simp at hj
        · have hspos : 0 < size := Nat.pos_of_ne_zero hz
          have hstlt : (ρ.t id).start < (ρ.t id).stop := by
            rw [← hh1]; have : 0 < (cap - len) * size := Nat.mul_pos (by omega) hspos; omega
          obtain ⟨c, e', f, g1, g2, g3⟩ := hblk hstlt
          have hin : st + news.length ≤ c.size := by rw [hnl]; omega
          have hoff : o' + len * i.size = st := by rw [← hsi, ho', hst0]
          have hrun := run_append_room_src w t u ty _ i hut hty.info (ρ.t id).blk o' len cap x ys.length news (by rw [← hsi]; exact hsrc) hroom
            (fun j hj => by rw [hoff]; have hlt : st + j < c.size := by omega
                            simp [World.cell?, g1, hlt])
            (fun j hj => by rw [hoff]; exact g3 _ (by omega) (by rw [← hh1, ← hst0]; rw [hnl] at hj; omega))
          rw [hoff] at hrun
          obtain ⟨c', k1, k2, k3, k4⟩ := setCells_heap (ρ.t id).blk news st w g1
          obtain ⟨q1, q2, q3, q4⟩ := setCells_same (ρ.t id).blk news st w
          have hp := rel_tip hs.rel (l := ⟨(ρ.t id).blk, st + ys.length * size, (ρ.t id).stop, p + ys.length⟩) (p' := p + ys.length) (w' := w.setCells (ρ.t id).blk st news) hid rfl (.inl (by omega)) q2 q3 q4 (by rw [q1]; exact Nat.le_refl _)
            (fun b ob hb => by
              by_cases hbb : b = (ρ.t id).blk
              · subst hbb
                rw [g1] at hb; simp only [Option.some.injEq] at hb; subst hb
                refine ⟨_, k1, c', rfl, k2, fun o'' ho'' => k3 o'' ?_⟩
                rcases Nat.lt_or_ge o'' st with hlt | hge
                · exact .inl hlt
                · right
                  rcases Nat.lt_or_ge o'' (st + news.length) with hlt' | hge'
                  · exact absurd ⟨rfl, by omega, by rw [← hh1, ← hst0]; rw [hnl] at hlt'; omega⟩ ho''
                  · exact hge'
              · exact ⟨ob, by rw [setCells_other _ _ _ _ _ hbb]; exact hb, okBlk.refl _ _⟩)
            (by simp only; omega) (fun o'' h1 h2 => .inl ⟨rfl, by simp only at h1; omega, h2⟩)
            (fun hlt => ⟨c', e', f, k1, by simp only; omega, fun o'' h1 h2 => by rw [World.frozen?_setCells]; exact g3 o'' (by simp only at h1; omega) h2⟩)
          refine ⟨_, _, _, _, _, hrun, h, ?_, hp.1, hp.2⟩
          refine val_sl_mk (by simp [hl]) hroom ⟨by rw [setN_eq]; simpa using hidl, by simp [Ro.tipAt], fun _ => by
            simp only [Ro.tipAt, if_true, hdr]; refine ⟨by omega, fun _ => ⟨o', rfl, ?_⟩⟩; rw [hst0, ← ho', Nat.add_assoc, Nat.add_mul]⟩ (fun _ => ⟨_, _, rfl, ?_⟩)
          refine all2_append_cells (vals_keep2 hp.1.keeps.rd hxs.cells) (vals_keep2 hp.1.keeps.rd ha.cells) hol (fun j v hj => ?_)
          by_cases hjo : j < olds.length
          · rw [List.getElem?_append_left hjo] at hj
            have h1 := hrd _ _ _ _ rfl j v hj
            exact ⟨(hp.1.keeps.rd _ _ _ h1.1 h1.2.1).1, (hp.1.keeps.rd _ _ _ h1.1 h1.2.1).2, h1.2.2⟩
          · have hge := Nat.le_of_not_lt hjo
            rw [List.getElem?_append_right hge] at hj
            have hjl := lt_of_get hj
            have hadr : o' + j = st + (j - olds.length) := by rw [hst0, ← ho', hl, ← hol]; omega
            rw [hadr]
            refine ⟨⟨?_, ?_⟩, ?_, hsrc.one _ (List.mem_of_getElem? hj)⟩
            · intro hown
              rcases (own_tipAt hid _ _).1 hown with ⟨_, h1, h2⟩ | ⟨i'', f', hne', hi', ho'⟩
              · simp only at h1; rw [← hnl] at h1; omega
              · exact hne' (hs.rel.disj i'' id f' _ (ρ.t id).blk (st + (j - olds.length)) hi' hid ho' ⟨rfl, by omega, by rw [← hh1, ← hst0]; rw [hnl] at hjl; omega⟩)
            · exact hs.rel.xown _ _ ⟨id, _, hid, rfl, by omega, by rw [← hh1, ← hst0]; rw [hnl] at hjl; omega⟩
            · rw [cellAt_cells k1]; exact k4 hin _ _ hj
      · obtain ⟨c, g, hg, hrun, hcs, hcc⟩ := grows (by omega)
        have hp := rel_tip hs.rel (l := ⟨w.heap.size, (len + ys.length) * size, g * size, p + ys.length⟩) (p' := p + ys.length) (w' := w.drew.alloc (.cells c e)) hid rfl (.inl (by omega)) rfl rfl rfl (by rw [World.size_alloc]; simp)
          (fun b ob hb => ⟨ob, heap_alloc_old (w := w.drew) hb, okBlk.refl _ _⟩) (Nat.mul_le_mul_right size hg) (fun _ _ _ => .inr (Nat.le_refl _))
          (fun _ => ⟨c, e, (0, 0), heap_alloc_new (w := w.drew), by simp [hcs], fun o' _ _ => World.frozen?_alloc_new w.drew c e o'⟩)
        refine ⟨_, _, _, _, _, hrun, h, ?_, hp.1, hp.2⟩
        refine newTip (heap_alloc_new (w := w.drew)) hg hcs hcc hp.1 (by rw [setN_eq]; simpa using hidl) (by simp [Ro.tipAt]) (fun j hj => ⟨?_, (new_stay hs.rel j).2⟩)
        rintro ⟨i', f, hi, ho⟩
        rcases (own_tipAt hid _ _).1 ⟨i', f, hi, ho⟩ with ⟨_, h1, h2⟩ | ⟨i'', f', _, hi', ho'⟩
        · simp only at h1; omega
        · exact (new_stay hs.rel j).1 ⟨i'', f', hi', ho'⟩

end
end Go.Pt

/- Each operation that the abstract machine does is one that the model does: rows: append, clear, make. -/
namespace Go.Pt
open Go

section
variable {P : Program} {n₀ : Nat} {tab : Nat → Ty} {w : World} {ρ : Ro} {s : St} {a : Act} {o : Oper} {K E : AV → List Ent → Prop} {next : Act → World → Prop} {Q : Exit → Act → World → Prop}

theorem zeroV_val {S : Nat → Nat → Prop} {n : Nat} (ht : TabOk P tab) {t : TypeId} {z : AV} (h : (tab t).zeroV = some z) : ∃ i d v, TyOk P t (tab t) i d v ∧ Val w S ρ n z v ∧ allOne z.cells = true := by
  unfold Ty.zeroV at h
  split at h
  case h_2 => simp at h
  rename_i hok
  split at h
  case h_2 => simp at h
  rename_i hone
  obtain ⟨i, d, zv, hty⟩ := ht.ok hok
  refine ⟨i, d, zv, hty, ?_, ?_⟩
  case refine_2 =>
    split at h
    · simp only [Option.some.injEq] at h; subst h; exact hone
    · rename_i ha
      have h1 := hty.one ha
      have hl := hty.zsize
      rw [h1] at hl
      have hzl : (tab t).zero.length = 1 := by rw [hty.zeros]; simp [hl]
      rcases hz0 : (tab t).zero with _ | ⟨a, l⟩
      · rw [hz0] at hzl; simp at hzl
      · rw [hz0] at h hone hzl
        simp only [nth, Option.some.injEq] at h; subst h
        simp only [allOne] at hone
        split at hone
        · rename_i h1a
          rw [cells_one h1a]; simp [allOne, h1a]
        · simp at hone
  have hl := lits_val (w := w) (S := S) (ρ := ρ) (n := n) zv.cells.toList
  rw [← hty.zeros] at hl
  split at h
  · rename_i ha
    simp at h; subst h
    have : ∃ cs : Array Value, zv = .agg cs := by
      have := hty.zagg
      rw [ha] at this
      cases zv <;> simp [isAggV] at this
      exact ⟨_, rfl⟩
    obtain ⟨cs, rfl⟩ := this
    obtain ⟨d', hd⟩ := all2_depth hl
    exact ⟨d' + 1, cs.toList, by simp, hd⟩
  · rename_i ha
    have h1 := hty.one ha
    have h2 := hty.zsize
    rw [h1] at h2
    have hz := hty.zagg
    rw [ha] at hz
    have hc : ∃ u, zv.cells = #[u] := by
      rcases hcs : zv.cells with ⟨l⟩
      rw [hcs] at h2
      match l, h2 with
      | [], h2 => simp at h2
      | [u], _ => exact ⟨u, rfl⟩
      | _ :: _ :: _, h2 => simp at h2
    obtain ⟨u, hu⟩ := hc
    have hzu : zv = u := by
      cases zv <;> simp [isAggV] at hz <;> simp [Value.cells] at hu <;> exact hu
    rw [nth_eq] at h
    obtain ⟨v, g1, g2⟩ := hl.get h
    rw [hu] at g1
    simp at g1; subst g1
    rw [hzu]; exact g2


/-- Elements' cells, one behind the other. -/
theorem allOne_iff : ∀ {l : List AV}, allOne l = true ↔ ∀ y ∈ l, y.one = true
  | [] => by simp [allOne]
  | x :: l => by
    simp only [allOne, List.mem_cons, forall_eq_or_imp]
    cases h : x.one with
    | true => simp [allOne_iff (l := l)]
    | false => simp
theorem wkTo_allOne (d : Nat) (t : AV) {a : AV} (h : allOne a.cells = true) : allOne (wkTo d t a).cells = true := by
  by_cases hx : ∃ cs, a = .agg cs
  · obtain ⟨cs, rfl⟩ := hx
    cases d with
    | zero => exact h
    | succ d =>
      cases t <;> first | exact h | skip
      exact allOne_iff.2 (wkTL_one (fun t a h => wkTo_one d t h) _ (allOne_iff.1 h))
  · have e : a.cells = [a] := by cases a <;> first | rfl | exact absurd ⟨_, rfl⟩ hx
    rw [e] at h
    have h1 := wkTo_one d t (allOne_iff.1 h a (by simp))
    rw [cells_one h1]
    exact allOne_iff.2 (by simpa using h1)
theorem zeroT_val {S : Nat → Nat → Prop} {n : Nat} (ht : TabOk P tab) {t : TypeId} {z : AV} (h : (tab t).zeroT = some z) : ∃ i d v, TyOk P t (tab t) i d v ∧ Val w S ρ n z v ∧ allOne z.cells = true := by
  unfold Ty.zeroT at h
  split at h
  · rename_i z0 hz0
    simp only [Option.some.injEq] at h; subst h
    obtain ⟨i, d, v, h1, h2, h3⟩ := zeroV_val (w := w) (S := S) (ρ := ρ) (n := n) ht hz0
    exact ⟨i, d, v, h1, wkTo_val 2 _ h2, wkTo_allOne 2 _ h3⟩
  · simp at h

theorem flat_row {R : Nat → Value → Prop} {S : Nat → Nat → Prop} {size k0 : Nat} : ∀ {xs : List AV}, (∀ (i : Nat) x, xs[i]? = some x → ∃ us, All2 (Val w S ρ 0) x.cells us ∧ us.length = size ∧ ∀ (j : Nat) u, us[j]? = some u → R (k0 + i * size + j) u) →
    ∃ all : List Value, all.length = xs.length * size ∧ (∀ (j : Nat) u, all[j]? = some u → R (k0 + j) u) ∧ ∀ (i : Nat) x, xs[i]? = some x → ∃ us, All2 (Val w S ρ 0) x.cells us ∧ us.length = size ∧ ∀ (j : Nat) u, us[j]? = some u → all[i * size + j]? = some u := by
  intro xs
  induction xs generalizing k0 with
  | nil => intro _; exact ⟨[], by simp, fun j u hu => by simp at hu, fun i x h => by simp at h⟩
  | cons x xs ih =>
    intro h
    obtain ⟨all, h1, h2, h3⟩ := ih (k0 := k0 + size) (fun i y hy => by
      have := h (i + 1) y (by simpa using hy)
      rwa [Nat.succ_mul, Nat.add_comm (i * size) size, ← Nat.add_assoc] at this)
    obtain ⟨us, g1, g2, g3⟩ := h 0 x rfl
    refine ⟨us ++ all, by simp [h1, g2, Nat.succ_mul, Nat.add_comm], fun j u hu => ?_, fun i y hy => ?_⟩
    · by_cases hj : j < us.length
      · rw [List.getElem?_append_left hj] at hu
        have := g3 j u hu
        simpa using this
      · rw [List.getElem?_append_right (Nat.le_of_not_lt hj)] at hu
        have := h2 _ u hu
        rwa [g2, show k0 + size + (j - size) = k0 + j by omega] at this
    · cases i with
      | zero =>
        simp at hy; subst hy
        exact ⟨us, g1, g2, fun j u hu => by rw [Nat.zero_mul, Nat.zero_add, List.getElem?_append_left (lt_of_get hu)]; exact hu⟩
      | succ i =>
        obtain ⟨vs, k1, k2, k3⟩ := h3 i y (by simpa using hy)
        refine ⟨vs, k1, k2, fun j u hu => ?_⟩
        rw [Nat.succ_mul, Nat.add_comm (i * size) size, Nat.add_assoc, List.getElem?_append_right (by omega), g2, show size + (i * size + j) - size = i * size + j by omega]
        exact k3 j u hu

/-- What is appended, told in worlds of this memory alone. -/
structure Apq (P : Program) (w : World) (S : Nat → Nat → Prop) (ρ : Ro) (size : Nat) (tx : TypeId) (x : Value) (ys : List AV) (news : List Value) : Prop where
  src : ∀ w' : World, w'.heap = w.heap → Src P size tx x ys.length news w'
  cells : ∀ (i : Nat) y, ys[i]? = some y → ∃ vs, All2 (Val w S ρ 0) y.cells vs ∧ vs.length = size ∧ ∀ (j : Nat) u, vs[j]? = some u → news[i * size + j]? = some u

theorem cellAt_heap {w w' : World} (h : w'.heap = w.heap) (b o : Nat) : cellAt w' b o = cellAt w b o := by
  simp only [cellAt, World.cell?, h]

theorem Apq.of {S : Nat → Nat → Prop} {size : Nat} {tx : TypeId} {x : Value} {ys : List AV} {news : List Value} (h : Apps P w S ρ size tx x ys news) : Apq P w S ρ size tx x ys news :=
  ⟨fun w' hw => h.src w' fun b o u _ hu => by rw [cellAt_heap hw]; exact hu, h.cells⟩

/-- Some of a row's elements. -/
theorem Apq.ofVs {u e' : TypeId} (hu : P.underlying u = some (.slice e')) {S : Nat → Nat → Prop} {n m z id : Nat} {xs : List AV} {lo k N : Int} {v : Value} (he : EntOk w S ρ m id (.vec z xs)) (hv : Val w S ρ n (.vs id z lo k N) v)
    (h0 : 0 ≤ lo) (h1 : 0 ≤ k) (h2 : lo + k ≤ xs.length) : ∃ news, Apq P w S ρ z u v ((xs.take (lo + k).toNat).drop lo.toNat) news := by
  obtain ⟨hp, hl, _, hel⟩ := he
  obtain ⟨_, ad, len, cap, rfl, rfl, hcap, hadr, hloc⟩ := val_vs hv
  obtain ⟨l, rfl, hN, ha⟩ := hloc
  replace ha := ha hp
  rw [Int.toNat_natCast]
  have hlen : ((xs.take ((l : Int) + len).toNat).drop l).length = len := by simp; omega
  obtain ⟨all, g1, g2, g3⟩ := flat_row (xs := (xs.take ((l : Int) + len).toNat).drop l) (size := z) (k0 := (ρ.t id).start + l * z) (w := w) (ρ := ρ) (S := S) (R := fun o u => cellAt w (ρ.t id).blk o = some u ∧ u.oneCell' = true) (fun i x hi => by
    rw [List.getElem?_drop, List.getElem?_take] at hi
    split at hi
    · obtain ⟨vs, a1, a2, a3⟩ := hel _ x hi
      refine ⟨vs, a1, a2, fun j u hj => ?_⟩
      rw [Nat.add_assoc ((ρ.t id).start), ← Nat.add_mul]; exact a3 j u hj
    · simp at hi)
  refine ⟨all, ⟨fun w' hw => ?_, g3⟩⟩
  rw [hlen] at g1 ⊢
  by_cases hc : cap = 0
  · have : len = 0 := by omega
    subst this
    have : all = [] := List.eq_nil_of_length_eq_zero (by rw [g1]; simp)
    subst this
    cases ad with
    | none => exact Src.ofNil w' hu cap
    | some ad => exact Src.ofSlice w' hu ad 0 cap [] (by simp) (by simp) (by simp)
  · obtain ⟨rfl, _⟩ := ha (by omega)
    refine Src.ofSlice w' hu _ _ cap all g1 (fun j x hx => ?_) (fun x hx => ?_)
    · have := (g2 j x hx).1
      rw [← cellAt_heap hw] at this
      simp only [cellAt] at this
      unfold Addr.add
      split
      · rename_i e; subst e; simpa using this
      · exact this
    · obtain ⟨j, hj⟩ := List.mem_iff_getElem?.1 hx
      exact (g2 j x hj).2

theorem asSl_val {size : Nat} {x : AV} {xs : List AV} {tk : Tok} {v : Value} (h : asSl size x = some (xs, tk)) (hv : Val w (Stay ρ s.hp) ρ s.hp.length x v) : Val w (Stay ρ s.hp) ρ s.hp.length (.sl size xs tk) v := by
  unfold asSl at h
  split at h
  · split at h
    · rename_i hz
      simp only [Option.some.injEq, Prod.mk.injEq] at h
      obtain ⟨rfl, rfl⟩ := h
      rw [beN_t hz]; exact hv
    · simp at h
  · simp only [Option.some.injEq, Prod.mk.injEq] at h
    obtain ⟨rfl, rfl⟩ := h
    rw [val_nils hv]
    exact val_sl_mk rfl (Nat.le_refl _) rfl (fun h => absurd rfl h)
  · simp at h

theorem srcV_sound (ht : TabOk P tab) {u : TypeId} {e : Ty} {y : AV} {v : Value} {ys : List AV} {p : Prop} (h : srcV (std P n₀) (tab u) e y s.hp = some (ys, p)) (hp : p) (hs : RelS ρ s a w) (hv : Val w (Stay ρ s.hp) ρ s.hp.length y v) :
    ∃ news, Apq P w (Stay ρ s.hp) ρ e.size u v ys news := by
  unfold srcV at h
  split at h
  · rename_i hu
    have huu := und_slice ht hu
    split at h
    · split at h
      case h_2 => simp at h
      rename_i hz
      split at h
      case h_2 => simp at h
      rename_i z' xs hid
      split at h
      case h_2 => simp at h
      rename_i hz'
      have e1 := beN_t hz
      have e2 := beN_t hz'
      subst e1 e2
      simp only [Option.some.injEq, Prod.mk.injEq] at h
      obtain ⟨rfl, rfl⟩ := h
      rw [nth_eq] at hid
      obtain ⟨p1, p2, p3⟩ := hp
      exact Apq.ofVs huu (hs.rel.ents _ _ hid) hv p1 p2 p3
    · split at h
      · rename_i ys' tk hy
        simp only [Option.some.injEq, Prod.mk.injEq] at h
        obtain ⟨rfl, rfl⟩ := h
        have hv' : Val w (Stay ρ s.hp) ρ s.hp.length (.sl e.size ys' tk) v := asSl_val hy hv
        obtain ⟨news, ha, _⟩ := Apps.ofSl huu hv'
        exact ⟨news, Apq.of ha⟩
      · simp at h
  · rename_i hu
    split at h
    case h_2 => simp at h
    rename_i hz
    split at h
    case h_2 => simp at h
    rename_i b
    simp only [Option.some.injEq, Prod.mk.injEq] at h
    obtain ⟨rfl, rfl⟩ := h
    have ha := Apps.ofStr (w := w) (ρ := ρ) ht hu (S := Stay ρ s.hp) b
    rw [beN_t hz, val_str hv]
    exact ⟨_, Apq.of ha⟩
  · simp at h


/-- A new row holds what was there and what is appended. -/
theorem row_grown (_hs : RelS ρ s a w) {σ : List Ent} {ρ1 : Ro} (hst : Stp ρ s.hp w ρ1 σ w) (hr : Rel ρ1 σ w) {t u e : TypeId} {i : TypeInfo} {T : Ty} {d : TypeDesc} {z : Value} (hut : P.underlying t = some (.slice e)) (hty : TyOk P e T i d z)
    {xs ys : List AV} {ad : Option Addr} {len cap : Nat} {x : Value} {olds news : List Value} {ty : TypeId} (hx : Apq P w (Stay ρ s.hp) ρ T.size t (.slice ad len cap) xs olds) (hy : Apq P w (Stay ρ s.hp) ρ T.size u x ys news) (hl : len = xs.length)
    (hb : (xs.length + ys.length) * T.bytes ≤ 2 ^ 47) (hpos : 0 < T.bytes) (hg : cap < len + ys.length) :
    ∃ r w' ρ', (Builtin.append_ #[t, u] ty #[.slice ad len cap, x]).run P w = .ok r w' ∧ Val w' (Stay ρ' (σ ++ [Ent.vec T.size (xs ++ ys)])) ρ' (σ ++ [Ent.vec T.size (xs ++ ys)]).length (.vs σ.length T.size 0 ((xs ++ ys).length : Nat) ((xs ++ ys).length : Nat)) r ∧
      Stp ρ s.hp w ρ' (σ ++ [Ent.vec T.size (xs ++ ys)]) w' ∧ Rel ρ' (σ ++ [Ent.vec T.size (xs ++ ys)]) w' := by
  have hsrc := hy.src w rfl
  have hbi : T.bytes = i.bytes := hty.bytes
  have hsi : T.size = i.size := hty.size
  have hlen63 : xs.length + ys.length ≤ 2 ^ 47 := Nat.le_trans (Nat.le_mul_of_pos_right _ hpos) hb
  have hol : olds.length = xs.length * T.size := (hx.src w rfl).newsLen
  have hnl : news.length = ys.length * T.size := hsrc.newsLen
  have h1 := (hx.src w.drew rfl).cells
  rw [← hl] at h1
  have hrun := run_append_grow_src w t u ty e i z hut hty.info hty.zero ad len cap olds (by rw [← hsi]; exact h1) x ys.length news (by rw [← hsi]; exact hsrc) hg (by omega)
    (growslice_fits hg (by rw [← hbi, hl]; exact hb))
  obtain ⟨g, hgd⟩ : ∃ g, g = grownCap w (len + ys.length) cap e := ⟨_, rfl⟩
  have hge : len + ys.length ≤ g := hgd ▸ grownCap_ge w (len + ys.length) cap e
  rw [← hgd] at hrun
  obtain ⟨c, hc⟩ : ∃ c, c = (olds ++ news).toArray ++ Builtin.zeroCells z.cells (g - (len + ys.length)) := ⟨_, rfl⟩
  rw [← hc] at hrun
  have hcs : c.size = g * T.size := by
    rw [hc]; simp [Builtin.zeroCells, hol, hnl, hty.zsize, ← hl]
    rw [← Nat.add_mul, ← Nat.add_mul]; congr 1; omega
  have hcc : ∀ (j : Nat) v, (olds ++ news)[j]? = some v → c[j]? = some v := by
    intro j v hj
    rw [hc, Array.getElem?_append_left (by simpa using lt_of_get hj)]
    simpa using hj
  have hcap : (xs ++ ys).length ≤ g := by simp; omega
  have hnew := rel_new hr (s := T.size) (xs := xs ++ ys) (l := ⟨w.heap.size, 0, g * T.size, 0⟩) (w' := w.drew.alloc (.cells c e)) rfl (by simpa using Nat.mul_le_mul_right T.size hcap) rfl rfl rfl
    (fun _ _ h => heap_alloc_old (w := w.drew) h) (by rw [World.size_alloc]; simp)
    (fun _ => ⟨Nat.le_refl _, c, e, (0, 0), heap_alloc_new (w := w.drew), by simp [hcs], fun o' _ _ => World.frozen?_alloc_new w.drew c e o'⟩)
    (fun k x' hx' => by
      have cell : ∀ (j : Nat) v, (olds ++ news)[j]? = some v → cellAt (w.drew.alloc (.cells c e)) w.heap.size j = some v := by
        intro j v hj
        exact (cellAt_cells (heap_alloc_new (w := w.drew))).trans (hcc j v hj)
      rcases Nat.lt_or_ge k xs.length with hlt | hge'
      · rw [List.getElem?_append_left hlt] at hx'
        obtain ⟨vs, a1, a2, a3⟩ := hx.cells k x' hx'
        refine ⟨vs, a1.imp fun _ _ h => h.keep hst.keeps.zero, a2, fun j v hj => ⟨?_, ?_⟩⟩
        · have := a3 j v hj
          rw [Nat.zero_add]
          exact cell _ _ (by rw [List.getElem?_append_left (lt_of_get this)]; exact this)
        · exact (hx.src w rfl).one _ (List.mem_of_getElem? (a3 j v hj))
      · rw [List.getElem?_append_right hge'] at hx'
        obtain ⟨vs, a1, a2, a3⟩ := hy.cells _ x' hx'
        refine ⟨vs, a1.imp fun _ _ h => h.keep hst.keeps.zero, a2, fun j v hj => ⟨?_, ?_⟩⟩
        · have := a3 j v hj
          rw [Nat.zero_add]
          refine cell _ _ ?_
          have e1 : k * T.size = xs.length * T.size + (k - xs.length) * T.size := by rw [← Nat.add_mul]; congr 1; omega
          rw [List.getElem?_append_right (by rw [hol]; omega), hol, e1, show xs.length * T.size + (k - xs.length) * T.size + j - xs.length * T.size = (k - xs.length) * T.size + j by omega]
          exact this
        · exact hsrc.one _ (List.mem_of_getElem? (a3 j v hj)))
  refine ⟨_, _, _, hrun, ?_, hst.trans' hnew.1, hnew.2⟩
  refine ⟨1, by simp, _, _, _, rfl, by simp [hl], hge, fun _ => ⟨_, _, rfl⟩, 0, rfl, ?_, fun _ _ => ?_⟩
  · simp; omega
  · simp [Ro.tipAt]

theorem sound_apV {t u e : TypeId} {md : Nat} {z : Value} {i : TypeInfo} {d : TypeDesc} (ht : TabOk P tab) (hut : P.underlying t = some (.slice e)) (hty : TyOk P e (tab e) i d z) (hs : RelS ρ s a w)
    {x y : AV} {v1 v2 : Value} {ty : TypeId} (h1 : Val w (Stay ρ s.hp) ρ s.hp.length x v1) (h2 : Val w (Stay ρ s.hp) ρ s.hp.length y v2) (h : apV (std P n₀) md (tab u) (tab e) x y s.hp K) :
    ∃ r w' ρ' σ' av, (Builtin.append_ #[t, u] ty #[v1, v2]).run P w = .ok r w' ∧ K av σ' ∧ Val w' (Stay ρ' σ') ρ' σ'.length av r ∧ Stp ρ s.hp w ρ' σ' w' ∧ Rel ρ' σ' w' := by
  unfold apV at h
  split at h
  case h_2 => exact h.elim
  rename_i hbp
  have hbp' : 0 < (tab e).bytes := by simpa [ltN_eq] using hbp
  split at h
  case h_2 => exact h.elim
  rename_i hsp
  have hsp' : 0 < (tab e).size := by simpa [ltN_eq] using hsp
  split at h
  · exact h.elim
  rename_i ys p hy
  obtain ⟨hp, h⟩ := h
  obtain ⟨news, hya⟩ := srcV_sound ht hy hp hs h2
  have hsrc := hya.src w rfl
  have hnl : news.length = ys.length * (tab e).size := hsrc.newsLen
  have hsi : (tab e).size = i.size := hty.size
  have nothing : ∀ {ad : Option Addr} {len cap : Nat}, len ≤ cap → ys = [] → (Builtin.append_ #[t, u] ty #[.slice ad len cap, v2]).run P w = .ok (.slice ad len cap) w := by
    intro ad len cap hle e0
    subst e0
    have : news = [] := List.eq_nil_of_length_eq_zero (by rw [hnl]; simp)
    subst this
    exact run_append_nothing w t u ty _ i hut hty.info ad len cap hle v2 (by rw [← hsi]; exact hsrc)
  split at h
  · rename_i id zz lo n N
    split at h
    case h_2 => exact h.elim
    rename_i hz
    have hz' := beN_t hz
    subst hz'
    split at h
    case h_2 => exact h.elim
    rename_i z' xs hid
    split at h
    case h_2 => exact h.elim
    rename_i hzz
    have hzz' := beN_t hzz
    subst hzz'
    rw [nth_eq] at hid
    have hent := hs.rel.ents id _ hid
    have hent' := hent
    obtain ⟨hpos, hfit, hblk, hel⟩ := hent'
    have hv1 := h1
    obtain ⟨hidl, ad, len, cap, rfl, rfl, hcap, hadr, hloc⟩ := val_vs h1
    obtain ⟨l, rfl, hN, ha⟩ := hloc
    replace ha := ha hpos
    -- there is room
    have room : ∀ {q : Nat}, q = l + len → len + ys.length ≤ cap → 0 < cap → (Builtin.append_ #[t, u] ty #[.slice ad len cap, v2]).run P w = .ok (.slice ad (len + ys.length) cap) (w.setCells (ρ.t id).blk ((ρ.t id).start + q * (tab e).size) news) ∧ (ρ.t id).start + (q + ys.length) * (tab e).size ≤ (ρ.t id).stop := by
      intro q hq hr hc0
      obtain ⟨rfl, hend⟩ := ha hc0
      have hle : (ρ.t id).start + (q + ys.length) * (tab e).size ≤ (ρ.t id).stop := by
        have := Nat.mul_le_mul_right (tab e).size (show q + ys.length ≤ l + cap by omega); omega
      have hoff : (ρ.t id).start + l * (tab e).size + len * i.size = (ρ.t id).start + q * (tab e).size := by rw [← hsi, hq, Nat.add_mul]; omega
      have hcc := vec_cells hent (q := (ρ.t id).start + q * (tab e).size) (k := news.length) (by omega) (by rw [hnl]; rw [Nat.add_mul] at hle; omega)
      have hrun := run_append_room_src w t u ty _ i hut hty.info (ρ.t id).blk ((ρ.t id).start + l * (tab e).size) len cap v2 ys.length news (by rw [← hsi]; exact hsrc) hr
        (fun j hj => by rw [hoff]; exact (hcc j hj).1) (fun j hj => by rw [hoff]; exact (hcc j hj).2)
      rw [hoff] at hrun
      exact ⟨hrun, hle⟩
    split at h
    · -- a row by itself
      obtain ⟨e1, e2, hroom, h⟩ := h
      replace e1 : (l : Int) = 0 := e1
      replace e2 : (len : Int) = (xs.length : Nat) := e2
      replace hroom : (xs.length + ys.length) * (tab e).bytes ≤ 2 ^ 47 := hroom
      rw [lenN_eq, snoc_eq] at h
      replace h : K (.vs s.hp.length (tab e).size 0 ((xs ++ ys).length : Nat) ((xs ++ ys).length : Nat)) (setN s.hp id .dead ++ [.vec (tab e).size (xs ++ ys)]) := h
      have e1 : l = 0 := by omega
      have e2 : len = xs.length := by omega
      subst e1 e2
      have hdl : (setN s.hp id .dead).length = s.hp.length := by rw [setN_eq]; simp
      by_cases hr : xs.length + ys.length ≤ cap
      · -- in its own block
        have hfin : ∃ w1, (Builtin.append_ #[t, u] ty #[.slice ad xs.length cap, v2]).run P w = .ok (.slice ad (xs.length + ys.length) cap) w1 ∧ Stp ρ s.hp w ρ (setN s.hp id (.vec (tab e).size (xs ++ ys))) w1 ∧ Rel ρ (setN s.hp id (.vec (tab e).size (xs ++ ys))) w1 := by
          by_cases hc0 : 0 < cap
          · obtain ⟨hrun, hle⟩ := room (q := xs.length) (by omega) hr hc0
            have hst := rel_lay hs.rel (ys := ys) (p := xs.length) (news := news) hid (Nat.le_refl _) hle hnl hsrc.one hya.cells
            have e' : xs.take xs.length ++ ys ++ xs.drop (xs.length + ys.length) = xs ++ ys := by
              rw [List.take_length, List.drop_eq_nil_of_le (by omega), List.append_nil]
            rw [e'] at hst
            exact ⟨_, hrun, hst⟩
          · have hy0 : ys = [] := List.eq_nil_of_length_eq_zero (by omega)
            have hrun := nothing (ad := ad) hcap hy0
            have hst := rel_row hs.rel (xs' := xs) (q := (ρ.t id).start) (news := []) hid (Nat.le_refl _) (by simp; omega) hfit hel
            subst hy0
            simp only [World.setCells] at hst
            simp only [List.append_nil, List.length_nil, Nat.add_zero]
            exact ⟨w, hrun, hst⟩
        obtain ⟨w1, hrun, hst1, hr1⟩ := hfin
        have hid1 : (setN s.hp id (.vec (tab e).size (xs ++ ys)))[id]? = some (.vec (tab e).size (xs ++ ys)) := by rw [setN_eq]; simp [hidl]
        have hmv := rel_mv hr1 hid1
        have hsl : (setN s.hp id (.vec (tab e).size (xs ++ ys))).length = s.hp.length := by rw [setN_eq]; simp
        have hss : setN (setN s.hp id (.vec (tab e).size (xs ++ ys))) id .dead = setN s.hp id .dead := by rw [setN_eq, setN_eq, setN_eq, List.set_set]
        rw [hsl, hss] at hmv
        refine ⟨_, w1, _, _, _, hrun, h, ?_, hst1.trans' hmv.1, hmv.2⟩
        refine ⟨1, by simp [hdl], ad, _, _, rfl, by simp, hr, hadr, 0, rfl, ?_, fun _ hc => ?_⟩
        · simp; omega
        · obtain ⟨g1, g2⟩ := ha hc
          simp only [Ro.tipAt, if_true]
          exact ⟨g1, g2⟩
      · -- in a new one
        have hxa : ∃ olds, Apq P w (Stay ρ s.hp) ρ (tab e).size t (.slice ad xs.length cap) xs olds := by
          obtain ⟨olds, ho⟩ := Apq.ofVs hut hent hv1 (Int.le_refl 0) (by omega) (by omega)
          refine ⟨olds, ?_⟩
          have e' : (xs.take ((0 : Nat) + (xs.length : Int)).toNat).drop (Int.toNat (0 : Nat)) = xs := by simp
          rwa [e'] at ho
        obtain ⟨olds, hxa⟩ := hxa
        have hk := rel_kill hs.rel id
        obtain ⟨r, w', ρ', q1, q2, q3, q4⟩ := row_grown (ty := ty) hs hk.1 hk.2 hut hty hxa hya rfl hroom hbp' (by omega)
        rw [hdl] at q2
        exact ⟨r, w', ρ', _, _, q1, h, q2, q3, q4⟩
    · -- a piece of a row
      obtain ⟨p1, p2, p3, p4, hroom, h⟩ := h
      replace p3 : (l : Int) + len + (ys.length : Nat) ≤ N := p3
      replace p4 : (l : Int) + len + (ys.length : Nat) ≤ (xs.length : Nat) := p4
      replace h : K (.vs id (tab e).size l ((len : Int) + (ys.length : Nat)) N) (setN s.hp id (.vec (tab e).size (xs.take ((l : Int) + len).toNat ++ ys ++ xs.drop (((l : Int) + len).toNat + ys.length)))) := h
      have hr : len + ys.length ≤ cap := by omega
      have hq : ((l : Int) + len).toNat = l + len := by omega
      rw [hq] at h
      have hfin : ∃ w1, (Builtin.append_ #[t, u] ty #[.slice ad len cap, v2]).run P w = .ok (.slice ad (len + ys.length) cap) w1 ∧ Stp ρ s.hp w ρ (setN s.hp id (.vec (tab e).size (xs.take (l + len) ++ ys ++ xs.drop (l + len + ys.length)))) w1 ∧ Rel ρ (setN s.hp id (.vec (tab e).size (xs.take (l + len) ++ ys ++ xs.drop (l + len + ys.length)))) w1 := by
        by_cases hc0 : 0 < cap
        · obtain ⟨hrun, hle⟩ := room (q := l + len) rfl hr hc0
          exact ⟨_, hrun, rel_lay hs.rel (ys := ys) (p := l + len) (news := news) hid (by omega) hle hnl hsrc.one hya.cells⟩
        · have hy0 : ys = [] := List.eq_nil_of_length_eq_zero (by omega)
          have hrun := nothing (ad := ad) hcap hy0
          have hst := rel_row hs.rel (xs' := xs) (q := (ρ.t id).start) (news := []) hid (Nat.le_refl _) (by simp; omega) hfit hel
          subst hy0
          simp only [World.setCells] at hst
          simp only [List.append_nil, List.length_nil, Nat.add_zero, List.take_append_drop]
          exact ⟨w, hrun, hst⟩
      obtain ⟨w1, hrun, hst1, hr1⟩ := hfin
      refine ⟨_, w1, _, _, _, hrun, h, ?_, hst1, hr1⟩
      exact ⟨1, by rw [setN_eq]; simpa using hidl, ad, _, _, rfl, by simp, hr, hadr, l, rfl, hN, fun _ hc => ha hc⟩
  · rename_i hnv
    split at h
    case h_2 => exact h.elim
    rename_i xs hx
    obtain ⟨e1, hroom, h⟩ := h
    replace e1 : xs = [] := e1
    subst e1
    replace hroom : (0 + ys.length) * (tab e).bytes ≤ 2 ^ 47 := hroom
    rw [lenN_eq, snoc_eq] at h
    replace h : K (.vs s.hp.length (tab e).size 0 (ys.length : Nat) (ys.length : Nat)) (s.hp ++ [.vec (tab e).size ys]) := h
    have hx' := asSl_val hx h1
    obtain ⟨ad, len, cap, rfl, hl, hcap, hfull, hne⟩ := val_sl hx'
    replace hfull : cap = len := hfull
    simp only [List.length_nil] at hl
    subst hl
    subst hfull
    by_cases hy0 : ys = []
    · have hrun := nothing (ad := ad) (Nat.le_refl 0) hy0
      subst hy0
      have hnew := rel_new hs.rel (s := (tab e).size) (xs := []) (l := ⟨0, 0, 0, 0⟩) (w' := w) rfl (by simp) rfl rfl rfl (fun _ _ h => h) (Nat.le_refl _) (fun hlt => by simp at hlt) (fun k x hk => by simp at hk)
      refine ⟨_, w, _, _, _, hrun, h, ?_, hnew.1, hnew.2⟩
      exact ⟨1, by simp, ad, 0, 0, rfl, by simp, Nat.le_refl _, fun hlt => by simp at hlt, 0, rfl, by simp, fun _ hlt => by simp at hlt⟩
    · have hyl : 0 < ys.length := by cases ys <;> simp_all
      obtain ⟨olds, hxa, _⟩ := Apps.ofSl hut hx'
      obtain ⟨r, w', ρ', q1, q2, q3, q4⟩ := row_grown (ty := ty) (xs := []) hs (Stp.refl _ _ _) hs.rel hut hty (Apq.of hxa) hya rfl (by simpa using hroom) hbp' (by omega)
      rw [List.nil_append] at q2 q3 q4
      exact ⟨r, w', ρ', _, _, q1, h, q2, q3, q4⟩

end
end Go.Pt

/- Each operation that the abstract machine does is one that the model does: all of them, together. -/
namespace Go.Pt
open Go

section
variable {P : Program} {n₀ : Nat} {tab : Nat → Ty} {w : World} {ρ : Ro} {s : St} {a : Act} {o : Oper} {K E : AV → List Ent → Prop} {next : Act → World → Prop} {Q : Exit → Act → World → Prop}

theorem run_bi {b : Builtin} {args : Array Operand} {ts : Array TypeId} {r : Value} {w' : World} {us : List Value} (ho : o.op = .call ⟨.builtin b, args, ts⟩) {f : Sem Value} (hus : args.map a.eval = us.toArray)
    (hb : ∀ cs, builtin b ts o.type cs us.toArray = (do pure (.value (← f)) : Sem Next)) (h : f.run P w = .ok r w') :
    (execOp a.eval o).run P w = .ok (.value r) w' := by
  simp only [execOp, ho, resolve, hus, Sem.run_bind, Sem.run_pure, Result.andThen_ok, invoke]
  rw [hb]
  simp [h]

theorem run_getMap {b : Nat} {ms : Array MapEntry} {c : Nat} (h : w.heap[b]? = some (.map ms c)) : (getObj b).run P w = .ok (.map ms c) w := by simp [getObj, Sem.run, h]

theorem sound_append (ht : TabOk P tab) {args : Array Operand} {ts : Array TypeId} {x y : AV} {v1 v2 : Value} {t u e : TypeId} {l : List TypeId} (ho : o.op = .call ⟨.builtin .append, args, ts⟩) (hs : RelS ρ s a w)
    (hus : args.map a.eval = [v1, v2].toArray) (hts : ts.toList = t :: u :: l) (h1 : Val w (Stay ρ s.hp) ρ s.hp.length x v1) (h2 : Val w (Stay ρ s.hp) ρ s.hp.length y v2) (hk : (tab t).k = .slice e)
    (h : apA (std P n₀) (tab u) (tab e) x y s.hp K) (hg : Goes ρ s a w o.dst K next) : o.wp P a w next Q := by
  unfold apA at h
  split at h
  case h_2 => exact h.elim
  rename_i hbp
  have hbp' : 0 < (tab e).bytes := by simpa [ltN_eq] using hbp
  obtain ⟨ie, de, ze, hty⟩ := ht.of (t := e) (fun he => by rw [he] at hbp'; simp [Ty.no] at hbp')
  have hut := und_slice ht hk
  split at h
  · exact h.elim
  rename_i xs' tok hx
  have hx' := asSl_val hx h1
  have fin : ∀ {ys : List AV} {news : List Value}, Apps P w (Stay ρ s.hp) ρ (tab e).size u v2 ys news → (xs'.length + ys.length) * (tab e).bytes ≤ 2 ^ 47 → app (std P n₀) (tab e).size xs' ys tok s.hp K → o.wp P a w next Q := by
    intro ys news ha hb hk
    obtain ⟨r, w', ρ', σ', av, hr, hka, hva, hst, hrel⟩ := sound_app (ty := o.type) hut hty rfl hs hx' ha hb hbp' hk
    refine wp_value (run_bi (f := Builtin.append_ ts o.type #[v1, v2]) ho hus (fun cs => rfl) ?_) (hg.go _ _ _ _ _ hka hva hst hrel)
    have : ts = (t :: u :: l).toArray := by apply Array.ext'; simpa using hts
    rw [this]
    have e1 : Builtin.append_ (t :: u :: l).toArray o.type #[v1, v2] = Builtin.append_ #[t, u] o.type #[v1, v2] := by simp [Builtin.append_]
    rw [e1]; exact hr
  split at h
  · rename_i e' hu
    have huu := und_slice ht hu
    split at h
    · exact h.elim
    rename_i ys tk' hy
    obtain ⟨news, ha, _⟩ := Apps.ofSl huu (asSl_val hy h2)
    exact fin ha h.1 h.2
  · rename_i hu
    split at h
    case h_2 => exact h.elim
    rename_i hz
    split at h
    case h_2 => exact h.elim
    rename_i b
    have hz' := beN_t hz
    have ha := Apps.ofStr (w := w) (ρ := ρ) ht hu (S := Stay ρ s.hp) b
    rw [val_str h2, hz'] at fin
    rw [hz'] at h
    exact fin ha h.1 h.2
  · exact h.elim

theorem sound_appendQ (ht : TabOk P tab) {args : Array Operand} {ts : Array TypeId} {x y : AV} {v1 v2 : Value} {t u e e' : TypeId} {l : List TypeId} {xs ys : List AV} {tk : Tok} (ho : o.op = .call ⟨.builtin .append, args, ts⟩) (hs : RelS ρ s a w)
    (hus : args.map a.eval = [v1, v2].toArray) (hts : ts.toList = t :: u :: l) (h1 : Val w (Stay ρ s.hp) ρ s.hp.length x v1) (h2 : Val w (Stay ρ s.hp) ρ s.hp.length y v2) (hk : (tab t).k = .slice e)
    (hbp : ltN 0 (tab e).bytes = true) (hx : asSl (tab e).size x = some (xs, .full)) (hu : (tab u).k = .slice e') (hy : asSl (tab e).size y = some (ys, tk)) (hb : (xs.length + ys.length) * (tab e).bytes ≤ 2 ^ 47)
    (h : K (.sl (tab e).size (xs ++ ys) .no) s.hp) (hg : Goes ρ s a w o.dst K next) : o.wp P a w next Q := by
  have hbp' : 0 < (tab e).bytes := by simpa [ltN_eq] using hbp
  obtain ⟨ie, de, ze, hty⟩ := ht.of (t := e) (fun he => by rw [he] at hbp'; simp [Ty.no] at hbp')
  have hut := und_slice ht hk
  have huu := und_slice ht hu
  obtain ⟨news, ha, _⟩ := Apps.ofSl huu (asSl_val hy h2)
  obtain ⟨r, w', hr, hva, hst, hrel⟩ := sound_appQ (ty := o.type) hut hty rfl hs (asSl_val hx h1) ha hb hbp'
  refine wp_value (run_bi (f := Builtin.append_ ts o.type #[v1, v2]) ho hus (fun cs => rfl) ?_) (hg.go _ _ _ _ _ h hva hst hrel)
  have : ts = (t :: u :: l).toArray := by apply Array.ext'; simpa using hts
  rw [this]
  have e1 : Builtin.append_ (t :: u :: l).toArray o.type #[v1, v2] = Builtin.append_ #[t, u] o.type #[v1, v2] := by simp [Builtin.append_]
  rw [e1]; exact hr

theorem sound_bi (ht : TabOk P tab) {b : Builtin} {args : Array Operand} {ts : Array TypeId} (ho : o.op = .call ⟨.builtin b, args, ts⟩) (hs : RelS ρ s a w)
    (h : bi (std P n₀) tab b ts.toList (evs s args.toList) s.hp K) (hg : Goes ρ s a w o.dst K next) : o.wp P a w next Q := by
  have hv := evs_val hs args.toList
  have hmap : args.map a.eval = (args.toList.map a.eval).toArray := by apply Array.ext'; simp
  generalize hxs : evs s args.toList = xs at h hv
  generalize hus : args.toList.map a.eval = us at hv hmap
  unfold bi at h
  split at h
  · -- len
    split at h
    case h_2 => exact h.elim
    rename_i x
    split at h
    case h_2 => exact h.elim
    rename_i t l hts
    match us, hv with
    | [v], ⟨hv, _⟩ =>
      have hts' : ts = (t :: l).toArray := by apply Array.ext'; simpa using hts
      have fin : ∀ {n : Int} {d : TypeDesc}, P.underlying t = some d → (Builtin.len_ (t :: l).toArray o.type #[v]).run P w = .ok (.int .i64 n) w → K (.int .i64 n) s.hp → o.wp P a w next Q := by
        intro n d _ hr hk
        exact wp_value (run_bi (f := Builtin.len_ ts o.type #[v]) ho hmap (fun cs => rfl) (by rw [hts']; exact hr)) (hg.here hs hk ⟨1, rfl⟩)
      unfold lenA at h
      split at h
      · rename_i hk
        split at h
        case h_2 => exact h.elim
        obtain ⟨i, d, z, hty⟩ := ht.kind hk (by simp)
        have hd : d = .string := by have := hty.k; rw [hk] at this; cases d <;> simp [tkOf] at this; rfl
        subst hd
        have := val_str hv; subst this
        exact fin hty.und (by simp [Builtin.len_, run_underlying hty.und, goInt, std, stdOps]) h
      · rename_i e hk
        have hu := und_slice ht hk
        split at h
        · obtain ⟨ad, len, cap, rfl, hl, _⟩ := val_sl hv
          exact fin hu (by simp [Builtin.len_, run_underlying hu, goInt, std, stdOps, hl]) h
        · have := val_nils hv; subst this
          exact fin hu (by simp [Builtin.len_, run_underlying hu, goInt]) h
        · obtain ⟨d, hv⟩ := hv
          cases d with
          | zero => exact hv.elim
          | succ d =>
            obtain ⟨_, cap, _, rfl⟩ := hv
            exact fin hu (by simp [Builtin.len_, run_underlying hu, goInt, std, stdOps]) h
        · obtain ⟨_, ad, len, cap, rfl, rfl, _⟩ := val_vs hv
          exact fin hu (by simp [Builtin.len_, run_underlying hu, goInt]) h
        · exact h.elim
      · rename_i k e hk
        obtain ⟨i, d, z, hty⟩ := ht.kind hk (by simp)
        have hd : d = .map k e := by have := hty.k; rw [hk] at this; cases d <;> simp [tkOf] at this; obtain ⟨rfl, rfl⟩ := this; rfl
        subst hd
        split at h
        · obtain ⟨d, hv⟩ := hv
          cases d with
          | zero => exact hv.elim
          | succ d =>
            simp only [Cz] at hv; subst hv
            exact fin hty.und (by simp [Builtin.len_, run_underlying hty.und, goInt]) h
        · rw [nth_eq] at h
          split at h
          case h_2 => exact h.elim
          rename_i id _ es hes
          obtain ⟨ms, c, h1, h2, _⟩ := hs.rel.ents _ _ hes
          obtain ⟨d, hv⟩ := hv
          cases d with
          | zero => exact hv.elim
          | succ d =>
            obtain ⟨_, rfl⟩ := hv
            refine fin hty.und ?_ h
            have hget := run_getMap (P := P) h1
            simp [Builtin.len_, run_underlying hty.und, hget, goInt, std, stdOps, h2.length]
        · exact h.elim
      · exact h.elim
  · -- min
    split at h
    · match us, hv with
      | [v1, v2], ⟨h1, h2, _⟩ =>
        have := val_int h1; subst this
        have := val_int h2; subst this
        exact wp_value (run_bi (f := Builtin.min_ ts o.type [_, _].toArray) ho hmap (fun cs => rfl) (by simp [Builtin.min_, Builtin.min2]; rfl)) (hg.here hs h ⟨1, rfl⟩)
    · match us, hv with
      | [v1, v2, v3], ⟨h1, h2, h3, _⟩ =>
        have := val_int h1; subst this
        have := val_int h2; subst this
        have := val_int h3; subst this
        exact wp_value (run_bi (f := Builtin.min_ ts o.type [_, _, _].toArray) ho hmap (fun cs => rfl) (by simp [Builtin.min_, Builtin.min2]; rfl)) (hg.here hs h ⟨1, rfl⟩)
    · exact h.elim
  · -- max
    split at h
    · match us, hv with
      | [v1, v2], ⟨h1, h2, _⟩ =>
        have := val_int h1; subst this
        have := val_int h2; subst this
        exact wp_value (run_bi (f := Builtin.max_ ts o.type [_, _].toArray) ho hmap (fun cs => rfl) (by simp [Builtin.max_, Builtin.max2]; rfl)) (hg.here hs h ⟨1, rfl⟩)
    · match us, hv with
      | [v1, v2, v3], ⟨h1, h2, h3, _⟩ =>
        have := val_int h1; subst this
        have := val_int h2; subst this
        have := val_int h3; subst this
        exact wp_value (run_bi (f := Builtin.max_ ts o.type [_, _, _].toArray) ho hmap (fun cs => rfl) (by simp [Builtin.max_, Builtin.max2]; rfl)) (hg.here hs h ⟨1, rfl⟩)
    · exact h.elim
  · -- append
    split at h
    case h_2 => exact h.elim
    rename_i x y
    split at h
    case h_2 => exact h.elim
    rename_i t u l hts
    split at h
    case h_2 => exact h.elim
    rename_i e hk
    match us, hv with
    | [v1, v2], ⟨h1, h2, _⟩ =>
      split at h
      · exact sound_append ht ho hs hmap hts h1 h2 hk h hg
      · have h0 := h
        unfold apV at h0
        split at h0
        case h_2 => exact h0.elim
        rename_i hbp
        have hbp' : 0 < (tab e).bytes := by simpa [ltN_eq] using hbp
        obtain ⟨ie, de, ze, hty⟩ := ht.of (t := e) (fun he => by rw [he] at hbp'; simp [Ty.no] at hbp')
        obtain ⟨r, w', ρ', σ', av, hr, hka, hva, hst, hrel⟩ := sound_apV (ty := o.type) ht (und_slice ht hk) hty hs h1 h2 h
        refine wp_value (run_bi (f := Builtin.append_ ts o.type #[v1, v2]) ho hmap (fun cs => rfl) ?_) (hg.go _ _ _ _ _ hka hva hst hrel)
        have : ts = (t :: u :: l).toArray := by apply Array.ext'; simpa using hts
        rw [this]
        have e1 : Builtin.append_ (t :: u :: l).toArray o.type #[v1, v2] = Builtin.append_ #[t, u] o.type #[v1, v2] := by simp [Builtin.append_]
        rw [e1]; exact hr
  · exact h.elim

theorem sound_makeSlice (ht : TabOk P tab) {t : TypeId} {x y : Operand} (ho : o.op = .makeSlice t x y) (hs : RelS ρ s a w) (h : aop (std P n₀) tab (.makeSlice t x y) s K E) (hg : Goes ρ s a w o.dst K next) : o.wp P a w next Q := by
  have hx := ev_val hs x
  have hy := ev_val hs y
  simp only [aop] at h
  split at h
  case h_2 => exact h.elim
  rename_i e hk
  split at h
  case h_2 => exact h.elim
  rename_i hbp
  split at h
  case h_2 => exact h.elim
  rename_i k n ex
  split at h
  case h_2 => exact h.elim
  rename_i k' m ey
  rw [ex] at hx; rw [ey] at hy
  split at h
  case h_1 =>
    split at h
    · exact h.elim
    rename_i zv hz
    split at h
    case h_2 => exact h.elim
    rename_i hsp
    have hsp' : 0 < (tab e).size := by simpa [ltN_eq] using hsp
    obtain ⟨⟨rfl, h0, hb⟩, h⟩ := h
    have hbp' : 0 < (tab e).bytes := by simpa [ltN_eq] using hbp
    obtain ⟨i, d, z, hty, _, _⟩ := zeroT_val (w := w) (S := Stay ρ s.hp) (ρ := ρ) (n := 0) ht hz
    have hu := und_slice ht hk
    have hnle : n ≤ n * (tab e).bytes := by
      have : n * 1 ≤ n * ((tab e).bytes : Int) := Int.mul_le_mul_of_nonneg_left (by omega) h0
      omega
    have hrun := run_make (P := P) w t e i z hu hty.info hty.zero k k' n n h0 (Int.le_refl _) (by rw [← hty.bytes, Int.mul_comm]; omega) (by omega)
    have hm : madeCells z.cells (n.toNat * i.size) = (repl n.toNat z.cells.toList).toArray := zeros_repl _ _ _ (by rw [hty.zsize, hty.size])
    rw [hm] at hrun
    have hzl : z.cells.toList.length = (tab e).size := by rw [← hty.zsize]; simp
    have hst := rel_free hs.rel (.cells (repl n.toNat z.cells.toList).toArray e)
    obtain ⟨i2, d2, z2, hty2, hzv, hone⟩ := zeroT_val (w := w.alloc (.cells (repl n.toNat z.cells.toList).toArray e)) (S := Stay ρ s.hp) (ρ := ρ) (n := 0) ht hz
    have hzz : z2 = z := by have h1 := hty.info; have h2 := hty2.info; rw [h1] at h2; simp only [Option.some.injEq] at h2; subst h2; have h3 := hty.zero; have h4 := hty2.zero; rw [h3] at h4; simpa using h4.symm
    subst hzz
    obtain ⟨hzc, hz1⟩ := hzv.cells hone
    have hrd : ∀ (j : Nat) x, (List.replicate n.toNat zv)[j]? = some x → ∃ us, All2 (Val (w.alloc (.cells (repl n.toNat z2.cells.toList).toArray e)) (Stay ρ s.hp) ρ 0) x.cells us ∧ us.length = (tab e).size ∧ Reads (w.alloc (.cells (repl n.toNat z2.cells.toList).toArray e)) (Stay ρ s.hp) w.heap.size (0 + j * (tab e).size) us := by
      intro j x hx'
      rw [List.getElem?_replicate] at hx'
      split at hx'
      case isFalse => simp at hx'
      rename_i hj
      simp at hx'; subst hx'
      refine ⟨_, hzc, hzl, fun q v hv => ⟨new_stay hs.rel _, ?_, hz1 v (List.mem_of_getElem? hv)⟩⟩
      have hq := lt_of_get hv
      rw [Nat.zero_add]
      refine (cellAt_cells heap_alloc_new).trans ?_
      have hlt : j * (tab e).size + q < n.toNat * z2.cells.toList.length := by rw [hzl]; exact el_lt hj (by rw [← hzl]; exact hq)
      rw [List.getElem?_toArray, repl_get _ _ _ hlt, hzl, Nat.mul_comm, Nat.mul_add_mod, Nat.mod_eq_of_lt (by rw [← hzl]; exact hq)]
      exact hv
    obtain ⟨dd, hdd⟩ := vals_depth2 hrd
    refine wp_value (v := .slice (some ⟨w.heap.size, 0, none⟩) n.toNat n.toNat) ?_ (hg.go _ _ _ _ _ h ⟨dd + 1, _, _, _, rfl, by simp [std, stdOps], Nat.le_refl _, rfl, fun _ => ⟨_, _, rfl, hdd⟩⟩ hst.1 hst.2)
    simp [execOp, ho, val_int hx, val_int hy, hrun]
  case h_3 =>
    split at h
    · exact h.elim
    rename_i zv hz
    split at h
    case h_2 => exact h.elim
    rename_i hsp
    have hsp' : 0 < (tab e).size := by simpa [ltN_eq] using hsp
    obtain ⟨⟨rfl, h0, hb⟩, h⟩ := h
    have hbp' : 0 < (tab e).bytes := by simpa [ltN_eq] using hbp
    obtain ⟨i, d, z, hty, hzv, hone⟩ := zeroT_val (w := w) (S := Stay ρ s.hp) (ρ := ρ) (n := 0) ht hz
    have hu := und_slice ht hk
    rw [lenN_eq, snoc_eq] at h
    replace h : K (.vs s.hp.length (tab e).size 0 n n) (s.hp ++ [.vec (tab e).size (List.replicate n.toNat zv)]) := h
    have hnle : n ≤ n * (tab e).bytes := by
      have : n * 1 ≤ n * ((tab e).bytes : Int) := Int.mul_le_mul_of_nonneg_left (by omega) h0
      omega
    have hrun := run_make (P := P) w t e i z hu hty.info hty.zero k k' n n h0 (Int.le_refl _) (by rw [← hty.bytes, Int.mul_comm]; omega) (by omega)
    have hm : madeCells z.cells (n.toNat * i.size) = (repl n.toNat z.cells.toList).toArray := zeros_repl _ _ _ (by rw [hty.zsize, hty.size])
    rw [hm] at hrun
    have hzl : z.cells.toList.length = (tab e).size := by rw [← hty.zsize]; simp
    obtain ⟨hzc, hz1⟩ := hzv.cells hone
    have hnew := rel_new hs.rel (s := (tab e).size) (xs := List.replicate n.toNat zv) (l := ⟨w.heap.size, 0, n.toNat * (tab e).size, 0⟩) (w' := w.alloc (.cells (repl n.toNat z.cells.toList).toArray e)) rfl (by simp) rfl rfl rfl
      (fun _ _ h => heap_alloc_old h) (by rw [World.size_alloc]; simp)
      (fun _ => ⟨Nat.le_refl _, _, e, (0, 0), heap_alloc_new, by simp [repl_length, hzl], fun o' _ _ => World.frozen?_alloc_new w _ e o'⟩)
      (fun j x hx' => by
        rw [List.getElem?_replicate] at hx'
        split at hx'
        case isFalse => simp at hx'
        rename_i hj
        simp at hx'; subst hx'
        refine ⟨_, hzc, hzl, fun q v hv => ⟨?_, hz1 v (List.mem_of_getElem? hv)⟩⟩
        have hq := lt_of_get hv
        rw [Nat.zero_add]
        refine (cellAt_cells heap_alloc_new).trans ?_
        have hlt : j * (tab e).size + q < n.toNat * z.cells.toList.length := by rw [hzl]; exact el_lt hj (by rw [← hzl]; exact hq)
        rw [List.getElem?_toArray, repl_get _ _ _ hlt, hzl, Nat.mul_comm, Nat.mul_add_mod, Nat.mod_eq_of_lt (by rw [← hzl]; exact hq)]
        exact hv)
    refine wp_value (v := .slice (some ⟨w.heap.size, 0, none⟩) n.toNat n.toNat) ?_ (hg.go _ _ _ _ _ h ⟨1, by simp, _, _, _, rfl, by omega, Nat.le_refl _, fun _ => ⟨_, _, rfl⟩, 0, rfl, by omega, fun _ _ => by simp [Ro.tipAt]⟩ hnew.1 hnew.2)
    simp [execOp, ho, val_int hx, val_int hy, hrun]
  obtain ⟨⟨rfl, h0, hb⟩, h⟩ := h
  have hbp' : 0 < (tab e).bytes := by simpa [ltN_eq] using hbp
  obtain ⟨i, d, z, hty⟩ := ht.of (t := e) (fun he => by rw [he] at hbp'; simp [Ty.no] at hbp')
  have hu := und_slice ht hk
  rw [lenN_eq, snoc_eq, hty.zeros] at h
  have hst := rel_var hs.rel e (lits_repl (w := w) (S := Stay ρ s.hp) (ρ := ρ) (m := s.hp.length) z.cells.toList n.toNat)
  have hnle : n ≤ n * (tab e).bytes := by
    have : n * 1 ≤ n * ((tab e).bytes : Int) := Int.mul_le_mul_of_nonneg_left (by omega) h0
    omega
  have hrun := run_make (P := P) w t e i z hu hty.info hty.zero k k' n n h0 (Int.le_refl _) (by rw [← hty.bytes, Int.mul_comm]; omega) (by omega)
  refine wp_value (v := .slice (some ⟨w.heap.size, 0, none⟩) n.toNat n.toNat) (w' := w.alloc (.cells (repl n.toNat z.cells.toList).toArray e)) ?_ (hg.go _ _ _ _ _ h ⟨1, by simp, n.toNat, Nat.le_refl _, by simp [Ro.add]⟩ hst.1 hst.2)
  have hm : madeCells z.cells (n.toNat * i.size) = (repl n.toNat z.cells.toList).toArray := zeros_repl _ _ _ (by rw [hty.zsize, hty.size])
  rw [hm] at hrun
  simp [execOp, ho, val_int hx, val_int hy, hrun]

end
end Go.Pt

/- Each operation that the abstract machine does is one that the model does: slice expressions. -/
namespace Go.Pt
open Go

section
variable {P : Program} {n₀ : Nat} {tab : Nat → Ty} {w : World} {ρ : Ro} {s : St} {a : Act} {o : Oper} {K E : AV → List Ent → Prop} {next : Act → World → Prop} {Q : Exit → Act → World → Prop}

/-- A bound, as the model has it. -/
theorem optI_val {x : Option Operand} {n : Option Int} (hs : RelS ρ s a w) (h : optI s x = some n) :
    (n = none ∧ x.map a.eval = none) ∨ ∃ i k, n = some i ∧ x.map a.eval = some (.int k i) := by
  cases x with
  | none => simp [optI] at h; exact .inl ⟨h.symm, rfl⟩
  | some x =>
    simp only [optI] at h
    split at h
    · rename_i k i e
      simp only [Option.some.injEq] at h
      have hv := ev_val hs x
      rw [e] at hv
      exact .inr ⟨i, k, h.symm, by simp [val_int hv]⟩
    · simp at h

/-- A piece of a slice. -/
theorem val_piece {S : Nat → Nat → Prop} {n z : Nat} {xs : List AV} {tk : Tok} {v : Value} (h : Val w S ρ n (.sl z xs tk) v) :
    ∃ ad len cap, v = .slice ad len cap ∧ len = xs.length ∧ len ≤ cap ∧
      (∀ l : Nat, l ≤ len → Val w S ρ n (.sl z (xs.drop l) tk) (sliced ad l len cap z)) ∧
      (∀ l h m : Nat, l ≤ h → h ≤ m → h ≤ len → m ≤ cap → Val w S ρ n (.sl z ((xs.take h).drop l) .no) (sliced ad l h m z)) ∧
      (∀ l h : Nat, l ≤ h → h ≤ len → Val w S ρ n (.sl z ((xs.take h).drop l) .full) (sliced ad l h h z)) := by
  obtain ⟨ad, len, cap, rfl, h1, h2, h3, h4⟩ := val_sl h
  have rd : ∀ (l h m : Nat), l ≤ h → h ≤ m → h ≤ len → m ≤ cap → (xs.take h).drop l ≠ [] → ∃ b o, (if m = l then ad else ad.map (·.add (l * z))) = some ⟨b, o, none⟩ ∧
      ∀ (i : Nat) x, ((xs.take h).drop l)[i]? = some x → ∃ vs, All2 (Val w S ρ 0) x.cells vs ∧ vs.length = z ∧ Reads w S b (o + i * z) vs := by
    intro l h m hl hm hh hmc hne
    have hlt : l < h := by
      rcases Nat.lt_or_ge l h with h' | h'
      · exact h'
      · exfalso; apply hne; rw [List.drop_eq_nil_iff]; simp; omega
    obtain ⟨b, o, e, hg⟩ := h4 (by intro e; rw [e] at h1; simp at h1; omega)
    subst e
    rw [if_neg (by omega)]
    refine ⟨b, o + l * z, ?_, fun i x hi => ?_⟩
    · simp only [Option.map_some, Addr.add]
      split
      · rename_i e0; simp [e0]
      · rfl
    · rw [List.getElem?_drop, List.getElem?_take] at hi
      split at hi
      · obtain ⟨vs, a1, a2, a3⟩ := hg _ _ hi
        refine ⟨vs, a1, a2, ?_⟩
        rw [Nat.add_assoc, ← Nat.add_mul]; exact a3
      · simp at hi
  refine ⟨ad, len, cap, rfl, h1, h2, fun l hl => ?_, fun l h m hl hm hh hmc => ?_, fun l h hl hh => ?_⟩
  · have e : xs.drop l = (xs.take len).drop l := by rw [List.take_of_length_le (by omega)]
    refine val_sl_mk (by simp; omega) (by omega) ?_ (fun hne => ?_)
    · cases tk with
      | no => trivial
      | full => simp only [tokOk] at h3 ⊢; omega
      | tip id pos =>
        obtain ⟨k1, k2, k3⟩ := h3
        refine ⟨k1, k2, fun e' => ?_⟩
        obtain ⟨g1, g2⟩ := k3 e'
        refine ⟨by rw [show cap - l - (len - l) = cap - len by omega]; exact g1, fun hlt => ?_⟩
        obtain ⟨o', e1, e2⟩ := g2 (by omega)
        refine ⟨o' + l * z, ?_, ?_⟩
        · rw [if_neg (by omega), e1]
          simp only [Option.map_some, Addr.add]
          split
          · rename_i e0; simp [e0]
          · rfl
        · rw [← e2, Nat.add_assoc, ← Nat.add_mul, Nat.add_sub_cancel' hl]
    · rw [e] at hne ⊢
      exact rd l len cap hl h2 (Nat.le_refl _) (Nat.le_refl _) hne
  · exact val_sl_mk (by simp; omega) (by omega) trivial (rd l h m hl hm hh hmc)
  · exact val_sl_mk (by simp; omega) (Nat.le_refl _) rfl (rd l h h hl (Nat.le_refl _) hh (by omega))

theorem sound_slice (ht : TabOk P tab) {t : TypeId} {x : Operand} {lo hi mx : Option Operand} (ho : o.op = .slice t x lo hi mx) (hs : RelS ρ s a w) (h : aop (std P n₀) tab (.slice t x lo hi mx) s K E) (hg : Goes ρ s a w o.dst K next) : o.wp P a w next Q := by
  have hx := ev_val hs x
  simp only [aop] at h
  split at h
  case h_2 => exact h.elim
  rename_i l hl
  split at h
  case h_2 => exact h.elim
  rename_i hh hhi
  split at h
  case h_2 => exact h.elim
  rename_i m hm
  have bl := optI_val hs hl
  have bh := optI_val hs hhi
  have bm := optI_val hs hm
  have fin : ∀ {v : AV} {r : Value}, (Instr.sliceAt t (a.eval x) (lo.map a.eval) (hi.map a.eval) (mx.map a.eval)).run P w = .ok r w → K v s.hp → Val w (Stay ρ s.hp) ρ s.hp.length v r → o.wp P a w next Q := by
    intro v r hr hk hv
    exact wp_value (by simp [execOp, ho, hr]) (hg.here hs hk hv)
  unfold slA at h
  split at h
  · rename_i e hk
    have hu := und_slice ht hk
    have hue : P.underlying t = some (.slice (P.elem t)) := by rw [hu]; simp [Program.elem, hu]
    have hel : P.elem t = e := by simp [Program.elem, hu]
    split at h
    · exact h.elim
    rename_i hok
    obtain ⟨i', d', z', hty'⟩ := ht.ok hok
    have hz := run_size hty' w
    -- a slice by value
    have key : ∀ {z : Nat} {xs : List AV} {tk : Tok}, z = (tab e).size → Val w (Stay ρ s.hp) ρ s.hp.length (.sl z xs tk) (a.eval x) → slX (std P n₀) z xs tk l hh m (fun v => K v s.hp) → o.wp P a w next Q := by
      intro z xs tk hzz hv hq
      subst hzz
      obtain ⟨ad, len, cap, hve, hl1, hl2, p1, p2, p3⟩ := val_piece hv
      have hxs : (xs.length : Int) = len := by rw [hl1]
      rw [hve] at fin
      unfold slX at hq
      rcases bh with ⟨rfl, bh⟩ | ⟨ih, kh, rfl, bh⟩ <;> rcases bm with ⟨rfl, bm⟩ | ⟨im, km, rfl, bm⟩ <;> rcases bl with ⟨rfl, bl⟩ | ⟨il, kl, rfl, bl⟩ <;> rw [bl, bh, bm] at fin <;> simp only at hq <;> try exact hq.elim
      · refine fin (by rw [run_sliceAt_slice w t _ _ _ _ hue, run_slice_all w t ad len cap hue, hel, hz]; rfl) hq ?_
        have := p1 0 (Nat.zero_le _); simpa using this
      · obtain ⟨h1, h2, h3⟩ := hq
        replace h1 : 0 ≤ il := h1
        replace h2 : il ≤ xs.length := h2
        refine fin (by rw [run_sliceAt_slice w t _ _ _ _ hue, run_slice_l w t ad len cap hue _ _ h1 (by omega), hel, hz]; rfl) h3 (p1 _ (by omega))
      · obtain ⟨h1, h2, h3⟩ := hq
        replace h1 : 0 ≤ ih := h1
        replace h2 : ih ≤ xs.length := h2
        refine fin (by rw [run_sliceAt_slice w t _ _ _ _ hue, run_slice_h w t ad len cap hue _ _ h1 (by omega), hel, hz]; rfl) h3 (p2 0 _ _ (Nat.zero_le _) (by omega) (by omega) (Nat.le_refl _))
      · obtain ⟨h1, h2, h3, h4⟩ := hq
        replace h1 : 0 ≤ il := h1
        replace h2 : il ≤ ih := h2
        replace h3 : ih ≤ xs.length := h3
        refine fin (by rw [run_sliceAt_slice w t _ _ _ _ hue, run_slice_lh w t ad len cap hue _ _ _ _ h1 h2 (by omega), hel, hz]; rfl) h4 (p2 _ _ _ (by omega) (by omega) (by omega) (Nat.le_refl _))
      · obtain ⟨h1, h2, h3, h4⟩ := hq
        replace h1 : 0 ≤ ih := h1
        replace h2 : ih ≤ im := h2
        replace h3 : im ≤ xs.length := h3
        by_cases e : ih = im
        · subst e
          refine fin (by rw [run_sliceAt_slice w t _ _ _ _ hue, run_slice_hm w t ad len cap hue _ _ _ _ h1 h2 (by omega), hel, hz]; rfl) (h4 .full fun _ => rfl) (p3 0 _ (Nat.zero_le _) (by omega))
        · refine fin (by rw [run_sliceAt_slice w t _ _ _ _ hue, run_slice_hm w t ad len cap hue _ _ _ _ h1 h2 (by omega), hel, hz]; rfl) (h4 .no fun e' => absurd e' e) (p2 0 _ _ (Nat.zero_le _) (by omega) (by omega) (by omega))
      · obtain ⟨h0, h1, h2, h3, h4⟩ := hq
        replace h0 : 0 ≤ il := h0
        replace h1 : il ≤ ih := h1
        replace h2 : ih ≤ im := h2
        replace h3 : im ≤ xs.length := h3
        by_cases e : ih = im
        · subst e
          refine fin (by rw [run_sliceAt_slice w t _ _ _ _ hue, run_slice_lhm w t ad len cap hue _ _ _ _ _ _ h0 h1 h2 (by omega), hel, hz]; rfl) (h4 .full fun _ => rfl) (p3 _ _ (by omega) (by omega))
        · refine fin (by rw [run_sliceAt_slice w t _ _ _ _ hue, run_slice_lhm w t ad len cap hue _ _ _ _ _ _ h0 h1 h2 (by omega), hel, hz]; rfl) (h4 .no fun e' => absurd e' e) (p2 _ _ _ (by omega) (by omega) (by omega) (by omega))
    split at h
    · rename_i z xs tk ex
      split at h
      case h_2 => exact h.elim
      rename_i hzz
      rw [ex] at hx
      exact key (beN_t hzz) hx h
    · rename_i ex
      rw [ex] at hx
      refine key rfl ?_ h
      rw [val_nils hx]
      exact val_sl_mk rfl (Nat.le_refl _) rfl (fun h => absurd rfl h)
    · rename_i id z o n N ex
      split at h
      case h_2 => exact h.elim
      rename_i hzz
      rw [ex] at hx
      have hzz' := beN_t hzz
      subst hzz'
      have hxv := hx
      obtain ⟨hid, ad, len, cap, hve, rfl, hcap, hadr, l0, rfl, hN, ha⟩ := val_vs hxv
      -- a piece
      have piece : ∀ (l' h' m' : Nat) (o' N' : Int), l' ≤ h' → h' ≤ m' → m' ≤ cap → o' = (l0 : Int) + l' → (N' ≤ N ∧ N' ≤ (l0 : Int) + m') → Val w (Stay ρ s.hp) ρ s.hp.length (.vs id (tab e).size o' ((h' : Int) - l') N') (sliced ad l' h' m' (tab e).size) := by
        intro l' h' m' o' N' h1 h2 h3 h4 h5
        refine ⟨1, hid, _, _, _, rfl, by omega, by omega, fun hc => ?_, l0 + l', by omega, by omega, fun hp hc => ?_⟩
        · obtain ⟨b, q, rfl⟩ := hadr (by omega)
          rw [if_neg (by omega)]
          exact ⟨b, q + l' * (tab e).size, by simp [Addr.add_lit]⟩
        · obtain ⟨g1, g2⟩ := ha hp (by omega)
          rw [if_neg (by omega), g1]
          refine ⟨by simp [Addr.add_lit, Nat.add_mul, Nat.add_assoc], ?_⟩
          rw [show l0 + l' + (m' - l') = l0 + m' by omega]
          have := Nat.mul_le_mul_right (tab e).size (show l0 + m' ≤ l0 + cap by omega)
          omega
      rw [hve] at fin
      unfold slV at h
      rcases bh with ⟨rfl, bh⟩ | ⟨ih, kh, rfl, bh⟩ <;> rcases bm with ⟨rfl, bm⟩ | ⟨im, km, rfl, bm⟩ <;> rcases bl with ⟨rfl, bl⟩ | ⟨il, kl, rfl, bl⟩ <;> rw [bl, bh, bm] at fin <;> simp only at h <;> try exact h.elim
      · refine fin (by rw [run_sliceAt_slice w t _ _ _ _ hue, run_slice_all w t ad len cap hue, hel, hz]; rfl) h ?_
        have := piece 0 len cap l0 N (Nat.zero_le _) hcap (Nat.le_refl _) (by omega) ⟨Int.le_refl _, by omega⟩
        simpa using this
      · obtain ⟨h1, h2, h3⟩ := h
        replace h1 : 0 ≤ il := h1
        replace h2 : il ≤ len := h2
        replace h3 : K (.vs id (tab e).size ((l0 : Int) + il) ((len : Int) - il) N) s.hp := h3
        refine fin (by rw [run_sliceAt_slice w t _ _ _ _ hue, run_slice_l w t ad len cap hue _ _ h1 (by omega), hel, hz]; rfl) h3 ?_
        have := piece il.toNat len cap (l0 + il) N (by omega) hcap (Nat.le_refl _) (by omega) ⟨Int.le_refl _, by omega⟩
        rwa [show ((il.toNat : Nat) : Int) = il by omega] at this
      · obtain ⟨h1, h2, h3⟩ := h
        replace h1 : 0 ≤ ih := h1
        replace h2 : (l0 : Int) + ih ≤ N := h2
        refine fin (by rw [run_sliceAt_slice w t _ _ _ _ hue, run_slice_h w t ad len cap hue _ _ h1 (by omega), hel, hz]; rfl) h3 ?_
        have := piece 0 ih.toNat cap l0 N (by omega) (by omega) (Nat.le_refl _) (by omega) ⟨Int.le_refl _, by omega⟩
        simpa [show ((ih.toNat : Nat) : Int) = ih by omega] using this
      · obtain ⟨h1, h2, h3, h4⟩ := h
        replace h1 : 0 ≤ il := h1
        replace h2 : il ≤ ih := h2
        replace h3 : (l0 : Int) + ih ≤ N := h3
        replace h4 : K (.vs id (tab e).size ((l0 : Int) + il) (ih - il) N) s.hp := h4
        refine fin (by rw [run_sliceAt_slice w t _ _ _ _ hue, run_slice_lh w t ad len cap hue _ _ _ _ h1 h2 (by omega), hel, hz]; rfl) h4 ?_
        have := piece il.toNat ih.toNat cap (l0 + il) N (by omega) (by omega) (Nat.le_refl _) (by omega) ⟨Int.le_refl _, by omega⟩
        rwa [show ((il.toNat : Nat) : Int) = il by omega, show ((ih.toNat : Nat) : Int) = ih by omega] at this
      · obtain ⟨h1, h2, h3, h4⟩ := h
        replace h1 : 0 ≤ ih := h1
        replace h2 : ih ≤ im := h2
        replace h3 : (l0 : Int) + im ≤ N := h3
        replace h4 : K (.vs id (tab e).size l0 ih ((l0 : Int) + im)) s.hp := h4
        refine fin (by rw [run_sliceAt_slice w t _ _ _ _ hue, run_slice_hm w t ad len cap hue _ _ _ _ h1 h2 (by omega), hel, hz]; rfl) h4 ?_
        have := piece 0 ih.toNat im.toNat l0 (l0 + im) (by omega) (by omega) (by omega) (by omega) ⟨by omega, by omega⟩
        simpa [show ((ih.toNat : Nat) : Int) = ih by omega] using this
      · obtain ⟨h0, h1, h2, h3, h4⟩ := h
        replace h0 : 0 ≤ il := h0
        replace h1 : il ≤ ih := h1
        replace h2 : ih ≤ im := h2
        replace h3 : (l0 : Int) + im ≤ N := h3
        replace h4 : K (.vs id (tab e).size ((l0 : Int) + il) (ih - il) ((l0 : Int) + im)) s.hp := h4
        refine fin (by rw [run_sliceAt_slice w t _ _ _ _ hue, run_slice_lhm w t ad len cap hue _ _ _ _ _ _ h0 h1 h2 (by omega), hel, hz]; rfl) h4 ?_
        have := piece il.toNat ih.toNat im.toNat (l0 + il) (l0 + im) (by omega) (by omega) (by omega) (by omega) ⟨by omega, by omega⟩
        rwa [show ((il.toNat : Nat) : Int) = il by omega, show ((ih.toNat : Nat) : Int) = ih by omega] at this
    · exact h.elim
  · rename_i hk
    obtain ⟨i, d, z, hty⟩ := ht.kind hk (by simp)
    have hd : d = .string := by have := hty.k; rw [hk] at this; cases d <;> simp [tkOf] at this; rfl
    subst hd
    have hu := hty.und
    split at h
    case h_2 => exact h.elim
    rename_i b ex
    rw [ex] at hx
    rw [val_str hx] at fin
    unfold slS at h
    rcases bm with ⟨rfl, bm⟩ | ⟨im, km, rfl, bm⟩
    case inr => exact h.elim
    rcases bh with ⟨rfl, bh⟩ | ⟨ih, kh, rfl, bh⟩ <;> rcases bl with ⟨rfl, bl⟩ | ⟨il, kl, rfl, bl⟩ <;> rw [bl, bh, bm] at fin <;> simp only at h
    · refine fin (by rw [run_sliceAt_string w t _ _ _ _ hu, run_slice_string_all w t b hu]) h ⟨1, ?_⟩
      show Value.string (b.extract 0 b.size) = .string b
      simp
    · obtain ⟨h1, h2, h3⟩ := h
      exact fin (by rw [run_sliceAt_string w t _ _ _ _ hu, run_slice_string_l w t b hu _ _ h1 h2]; rfl) h3 ⟨1, rfl⟩
    · obtain ⟨h1, h2, h3⟩ := h
      exact fin (by rw [run_sliceAt_string w t _ _ _ _ hu, run_slice_string_h w t b hu _ _ h1 h2]; rfl) h3 ⟨1, rfl⟩
    · obtain ⟨h1, h2, h3, h4⟩ := h
      exact fin (by rw [run_sliceAt_string w t _ _ _ _ hu, run_slice_string w t b _ _ _ _ hu h1 h2 h3]; rfl) h4 ⟨1, rfl⟩
  · exact h.elim

end
end Go.Pt

/- Each operation that the abstract machine does is one that the model does: maps. -/
namespace Go.Pt
open Go

section
variable {P : Program} {n₀ : Nat} {tab : Nat → Ty} {w : World} {ρ : Ro} {s : St} {a : Act} {o : Oper} {K E : AV → List Ent → Prop} {next : Act → World → Prop} {Q : Exit → Act → World → Prop}

theorem shape_leaf {k : TK} {x y : AV} (hx : shape1 k x = true) (hy : shape1 k y = true) : eqLeaf (std P n₀) k x y = some (keqC x y) := by
  cases k <;> cases x <;> (first | (simp [shape1] at hx; done) | skip) <;> cases y <;> (first | (simp [shape1] at hy; done) | skip)
  · rename_i k k1 n1 k2 n2
    have e1 := beN_t hx
    have e2 := beN_t hy
    simp only [eqLeaf, keqC]
    rw [show beN (kn k1) (kn k2) = true by rw [← e1, ← e2]; simp]
    rfl
  all_goals rfl

theorem shapes_all : ∀ {ks : List TK} {xs ys : List AV}, shapes ks xs = true → shapes ks ys = true → eqAll (std P n₀) ks xs ys = some (keqL xs ys)
  | [], [], [], _, _ => rfl
  | k :: ks, x :: xs, y :: ys, hx, hy => by
    simp only [shapes] at hx hy
    split at hx
    case h_2 => simp at hx
    rename_i h1
    split at hy
    case h_2 => simp at hy
    rename_i h2
    have ih := shapes_all hx hy
    simp only [eqAll, shape_leaf h1 h2]
    split
    · have : xs = [] := by cases xs with | nil => rfl | cons _ _ => simp [shapes] at hx
      subst this
      have : ys = [] := by cases ys with | nil => rfl | cons _ _ => simp [shapes] at hy
      subst this
      simp [keqL]
    · rw [ih]; rfl
  | [], _ :: _, _, hx, _ => by simp [shapes] at hx
  | [], [], _ :: _, _, hy => by simp [shapes] at hy
  | _ :: _, [], _, hx, _ => by simp [shapes] at hx
  | _ :: _, _ :: _, [], _, hy => by simp [shapes] at hy

theorem key_eqT {T : Ty} {x y : AV} (hl : T.lv ≠ []) (hx : keyOk T.agg T.lv x = true) (hy : keyOk T.agg T.lv y = true) : eqT (std P n₀) T x y = some (keq x y) := by
  unfold eqT
  split
  · rename_i e; exact absurd e hl
  · unfold keyOk at hx hy
    split
    · rename_i ha
      simp only [ha] at hx hy
      cases x <;> (first | (simp at hx; done) | skip)
      cases y <;> (first | (simp at hy; done) | skip)
      simp only at hx hy ⊢
      exact shapes_all hx hy
    · rename_i ha
      simp only [ha] at hx hy
      have one : ∀ {z : AV}, shapes T.lv [z] = true → z.cells = [z] := by
        intro z hz
        cases h : T.lv with
        | nil => exact absurd h hl
        | cons k ks =>
          rw [h] at hz
          simp only [shapes] at hz
          split at hz
          · rename_i h1
            cases z <;> first | rfl | (cases k <;> simp [shape1] at h1)
          · simp at hz
      rw [shapes_all hx hy]
      simp [keq, one hx, one hy]

/-- The model's '==' on keys. -/
theorem run_equalT (ht : TabOk P tab) {t : TypeId} {x y : AV} {v u : Value} {b : Bool} {S : Nat → Nat → Prop} {n : Nat} (h : eqT (std P n₀) (tab t) x y = some b) (hx : Val w S ρ n x v) (hy : Val w S ρ n y u) :
    (Op.equal t v u).run P w = .ok b w := by
  unfold eqT at h
  split at h
  · simp at h
  rename_i ks hks
  have hno : tab t ≠ Ty.no := fun e => by rw [e] at hks; simp [Ty.no] at hks
  obtain ⟨i, d, z, hty⟩ := ht.of hno
  rw [hty.lv] at hks h
  have hlv : P.eqGuardType P.depth t = false ∧ leaves P 8 t = some (lvOf P t) := by
    unfold lvOf at hks ⊢
    split at hks
    · exact absurd rfl hks
    · rename_i hg
      refine ⟨by simpa using hg, ?_⟩
      simp only [hg, if_false, Bool.false_eq_true]
      cases hl : leaves P 8 t with
      | none => rw [hl] at hks; simp at hks
      | some l => simp
  split at h
  · rename_i ha
    have hagg : isAggT P t = true := by rw [hty.agg] at ha; simp [isAggT, hty.und, ha]
    cases x <;> first | (simp at h; done) | skip
    cases y <;> first | (simp at h; done) | skip
    obtain ⟨vs, rfl, h1⟩ := val_agg hx
    obtain ⟨us, rfl, h2⟩ := val_agg hy
    obtain ⟨h3, h4, h5⟩ := all_sound (P := P) h h1 h2
    exact eq_main w 8 hlv.2 10000 (by omega) h4 h5 h3 (x := .agg vs.toArray) (y := .agg us.toArray) (by simp [asVal, hagg]) (by simp [asVal, hagg])
  · rename_i ha
    have hagg : isAggT P t = false := by rw [hty.agg] at ha; simp [isAggT, hty.und, ha]
    obtain ⟨h3, h4, h5⟩ := all_sound (P := P) (vs := [v]) (us := [u]) h ⟨hx, trivial⟩ ⟨hy, trivial⟩
    exact eq_main w 8 hlv.2 10000 (by omega) h4 h5 h3 (x := v) (y := u) (by simp [asVal, hagg]) (by simp [asVal, hagg])

theorem findNow_asking {kt : TypeId} {d : TypeDesc} (hd : P.underlying kt = some d) {v : Value} : ∀ (ms : List MapEntry) (i : Nat) {r : Option (Nat × Value)}, Instr.findNow d v ms i = some r → (Instr.findAsking kt v ms i).run P w = .ok r w
  | [], i, r, h => by simp [Instr.findNow] at h; subst h; simp [Instr.findAsking]
  | m :: ms, i, r, h => by
    simp only [Instr.findNow] at h
    have key : ∀ {b : Bool}, Instr.sameNow d v m.key = some b → (Op.equal kt v m.key).run P w = .ok b w := by
      intro b hb
      refine eq_leaf (P := P) w hd 9999 ?_
      unfold Instr.sameNow at hb
      split at hb
      · split at hb
        · rename_i e; subst e; simp at hb; subst hb; simp_all [eqVL, tkOf]
        · simp at hb
      · simp at hb; subst hb; simp_all [eqVL, tkOf]
      · simp at hb; subst hb; simp_all [eqVL, tkOf]
      · simp at hb
    split at h
    · rename_i hb
      simp at h; subst h
      simp [Instr.findAsking, Sem.run_bind, key hb, Result.andThen]
    · rename_i hb
      simp only [Instr.findAsking, Sem.run_bind, key hb, Result.andThen_ok, Bool.false_eq_true, if_false]
      exact findNow_asking hd ms (i + 1) h
    · simp at h

theorem run_findKey_asking {kt : TypeId} {d : TypeDesc} (hd : P.underlying kt = some d) {v : Value} {ms : List MapEntry} {r : Option (Nat × Value)} (h : (Instr.findAsking kt v ms 0).run P w = .ok r w) : (Instr.findKey kt v ms).run P w = .ok r w := by
  simp only [Instr.findKey, Sem.run_bind, run_underlying hd, Result.andThen_ok]
  cases hf : Instr.findNow d v ms 0 with
  | none => simpa using h
  | some q =>
    have := findNow_asking (w := w) hd ms 0 hf
    rw [h] at this
    simp only [Result.ok.injEq] at this
    rw [this.1]; rfl

/-- Where a key is in a map. -/
theorem shape_free {S : Nat → Nat → Prop} {n : Nat} {k : TK} {a : AV} {v : Value} (h : shape1 k a = true) (hv : Val w S ρ n a v) : Val w S ρ 0 a v := by
  obtain ⟨d, hv⟩ := hv
  cases d with
  | zero => exact hv.elim
  | succ d => cases k <;> cases a <;> first | exact ⟨1, hv⟩ | (simp [shape1] at h)
theorem shapes_free {S : Nat → Nat → Prop} {n : Nat} : ∀ {ks : List TK} {l : List AV} {vs : List Value}, shapes ks l = true → All2 (Val w S ρ n) l vs → All2 (Val w S ρ 0) l vs
  | [], [], [], _, _ => trivial
  | [], _ :: _, _, h, _ => by simp [shapes] at h
  | _ :: _, [], _, h, _ => by simp [shapes] at h
  | k :: ks, a :: l, v :: vs, h, hv => by
    simp only [shapes] at h
    split at h
    · rename_i e; exact ⟨shape_free e hv.1, shapes_free h hv.2⟩
    · simp at h
  | [], [], _ :: _, _, h => h.elim
  | _ :: _, _ :: _, [], _, h => h.elim
theorem key_free {S : Nat → Nat → Prop} {n : Nat} {agg : Bool} {lv : List TK} {k : AV} {v : Value} (h : keyOk agg lv k = true) (hv : Val w S ρ n k v) : Val w S ρ 0 k v := by
  unfold keyOk at h
  split at h
  · split at h
    · obtain ⟨vs, rfl, h2⟩ := val_agg hv
      obtain ⟨d, hd⟩ := all2_depth (shapes_free h h2)
      exact ⟨d + 1, vs, rfl, hd⟩
    · simp at h
  · exact (shapes_free (vs := [v]) h ⟨hv, trivial⟩).1

theorem find_all {S : Nat → Nat → Prop} {n : Nat} (ht : TabOk P tab) {kt : TypeId} {k : AV} {v : Value} (hl : (tab kt).lv ≠ []) (hk : keyOk (tab kt).agg (tab kt).lv k = true) (hv : Val w S ρ n k v) :
    ∀ {es : List (AV × AV)} {ms : List MapEntry}, All2 (fun (x : AV × AV) (m : MapEntry) => Val w S ρ n x.1 m.key ∧ Val w S ρ n x.2 m.val) es ms → (∀ x ∈ es, keyOk (tab kt).agg (tab kt).lv x.1 = true) →
      (mfind es k = none ∧ (∀ i, (Instr.findAsking kt v ms i).run P w = .ok none w) ∧ (∀ u, mput es k u = es ++ [(k, u)]) ∧ mdel es k = es) ∨
      ∃ j x m, es[j]? = some x ∧ ms[j]? = some m ∧ keq k x.1 = true ∧ mfind es k = some x.2 ∧ (∀ i, (Instr.findAsking kt v ms i).run P w = .ok (some (i + j, m.val)) w) ∧ (∀ u, mput es k u = es.set j (k, u)) ∧ mdel es k = es.eraseIdx j
  | [], [], _, _ => .inl ⟨rfl, fun i => by simp [Instr.findAsking], fun u => rfl, rfl⟩
  | x :: es, m :: ms, h, hs => by
    have he := run_equalT (n₀ := 0) (w := w) ht (key_eqT (P := P) (n₀ := 0) hl hk (hs x List.mem_cons_self)) hv h.1.1
    cases hb : keq k x.1 with
    | true =>
      rw [hb] at he
      exact .inr ⟨0, x, m, rfl, rfl, hb, by simp [mfind, hb], fun i => by simp [Instr.findAsking, Sem.run_bind, he, Result.andThen], fun u => by simp [mput, hb], by simp [mdel, hb]⟩
    | false =>
      rw [hb] at he
      have step : ∀ i, (Instr.findAsking kt v (m :: ms) i).run P w = (Instr.findAsking kt v ms (i + 1)).run P w := fun i => by
        simp [Instr.findAsking, Sem.run_bind, he, Result.andThen]
      rcases find_all ht hl hk hv h.2 (fun y hy => hs y (List.mem_cons_of_mem _ hy)) with ⟨h1, h2, h3, h4⟩ | ⟨j, y, m', h1, h2, h3, h4, h5, h6, h7⟩
      · exact .inl ⟨by simp [mfind, hb, h1], fun i => by rw [step, h2], fun u => by simp [mput, hb, h3], by simp [mdel, hb, h4]⟩
      · exact .inr ⟨j + 1, y, m', by simpa using h1, by simpa using h2, h3, by simp [mfind, hb, h4], fun i => by rw [step, h5, show i + 1 + j = i + (j + 1) by omega], fun u => by simp [mput, hb, h6], by simp [mdel, hb, h7]⟩
  | [], _ :: _, h, _ => h.elim
  | _ :: _, [], h, _ => h.elim

/-- Keys that are the same are the same values. -/
theorem keq_val {S S' : Nat → Nat → Prop} {n n' : Nat} {ρ' : Ro} : ∀ {ks : List TK} {xs ys : List AV} {vs us : List Value}, shapes ks xs = true → shapes ks ys = true → keqL xs ys = true → All2 (Val w S ρ n) xs vs → All2 (Val w S' ρ' n') ys us → vs = us ∧ ∀ v ∈ vs, v.oneCell' = true ∧ ∀ m, Instr.sameBits m v v = true
  | [], [], [], [], [], _, _, _, _, _ => ⟨rfl, by simp⟩
  | k :: ks, x :: xs, y :: ys, v :: vs, u :: us, hx, hy, he, hv, hu => by
    simp only [shapes] at hx hy
    split at hx
    case h_2 => simp at hx
    rename_i h1
    split at hy
    case h_2 => simp at hy
    rename_i h2
    simp only [keqL, Bool.and_eq_true] at he
    obtain ⟨rfl, hall⟩ := keq_val hx hy he.2 hv.2 hu.2
    have hvu : v = u ∧ v.oneCell' = true ∧ ∀ m, Instr.sameBits m v v = true := by
      have hv1 := hv.1
      have hu1 := hu.1
      cases k <;> cases x <;> (first | (simp [shape1] at h1; done) | skip) <;> cases y <;> (first | (simp [shape1] at h2; done) | skip)
      · rename_i k k1 n1 k2 n2
        have e1 := kn_eq h1
        have e2 := kn_eq h2
        subst e1; subst e2
        have := val_int hv1; subst this
        have := val_int hu1; subst this
        have := he.1
        simp only [keqC, beq_iff_eq] at this
        subst this
        exact ⟨rfl, rfl, fun m => by cases m <;> simp [Instr.sameBits]⟩
      all_goals
        first | (have := val_bool hv1; subst this) | (have := val_bl hv1; subst this) | (have := val_str hv1; subst this)
        first | (have := val_bool hu1; subst this) | (have := val_bl hu1; subst this) | (have := val_str hu1; subst this)
        have := he.1
        simp only [keqC, AV.tell, beq_iff_eq] at this
        first | subst this | (have := (MapKept.bytes_beq _ _).1 this; subst this)
        exact ⟨rfl, rfl, fun m => by cases m <;> simp [Instr.sameBits, (MapKept.bytes_beq _ _).2 rfl]⟩
    obtain ⟨rfl, h3, h4⟩ := hvu
    exact ⟨rfl, fun v' hv' => by
      rcases List.mem_cons.1 hv' with rfl | hv'
      · exact ⟨h3, h4⟩
      · exact hall v' hv'⟩
  | [], _ :: _, _, _, _, hx, _, _, _, _ => by simp [shapes] at hx
  | [], [], _ :: _, _, _, _, hy, _, _, _ => by simp [shapes] at hy
  | [], [], [], _ :: _, _, _, _, _, hv, _ => hv.elim
  | [], [], [], [], _ :: _, _, _, _, _, hu => hu.elim
  | _ :: _, [], _, _, _, hx, _, _, _, _ => by simp [shapes] at hx
  | _ :: _, _ :: _, [], _, _, _, hy, _, _, _ => by simp [shapes] at hy
  | _ :: _, _ :: _, _ :: _, [], _, _, _, _, hv, _ => hv.elim
  | _ :: _, _ :: _, _ :: _, _ :: _, [], _, _, _, _, hu => hu.elim

theorem key_same {S : Nat → Nat → Prop} {n : Nat} {agg : Bool} {lv : List TK} {x y : AV} {v u : Value} (hl : lv ≠ []) (hx : keyOk agg lv x = true) (hy : keyOk agg lv y = true) (he : keq x y = true) (hv : Val w S ρ n x v) (hu : Val w S ρ n y u) :
    (Instr.keyThatStays u v).run P w = .ok v w := by
  have fin : v = u ∧ Instr.sameBits 10000 v v = true := by
    unfold keyOk at hx hy
    cases agg with
    | true =>
      cases x <;> (first | (simp at hx; done) | skip)
      cases y <;> (first | (simp at hy; done) | skip)
      simp only at hx hy
      obtain ⟨vs, rfl, h1⟩ := val_agg hv
      obtain ⟨us, rfl, h2⟩ := val_agg hu
      obtain ⟨rfl, h3⟩ := keq_val hx hy he h1 h2
      refine ⟨rfl, ?_⟩
      simp only [Instr.sameBits, BEq.rfl, Bool.true_and]
      rw [List.all_eq_true]
      intro z hz
      have : ∀ (l : List Value), ∀ z ∈ l.zip l, z.1 = z.2 ∧ z.1 ∈ l := by
        intro l
        induction l with
        | nil => simp
        | cons q l ih =>
          intro z hz
          rcases List.mem_cons.1 hz with rfl | hz
          · exact ⟨rfl, List.mem_cons_self⟩
          · obtain ⟨e1, e2⟩ := ih z hz; exact ⟨e1, List.mem_cons_of_mem _ e2⟩
      obtain ⟨e1, e2⟩ := this vs z hz
      rw [← e1]; exact (h3 _ e2).2 _
    | false =>
      simp only at hx hy
      have one : ∀ {z : AV}, shapes lv [z] = true → z.cells = [z] := by
        intro z hz
        cases h : lv with
        | nil => exact absurd h hl
        | cons k ks =>
          rw [h] at hz
          simp only [shapes] at hz
          split at hz
          · rename_i h1
            cases z <;> first | rfl | (cases k <;> simp [shape1] at h1)
          · simp at hz
      simp only [keq, one hx, one hy] at he
      obtain ⟨e, h3⟩ := keq_val (vs := [v]) (us := [u]) hx hy he ⟨hv, trivial⟩ ⟨hu, trivial⟩
      simp at e
      exact ⟨e, (h3 v (by simp)).2 _⟩
  obtain ⟨rfl, h2⟩ := fin
  simp [Instr.keyThatStays, h2]

theorem check_plain {t : TypeId} {d : TypeDesc} (hu : P.underlying t = some d) (hp : (tkOf d).plain = true) (e : Bool) (m : Nat) (v : Value) : (Instr.checkKey e (m + 1) t v).run P w = .ok () w := by
  unfold Instr.checkKey
  simp only [Sem.run_bind, run_underlying hu, Result.andThen_ok]
  cases d <;> simp [tkOf, TK.plain] at hp <;> simp

theorem check_fields {cs : Array Value} {n : Nat} {e : Bool} {m : Nat} (ht : TabOk P tab) (hn : n = cs.size) : ∀ (fs : List Field), flds tab n (fs.map fun f => (f.type, f.offset)) = true →
    (forIn fs PUnit.unit (fun f (_ : PUnit) => do
      if f.name ≠ "_" then
        Instr.checkKey e (m + 1) f.type (← part f.type cs f.offset)
        pure (ForInStep.yield PUnit.unit)
      else pure (ForInStep.yield PUnit.unit)) : Sem PUnit).run P w = .ok PUnit.unit w
  | [], _ => by simp
  | f :: fs, h => by
    simp only [List.map_cons, flds] at h
    split at h
    case h_2 => simp at h
    rename_i hp
    split at h
    case h_2 => simp at h
    rename_i hlt
    have hlt' : f.offset < cs.size := by rw [← hn]; simpa [ltN_eq] using hlt
    obtain ⟨i, d, z, hty⟩ := ht.kind (t := f.type) (k := (tab f.type).k) rfl (by intro e; rw [e] at hp; simp [TK.plain] at hp)
    have hpd : (tkOf d).plain = true := by rw [← hty.k]; exact hp
    have hone : isAggT P f.type = false := by simp only [isAggT, hty.und]; cases d <;> simp [tkOf, TK.plain, aggOf] at hpd ⊢
    have hpart := run_part_one (P := P) (w := w) (t := f.type) (xs := cs) (off := f.offset) (v := cs[f.offset]) (by simp [hty.und]) hone (by simp [hlt'])
    have ih := check_fields (e := e) (m := m) ht hn fs h
    by_cases hname : f.name = "_"
    · simp only [List.forIn_cons, Sem.run_bind, hname, ne_eq, not_true_eq_false, if_false, Sem.run_pure, Result.andThen_ok]
      exact ih
    · simp only [List.forIn_cons, Sem.run_bind, hname, ne_eq, not_false_eq_true, if_true, hpart, Result.andThen_ok, check_plain hty.und hpd e m, Sem.run_pure]
      exact ih

/-- A key's type is one that can be looked up. -/
theorem check_key {S : Nat → Nat → Prop} {n : Nat} (ht : TabOk P tab) {kt : TypeId} {k : AV} {v : Value} {e : Bool} (hkt : keyTy tab (tab kt) = true) (hk : keyOk (tab kt).agg (tab kt).lv k = true) (hv : Val w S ρ n k v) : (Instr.checkKey e 10000 kt v).run P w = .ok () w := by
  unfold keyTy at hkt
  split at hkt
  · simp at hkt
  have plain : (tab kt).k.plain = true → (Instr.checkKey e 10000 kt v).run P w = .ok () w := by
    intro hp
    obtain ⟨i, d, z, hty⟩ := ht.kind (t := kt) (k := (tab kt).k) rfl (by intro e; rw [e] at hp; simp [TK.plain] at hp)
    exact check_plain hty.und (by rw [← hty.k]; exact hp) e 9999 v
  split at hkt
  · rename_i e1; exact plain (by rw [e1]; rfl)
  · rename_i e1; exact plain (by rw [e1]; rfl)
  · rename_i e1; exact plain (by rw [e1]; rfl)
  · rename_i fs e1
    obtain ⟨i, d, z, hty⟩ := ht.kind e1 (by simp)
    have hd : ∃ gs : Array Field, d = .struct gs ∧ gs.toList.map (fun f => (f.type, f.offset)) = fs := by
      have := hty.k; rw [e1] at this
      cases d <;> simp [tkOf] at this
      exact ⟨_, rfl, by simp [this]⟩
    obtain ⟨gs, rfl, hgs⟩ := hd
    have hagg : (tab kt).agg = true := by rw [hty.agg]; rfl
    unfold keyOk at hk
    rw [hagg] at hk
    cases k <;> (first | (simp at hk; done) | skip)
    simp only at hk
    obtain ⟨vs, rfl, h1⟩ := val_agg hv
    -- as many cells as the type has
    have hlen : lenN (tab kt).lv = vs.length := by
      have hsh : ∀ {ks : List TK} {xs : List AV}, shapes ks xs = true → ks.length = xs.length := by
        intro ks
        induction ks with
        | nil => intro xs h; cases xs with | nil => rfl | cons _ _ => simp [shapes] at h
        | cons k ks ih =>
          intro xs h
          cases xs with
          | nil => simp [shapes] at h
          | cons x xs =>
            simp only [shapes] at h
            split at h
            · simp [ih h]
            · simp at h
      rw [lenN_eq, hsh hk]; exact h1.length
    rw [← hgs] at hkt
    have := check_fields (e := e) (m := 9998) (cs := vs.toArray) (w := w) ht (by simpa using hlen) gs.toList hkt
    show (Instr.checkKey e (9998 + 1 + 1) kt (.agg vs.toArray)).run P w = _
    rw [Instr.checkKey]
    simp only [Sem.run_bind, run_underlying hty.und, Result.andThen_ok]
    rw [← Array.forIn_toList]
    rw [this]; rfl
  · simp at hkt

/-- A map's entries turned. -/
theorem rel_map (h : Rel ρ s.hp w) {i : Nat} {es es' : List (AV × AV)} {ms ms' : List MapEntry} {c c' : Nat} (hi : s.hp[i]? = some (.mp es)) (hb : w.heap[ρ.b i]? = some (.map ms.toArray c))
    (hv : All2 (fun (x : AV × AV) (m : MapEntry) => Val w (Stay ρ s.hp) ρ 0 x.1 m.key ∧ Val w (Stay ρ s.hp) ρ 0 x.2 m.val) es' ms') (hlt : ∀ m ∈ ms', m.born < c') (hnd : (ms'.map (·.born)).Nodup) :
    Stp ρ s.hp w ρ (setN s.hp i (.mp es')) (w.putObj (ρ.b i) (.map ms'.toArray c')) ∧ Rel ρ (setN s.hp i (.mp es')) (w.putObj (ρ.b i) (.map ms'.toArray c')) := by
  have hnew := World.putObj_heap_same (w := w) (o := .map ms'.toArray c') (lt_of_heap hb)
  have oth : ∀ {b : Nat}, b ≠ ρ.b i → (w.putObj (ρ.b i) (.map ms'.toArray c')).heap[b]? = w.heap[b]? := fun h => World.putObj_heap_other h
  have hlen : (setN s.hp i (.mp es')).length = s.hp.length := by rw [setN_eq]; simp
  have hown : ∀ b o, Own ρ (setN s.hp i (.mp es')) b o ↔ Own ρ s.hp b o := by
    intro b o
    constructor
    · rintro ⟨j, f, hj, ho⟩
      rcases get_set hj with ⟨rfl, rfl⟩ | ⟨hne, hj⟩
      · exact ⟨j, _, hi, ho⟩
      · exact ⟨j, f, hj, ho⟩
    · rintro ⟨j, f, hj, ho⟩
      by_cases hne : j = i
      · subst hne
        rw [hi] at hj; simp at hj; subst hj
        exact ⟨j, .mp es', by rw [setN_eq]; simp [lt_of_get hi], ho⟩
      · exact ⟨j, f, by rw [setN_eq, List.getElem?_set]; simp [Ne.symm hne, hj], ho⟩
  have hst : Stp ρ s.hp w ρ (setN s.hp i (.mp es')) (w.putObj (ρ.b i) (.map ms'.toArray c')) := by
    refine ⟨rfl, rfl, rfl, by rw [World.putObj_size]; exact Nat.le_refl _, fun b ob hob => ?_, fun b o _ ho => (hown b o).1 ho, by omega, fun _ _ => rfl, fun _ _ => .inl rfl, rfl, rfl⟩
    by_cases hbb : b = ρ.b i
    · subst hbb
      rw [hb] at hob; simp at hob; subst hob
      exact ⟨_, hnew, .inl ⟨i, _, hi, rfl⟩⟩
    · exact ⟨ob, by rw [oth hbb]; exact hob, okBlk.refl _ _⟩
  refine ⟨hst, fun j f hj => ?_, fun j l f g b o hj hl hf hg => ?_, fun b o ho => by rw [World.putObj_size]; exact h.xlt b o ho, fun b o ho => h.xown b o ((hown b o).1 ho)⟩
  · rcases get_set hj with ⟨rfl, rfl⟩ | ⟨hne, hj⟩
    · exact ⟨ms', c', hnew, hv.imp fun _ _ h => ⟨h.1.keep hst.keeps.zero, h.2.keep hst.keeps.zero⟩, hlt, hnd⟩
    · refine (h.ents j f hj).keep hst.keeps (lt_of_get hj) rfl (fun hk => ?_) (fun hp hlt c e' f' hc => ?_)
      · refine oth fun e => hne ?_
        refine h.disj j i f _ (ρ.b i) 0 hj hi ?_ rfl
        cases f <;> simp_all [Ent.blk, OwnE]
      · refine ⟨c, ?_, rfl, fun _ _ _ => rfl⟩
        rw [oth fun e => by rw [e, hb] at hc; simp at hc]; exact hc
  · have back : ∀ j f, (setN s.hp i (.mp es'))[j]? = some f → OwnE ρ j b o f → ∃ f', s.hp[j]? = some f' ∧ OwnE ρ j b o f' := by
      intro j f hj ho
      rcases get_set hj with ⟨rfl, rfl⟩ | ⟨hne, hj⟩
      · exact ⟨_, hi, ho⟩
      · exact ⟨f, hj, ho⟩
    obtain ⟨f', hj', hf'⟩ := back j f hj hf
    obtain ⟨g', hl', hg'⟩ := back l g hl hg
    exact h.disj j l f' g' b o hj' hl' hf' hg'

theorem map_und (ht : TabOk P tab) {t kt et : TypeId} (hk : (tab t).k = .map kt et) : P.underlying t = some (.map kt et) := by
  obtain ⟨i, d, z, hty⟩ := ht.kind hk (by simp)
  have hd : d = .map kt et := by have := hty.k; rw [hk] at this; cases d <;> simp [tkOf] at this; obtain ⟨rfl, rfl⟩ := this; rfl
  rw [← hd]; exact hty.und

theorem val_mp {S : Nat → Nat → Prop} {n id : Nat} {v : Value} (h : Val w S ρ n (.mp id) v) : id < n ∧ v = .map (some (ρ.b id)) := by
  obtain ⟨d, h⟩ := h; cases d <;> simp [Cz] at h; exact h
theorem val_nilm {S : Nat → Nat → Prop} {n : Nat} {v : Value} (h : Val w S ρ n .nilm v) : v = .map none := by
  obtain ⟨d, h⟩ := h; cases d <;> simp [Cz] at h; exact h

theorem key_ne {T : Ty} (h : keyTy tab T = true) : T.lv ≠ [] := by
  intro e; unfold keyTy at h; rw [e] at h; simp at h

theorem sound_lookup (ht : TabOk P tab) {t : TypeId} {x k : Operand} {cok : Bool} (ho : o.op = .lookup t x k cok) (hs : RelS ρ s a w) (h : aop (std P n₀) tab (.lookup t x k cok) s K E) (hg : Goes ρ s a w o.dst K next) : o.wp P a w next Q := by
  have hx := ev_val hs x
  have hk := ev_val hs k
  simp only [aop] at h
  unfold lkA at h
  split at h
  case h_2 => exact h.elim
  rename_i kt et hmk
  have hu := map_und ht hmk
  split at h
  · exact h.elim
  rename_i hkt
  split at h
  · exact h.elim
  rename_i hko
  split at h
  · exact h.elim
  rename_i z hz
  obtain ⟨zi, zd, zv, hzt, hz2, _⟩ := zeroV_val (w := w) (S := Stay ρ s.hp) (ρ := ρ) (n := s.hp.length) ht hz
  have hz1 := run_zero hzt w
  have hlv := key_ne hkt
  have out : ∀ {v : AV} {u : Value} {b : Bool}, Val w (Stay ρ s.hp) ρ s.hp.length v u → Val w (Stay ρ s.hp) ρ s.hp.length (lkV cok v b) (if cok then .tuple #[u, .bool b] else u) := by
    intro v u b hv
    cases cok with
    | false => exact hv
    | true =>
      obtain ⟨d, hd⟩ := hv
      refine ⟨d + 2, [u, .bool b], rfl, Cz.succ _ _ _ hd, ?_, trivial⟩
      rfl
  split at h
  · rename_i e
    rw [e] at hx
    have := val_nilm hx
    refine wp_value (v := if cok then .tuple #[zv, .bool false] else zv) (w' := w) ?_ (hg.here hs h (out hz2))
    have hc := check_key (w := w) ht (e := true) hkt hko hk
    simp only [execOp, ho, this, Instr.lookup, Sem.run_bind, run_underlying hu, Result.andThen_ok, Sem.run_pure, Array.isEmpty_empty, hc]
    obtain ⟨i, d, zz, hty⟩ := ht.of (t := kt) (fun e => by rw [e] at hlv; simp [Ty.no] at hlv)
    have hf : (Instr.findKey kt (a.eval k) []).run P w = .ok none w := run_findKey_asking hty.und (by simp [Instr.findAsking])
    simp only [hf, Result.andThen_ok, Sem.run_bind, hz1, Sem.run_pure]
    try (cases cok <;> rfl)
  · rename_i id e
    rw [e] at hx
    obtain ⟨_, hxv⟩ := val_mp hx
    rw [nth_eq] at h
    split at h
    case h_2 => exact h.elim
    rename_i es hes
    obtain ⟨ms, c, hb, hall, hborn, hnd⟩ := hs.rel.ents _ _ hes
    obtain ⟨hmok, h1, h2⟩ := h
    have hc := check_key (w := w) (e := ms.toArray.isEmpty) ht hkt hko hk
    have hgm := run_getMap (P := P) hb
    obtain ⟨i, d, zz, hty⟩ := ht.of (t := kt) (fun e => by rw [e] at hlv; simp [Ty.no] at hlv)
    rcases find_all (w := w) (P := P) ht hlv hko (key_free hko hk) hall hmok with ⟨f1, f2, _, _⟩ | ⟨j, y, m, g1, g2, g3, g4, g5, _, _⟩
    · refine wp_value (v := if cok then .tuple #[zv, .bool false] else zv) (w' := w) ?_ (hg.here hs (h2 f1) (out hz2))
      have hf := run_findKey_asking hty.und (f2 0)
      simp only [execOp, ho, hxv, Instr.lookup, Sem.run_bind, run_underlying hu, Result.andThen_ok, hgm, Sem.run_pure, hc, hf, hz1]
      try (cases cok <;> rfl)
    · obtain ⟨m', hm', hv'⟩ := hall.get g1
      rw [g2] at hm'; simp at hm'; subst hm'
      refine wp_value (v := if cok then .tuple #[m.val, .bool true] else m.val) (w' := w) ?_ (hg.here hs (h1 _ g4) (out hv'.2.up))
      have hf := run_findKey_asking hty.und (g5 0)
      simp only [execOp, ho, hxv, Instr.lookup, Sem.run_bind, run_underlying hu, Result.andThen_ok, hgm, Sem.run_pure, hc, hf]
      try (cases cok <;> rfl)
  · exact h.elim

theorem map_born {ms : List MapEntry} {c : Nat} {k v : Value} (h1 : ∀ m ∈ ms, m.born < c) (h2 : (ms.map (·.born)).Nodup) :
    (∀ m ∈ ms ++ [({ key := k, val := v, born := c } : MapEntry)], m.born < c + 1) ∧ ((ms ++ [({ key := k, val := v, born := c } : MapEntry)]).map (·.born)).Nodup := by
  refine ⟨fun m hm => ?_, ?_⟩
  · rcases List.mem_append.1 hm with hm | hm
    · have := h1 m hm; omega
    · simp at hm; subst hm; exact Nat.lt_succ_self _
  · rw [List.map_append, List.nodup_append]
    refine ⟨h2, by simp, fun x hx y hy e => ?_⟩
    obtain ⟨m, hm, rfl⟩ := List.mem_map.1 hx
    simp at hy; subst hy
    have := h1 m hm; omega

theorem map_set {ms : List MapEntry} {j : Nat} {m m' : MapEntry} {c : Nat} (hj : ms[j]? = some m) (hb : m'.born = m.born) (h1 : ∀ m ∈ ms, m.born < c) (h2 : (ms.map (·.born)).Nodup) :
    (∀ x ∈ ms.set j m', x.born < c) ∧ ((ms.set j m').map (·.born)).Nodup := by
  have e : (ms.set j m').map (·.born) = ms.map (·.born) := by
    rw [List.map_set, hb]
    apply List.ext_getElem?
    intro i
    rw [List.getElem?_set]
    split
    · rename_i e; subst e
      have := lt_of_get hj
      have hm := (List.getElem?_eq_some_iff.1 hj).2
      simp [this, hm]
    · rfl
  refine ⟨fun x hx => ?_, by rw [e]; exact h2⟩
  have : x.born ∈ (ms.set j m').map (·.born) := List.mem_map_of_mem hx
  rw [e] at this
  obtain ⟨y, hy, he⟩ := List.mem_map.1 this
  rw [← he]; exact h1 y hy

theorem sound_mapUpdate (ht : TabOk P tab) {t : TypeId} {x k v : Operand} (ho : o.op = .mapUpdate t x k v) (hs : RelS ρ s a w) (h : aop (std P n₀) tab (.mapUpdate t x k v) s K E) (hg : Goes ρ s a w o.dst K next) : o.wp P a w next Q := by
  have hx := ev_val hs x
  have hk := ev_val hs k
  have hv0 := ev_val hs v
  simp only [aop] at h
  unfold muA at h
  split at h
  case h_2 => exact h.elim
  rename_i kt et hmk
  have hu := map_und ht hmk
  split at h
  · exact h.elim
  rename_i hkt
  split at h
  · exact h.elim
  rename_i hko
  have hlv := key_ne hkt
  split at h
  case h_2 => exact h.elim
  rename_i id e
  rw [e] at hx
  obtain ⟨_, hxv⟩ := val_mp hx
  rw [nth_eq] at h
  split at h
  case h_2 => exact h.elim
  rename_i es hes
  obtain ⟨ms, c, hb, hall, hborn, hnd⟩ := hs.rel.ents _ _ hes
  split at h
  case h_2 => exact h.elim
  rename_i ys hfr
  have hv := unc_val hfr hv0
  have hk0 := key_free hko hk
  obtain ⟨hmok, h⟩ := h
  have hc := check_key (w := w) (e := false) ht hkt hko hk
  have hgm := run_getMap (P := P) hb
  obtain ⟨i, d, zz, hty⟩ := ht.of (t := kt) (fun e => by rw [e] at hlv; simp [Ty.no] at hlv)
  rcases find_all (w := w) (P := P) ht hlv hko hk0 hall hmok with ⟨f1, f2, f3, _⟩ | ⟨j, y, m, g1, g2, g3, g4, g5, g6, _⟩
  · have hf := run_findKey_asking hty.und (f2 0)
    have hset := MapKept.run_setObj_map (P := P) (.map (ms.toArray.push { key := a.eval k, val := a.eval v, born := c }) (c + 1)) hb
    obtain ⟨b1, b2⟩ := map_born (k := a.eval k) (v := a.eval v) hborn hnd
    have hr := rel_map hs.rel (es' := mput es (s.ev k) (unc (s.ev v) ys)) (c' := c + 1) hes hb (by rw [f3]; exact hall.append ⟨⟨hk0, hv⟩, trivial⟩) b1 b2
    have hpush : ms.toArray.push { key := a.eval k, val := a.eval v, born := c } = (ms ++ [({ key := a.eval k, val := a.eval v, born := c } : MapEntry)]).toArray := by simp
    rw [← hpush] at hr
    refine wp_skip' (w' := w.putObj (ρ.b id) _) ?_ (hg.go .junk undef ρ _ _ h Val.junk hr.1 hr.2)
    simp only [execOp, ho, hxv, Instr.mapUpdate, Sem.run_bind, run_underlying hu, Result.andThen_ok, hgm, hc, hf, hset, Sem.run_pure]
    rfl
  · have hf := run_findKey_asking hty.und (g5 0)
    obtain ⟨m', hm', hkv, _⟩ := hall.get g1
    rw [g2] at hm'; simp at hm'; subst hm'
    have hky := key_same (P := P) hlv hko (hmok _ (List.mem_of_getElem? g1)) g3 hk0 hkv
    have hset := MapKept.run_setObj_map (P := P) (.map (ms.toArray.modify j fun e => { e with key := a.eval k, val := a.eval v }) c) hb
    have hmod : ms.toArray.modify j (fun e => { e with key := a.eval k, val := a.eval v }) = (ms.set j { m with key := a.eval k, val := a.eval v }).toArray := by
      apply Array.ext_getElem?
      intro q
      simp only [Array.getElem?_modify, List.getElem?_toArray, List.getElem?_set]
      by_cases e : j = q
      · subst e
        have hm := (List.getElem?_eq_some_iff.1 g2).2
        simp [lt_of_get g2, hm]
      · simp [e]
    rw [hmod] at hset
    obtain ⟨b1, b2⟩ := map_set (m' := { m with key := a.eval k, val := a.eval v }) g2 rfl hborn hnd
    have hr := rel_map hs.rel (es' := mput es (s.ev k) (unc (s.ev v) ys)) (c' := c) hes hb (by rw [g6, ← setN_eq]; exact hall.set j ⟨hk0, hv⟩) b1 b2
    refine wp_skip' (w' := w.putObj (ρ.b id) _) ?_ (hg.go .junk undef ρ _ _ h Val.junk hr.1 hr.2)
    have hkj : ((ms.toArray[j]?).map (·.key)).getD (a.eval k) = m.key := by simp [g2]
    simp only [execOp, ho, hxv, Instr.mapUpdate, Sem.run_bind, run_underlying hu, Result.andThen_ok, hgm, hc, hf, Nat.zero_add, hkj, hky, hmod, hset, Sem.run_pure]
    rfl

theorem sound_delete (ht : TabOk P tab) {args : Array Operand} {ts : Array TypeId} (ho : o.op = .call ⟨.builtin .delete, args, ts⟩) (hs : RelS ρ s a w) (h : aop (std P n₀) tab (.call ⟨.builtin .delete, args, ts⟩) s K E) (hg : Goes ρ s a w o.dst K next) : o.wp P a w next Q := by
  have hv := evs_val hs args.toList
  have hmap : args.map a.eval = (args.toList.map a.eval).toArray := by apply Array.ext'; simp
  simp only [aop] at h
  generalize hxs : evs s args.toList = xs at h hv
  generalize hus : args.toList.map a.eval = us at hv hmap
  split at h
  case h_2 => exact h.elim
  rename_i x k
  split at h
  case h_2 => exact h.elim
  rename_i t l hts
  match us, hv with
  | [vx, vk], ⟨hx, hk, _⟩ =>
  have hts' : ts = (t :: l).toArray := by apply Array.ext'; simpa using hts
  unfold dlA at h
  split at h
  case h_2 => exact h.elim
  rename_i kt et hmk
  have hu := map_und ht hmk
  split at h
  · exact h.elim
  rename_i hkt
  split at h
  · exact h.elim
  rename_i hko
  have hlv := key_ne hkt
  split at h
  case h_2 => exact h.elim
  rename_i id
  obtain ⟨_, hxv⟩ := val_mp hx
  subst hxv
  rw [nth_eq] at h
  split at h
  case h_2 => exact h.elim
  rename_i es hes
  obtain ⟨ms, c, hb, hall, hborn, hnd⟩ := hs.rel.ents _ _ hes
  obtain ⟨hmok, h⟩ := h
  have hc := check_key (w := w) (e := ms.toArray.isEmpty) ht hkt hko hk
  have hgm := run_getMap (P := P) hb
  obtain ⟨i, d, zz, hty⟩ := ht.of (t := kt) (fun e => by rw [e] at hlv; simp [Ty.no] at hlv)
  have fin : ∀ {ms' : List MapEntry} {w' : World}, (Builtin.delete_ (t :: l).toArray o.type #[.map (some (ρ.b id)), vk]).run P w = .ok (.tuple #[]) w' → Stp ρ s.hp w ρ (setN s.hp id (.mp (mdel es k))) w' → Rel ρ (setN s.hp id (.mp (mdel es k))) w' → o.wp P a w next Q := by
    intro ms' w' hr h1 h2
    exact wp_value (run_bi (f := Builtin.delete_ ts o.type #[.map (some (ρ.b id)), vk]) ho hmap (fun cs => rfl) (by rw [hts']; exact hr)) (hg.go .junk _ ρ _ _ h Val.junk h1 h2)
  rcases find_all (w := w) (P := P) ht hlv hko (key_free hko hk) hall hmok with ⟨f1, f2, _, f4⟩ | ⟨j, y, m, g1, g2, g3, g4, g5, _, g7⟩
  · have hf := run_findKey_asking hty.und (f2 0)
    have hset := MapKept.run_setObj_map (P := P) (.map ms.toArray c) hb
    have hr := rel_map hs.rel (es' := mdel es k) (c' := c) hes hb (by rw [f4]; exact hall) hborn hnd
    refine fin (ms' := ms) (w' := w.putObj (ρ.b id) (.map ms.toArray c)) ?_ hr.1 hr.2
    simp only [Builtin.delete_]
    have e0 : ((t :: l).toArray[0]?) = some t := by simp
    simp only [e0]
    simp only [Sem.run_bind, run_underlying hu, Result.andThen_ok, hgm, hc, hf, hset, Sem.run_pure, List.getElem?_toArray, List.getElem?_cons_zero, List.getElem?_cons_succ]
    rfl
  · have hf := run_findKey_asking hty.und (g5 0)
    have hset := MapKept.run_setObj_map (P := P) (.map (ms.toArray.eraseIdxIfInBounds j) c) hb
    have her : ms.toArray.eraseIdxIfInBounds j = (ms.eraseIdx j).toArray := by
      have := lt_of_get g2
      simp [Array.eraseIdxIfInBounds, this]
    rw [her] at hset
    have hsub := List.eraseIdx_sublist ms j
    have her2 : ∀ {α β : Type} {R : α → β → Prop} {l : List α} {m : List β} (j : Nat), All2 R l m → All2 R (l.eraseIdx j) (m.eraseIdx j) := by
      intro α β R l
      induction l with
      | nil => intro m j h; cases m <;> simp [All2] at h ⊢
      | cons x l ih =>
        intro m j h
        cases m with
        | nil => exact h.elim
        | cons y m =>
          cases j with
          | zero => exact h.2
          | succ j => exact ⟨h.1, ih j h.2⟩
    have hr := rel_map hs.rel (es' := mdel es k) (c' := c) hes hb (by rw [g7]; exact her2 j hall) (fun m hm => hborn m (hsub.subset hm)) ((hsub.map _).nodup hnd)
    refine fin (ms' := ms.eraseIdx j) (w' := w.putObj (ρ.b id) (.map (ms.eraseIdx j).toArray c)) ?_ hr.1 hr.2
    simp only [Nat.zero_add] at hf
    simp only [Builtin.delete_]
    have e0 : ((t :: l).toArray[0]?) = some t := by simp
    simp only [e0]
    simp only [Sem.run_bind, run_underlying hu, Result.andThen_ok, hgm, hc, hf, her, hset, Sem.run_pure, List.getElem?_toArray, List.getElem?_cons_zero, List.getElem?_cons_succ]
    rfl

theorem sound_clear (ht : TabOk P tab) {args : Array Operand} {ts : Array TypeId} (ho : o.op = .call ⟨.builtin .clear, args, ts⟩) (hs : RelS ρ s a w) (h : aop (std P n₀) tab (.call ⟨.builtin .clear, args, ts⟩) s K E) (hg : Goes ρ s a w o.dst K next) : o.wp P a w next Q := by
  have hv := evs_val hs args.toList
  have hmap : args.map a.eval = (args.toList.map a.eval).toArray := by apply Array.ext'; simp
  simp only [aop] at h
  generalize hxs : evs s args.toList = xs at h hv
  generalize hus : args.toList.map a.eval = us at hv hmap
  split at h
  case h_2 => exact h.elim
  rename_i x
  split at h
  case h_2 => exact h.elim
  rename_i t tl hts
  match us, hv with
  | [vx], ⟨hx, _⟩ =>
  have hts' : ts = (t :: tl).toArray := by apply Array.ext'; simpa using hts
  unfold clA at h
  split at h
  case h_3 => exact h.elim
  case h_2 =>
    rename_i e hmk
    have hu := und_slice ht hmk
    split at h
    · exact h.elim
    rename_i zv hz
    split at h
    case h_2 => exact h.elim
    rename_i hsp
    have hsp' : 0 < (tab e).size := by simpa [ltN_eq] using hsp
    split at h
    case h_2 => exact h.elim
    rename_i id z lo n N
    split at h
    case h_2 => exact h.elim
    rename_i hzz
    have hzz' := beN_t hzz
    subst hzz'
    split at h
    case h_2 => exact h.elim
    rename_i z' xs hid
    split at h
    case h_2 => exact h.elim
    rename_i hzz'
    have hzz'' := beN_t hzz'
    subst hzz''
    obtain ⟨p1, p2, p3, h⟩ := h
    replace p3 : lo + n ≤ (xs.length : Nat) := p3
    rw [nth_eq] at hid
    have hent := hs.rel.ents id _ hid
    have hent' := hent
    obtain ⟨hpos, hfit, hblk, hel⟩ := hent'
    obtain ⟨hidl, ad, len, cap, rfl, rfl, hcap, hadr, hloc⟩ := val_vs hx
    obtain ⟨l, rfl, hN, ha⟩ := hloc
    replace ha := ha hpos
    replace h : K .junk (setN s.hp id (.vec (tab e).size (xs.take (l : Int).toNat ++ List.replicate (len : Int).toNat zv ++ xs.drop ((l : Int).toNat + (List.replicate (len : Int).toNat zv).length)))) := h
    rw [Int.toNat_natCast, Int.toNat_natCast] at h
    obtain ⟨i, d, zz, hty, hzv, hone⟩ := zeroV_val (w := w) (S := Stay ρ s.hp) (ρ := ρ) (n := 0) ht hz
    have hzl : zz.cells.toList.length = (tab e).size := by rw [← hty.zsize]; simp
    obtain ⟨hzc, hz1⟩ := hzv.cells hone
    have hle : (ρ.t id).start + (l + len) * (tab e).size ≤ (ρ.t id).stop := by
      have := Nat.mul_le_mul_right (tab e).size (show l + len ≤ xs.length by omega); omega
    have hnews : ∀ u ∈ repl len zz.cells.toList, u.oneCell' = true := by
      intro u hu
      obtain ⟨q, hq⟩ := List.mem_iff_getElem?.1 hu
      have hlt := lt_of_get hq
      rw [repl_length] at hlt
      rw [repl_get _ _ _ hlt] at hq
      exact hz1 u (List.mem_of_getElem? hq)
    have hst := rel_lay hs.rel (ys := List.replicate len zv) (p := l) (news := repl len zz.cells.toList) hid (by omega) (by simpa using hle) (by simp [repl_length, hzl]) hnews (fun j x hx' => by
      rw [List.getElem?_replicate] at hx'
      split at hx'
      case isFalse => simp at hx'
      rename_i hj
      simp at hx'; subst hx'
      refine ⟨_, hzc, hzl, fun q v hv => ?_⟩
      have hq := lt_of_get hv
      have hlt : j * (tab e).size + q < len * zz.cells.toList.length := by rw [hzl]; exact el_lt hj (by rw [← hzl]; exact hq)
      rw [repl_get _ _ _ hlt, hzl, Nat.mul_comm, Nat.mul_add_mod, Nat.mod_eq_of_lt (by rw [← hzl]; exact hq)]
      exact hv)
    have hrun : (Builtin.clear_ #[t] o.type #[.slice ad len cap]).run P w = .ok (.tuple #[]) (w.setCells (ρ.t id).blk ((ρ.t id).start + l * (tab e).size) (repl len zz.cells.toList)) := by
      by_cases hl0 : len = 0
      · subst hl0
        simp only [repl, World.setCells]
        cases ad <;> simp [Builtin.clear_, run_underlying hu]
      · obtain ⟨rfl, _⟩ := ha (by omega)
        have hcc := vec_cells hent (q := (ρ.t id).start + l * (tab e).size) (k := (repl len zz.cells.toList).length) (by omega) (by rw [repl_length, hzl]; rw [Nat.add_mul] at hle; omega)
        have h1 := run_storeCells_cells (P := P) (ρ.t id).blk ((ρ.t id).start + l * (tab e).size) (repl len zz.cells.toList) 0 w (fun j hj => by rw [Nat.add_zero]; exact (hcc j hj).1) (fun j hj => by rw [Nat.add_zero]; exact (hcc j hj).2) hnews
        rw [Nat.add_zero] at h1
        have h2 : (Builtin.zeroCells zz.cells len).toList = repl len zz.cells.toList := by
          have := zeros_repl zz.cells len (len * zz.cells.size) rfl
          rw [Builtin.zeroCells, this]
        obtain ⟨k, rfl⟩ : ∃ k, len = k + 1 := ⟨len - 1, by omega⟩
        simp [Builtin.clear_, run_underlying hu, run_zero hty, h2, h1]
    refine wp_value (v := .tuple #[]) (run_bi (f := Builtin.clear_ ts o.type #[.slice ad len cap]) ho hmap (fun cs => rfl) ?_) (hg.go .junk _ ρ _ _ h Val.junk hst.1 hst.2)
    rw [hts']
    have e1 : Builtin.clear_ (t :: tl).toArray o.type #[.slice ad len cap] = Builtin.clear_ #[t] o.type #[.slice ad len cap] := by simp [Builtin.clear_]
    rw [e1]; exact hrun
  rename_i kt et hmk
  have hu := map_und ht hmk
  split at h
  case h_2 => exact h.elim
  rename_i id
  obtain ⟨_, hxv⟩ := val_mp hx
  subst hxv
  rw [nth_eq] at h
  split at h
  case h_2 => exact h.elim
  rename_i es hes
  obtain ⟨ms, c, hb, hall, hborn, hnd⟩ := hs.rel.ents _ _ hes
  have hgm := run_getMap (P := P) hb
  have hset := MapKept.run_setObj_map (P := P) (.map #[] c) hb
  have hr := rel_map hs.rel (es' := []) (ms' := []) (c' := c) hes hb trivial (by simp) (by simp)
  refine wp_value (v := .tuple #[]) (w' := w.putObj (ρ.b id) (.map #[] c)) (run_bi (f := Builtin.clear_ ts o.type #[.map (some (ρ.b id))]) ho hmap (fun cs => rfl) ?_) (hg.go .junk _ ρ _ _ h Val.junk hr.1 hr.2)
  rw [hts']
  simp [Builtin.clear_, Sem.run_bind, run_underlying hu, Result.andThen_ok, hgm, hset]
  rfl

end
end Go.Pt

/- Each operation that the abstract machine does is one that the model does: all of them, together. -/
namespace Go.Pt
open Go

section
variable {P : Program} {n₀ : Nat} {tab : Nat → Ty} {w : World} {ρ : Ro} {s : St} {a : Act} {o : Oper} {K E : AV → List Ent → Prop} {next : Act → World → Prop} {Q : Exit → Act → World → Prop}

theorem rowsIn_of_rows {r : Option Nat} {n : Nat} {row : String} {args : Array Value} {R : Value → World → Prop} (h : Rows P row args w R) : RowsIn (fen r) n P row args w R :=
  fun c cs _ => let ⟨v, w', hr, hs⟩ := h c cs; ⟨v, w', hr, stepsIn_wide.2 hs⟩

theorem callsIn_fen {r : Option Nat} {n : Nat} {f : FuncId} {args : Array Value} {R : Ending → World → Prop} (h : Calls P f args w R) : CallsIn (fen r) n P f args w R := (callsIn_wide (n := n)).2 h

/-- What runs everywhere runs in a round. -/
theorem wpIn_of_wp {r : Option Nat} (hd : ∀ c, o.op ≠ .defer c) (h : o.wp P a w next Q) : o.wpIn (fen r) 0 P a w next Q := by
  refine ⟨fun _ _ => trivial, ?_⟩
  rw [Oper.semAt_eq _ _ _ hd]
  unfold Oper.wp at h
  generalize (execOp a.eval o).run P w = q at h
  cases q with
  | ok x w' =>
    cases x <;> simp only [Oper.upon] at h <;> simp only [Oper.uponIn] <;> first
      | exact h
      | exact ⟨fun hn => by simp [Fence.wide] at hn, callsIn_fen h⟩
      | exact ⟨fun hn => by simp [Fence.wide] at hn, rowsIn_of_rows h⟩
      | exact h.elim
  | halt x w' => cases x <;> simp only [Oper.upon] at h <;> simp only [Oper.uponIn] <;> first | exact h | exact h.elim

theorem sound_call {r : Option Nat} {f : Operand} {args : Array Operand} {ts : Array TypeId} (ho : o.op = .call ⟨.value f, args, ts⟩) (hs : RelS ρ s a w) (h : aop (std P n₀) tab (.call ⟨.value f, args, ts⟩) s K E) (hg : Goes ρ s a w o.dst K next) (hd : Dies ρ s a w E Q) : o.wpIn (fen r) 0 P a w next Q := by
  have hf := ev_val hs f
  simp only [aop] at h
  split at h
  · rename_i g caps e
    refine wpIn_of_wp (fun c => by rw [ho]; simp) ?_
    rw [e] at hf
    obtain ⟨cs, hfv, hcs⟩ := val_func hf
    obtain ⟨⟨fn, c, hfn, hbody, hname⟩, hcall⟩ := h
    have hc := hcall ρ w (args.toList.map a.eval ++ cs) hs.rel ((evs_val hs args.toList).append hcs)
    have hrun : (execOp a.eval o).run P w = .ok (.enter g (args.toList.map a.eval ++ cs).toArray) w := by
      have hmap : args.map a.eval ++ cs.toArray = (args.toList.map a.eval ++ cs).toArray := by apply Array.ext'; simp
      simp only [execOp, ho, resolve, hfv, Deferred.ofValue, Sem.run_bind, Sem.run_pure, Result.andThen_ok, invoke, callFunc, run_program, hfn, hname, hbody, Option.isNone_some, Bool.false_eq_true, if_false, Array.empty_append, hmap]
    unfold Oper.wp
    rw [hrun]
    refine hc.mono ?_
    rintro en w' ⟨ρ', σ', hst, hrel, hen⟩
    cases en with
    | returned v => obtain ⟨r, hk, hv⟩ := hen; exact hg.go r v ρ' σ' w' hk hv hst hrel
    | panicked ch => obtain ⟨r, v, rfl, hk, hv⟩ := hen; exact hd.die r v ρ' σ' w' hk hv hst hrel
    | outgrown => exact hen.elim
  · rename_i i e
    rw [e] at hf
    obtain ⟨_, hfv⟩ := val_yld hf
    obtain ⟨fn, tmps, asg, body, hy, hround⟩ := h ρ w (args.toList.map a.eval) hs.rel (evs_val hs args.toList)
    have hrun : (execOp a.eval o).run P w = .ok (.round (ρ.b i) fn tmps asg body) w := by
      have hmap : args.map a.eval = (args.toList.map a.eval).toArray := by apply Array.ext'; simp
      simp only [execOp, ho, resolve, hfv, Deferred.ofValue, Sem.run_bind, Sem.run_pure, Result.andThen_ok, invoke, Array.empty_append, hmap, hy]
    refine ⟨fun _ _ => trivial, ?_⟩
    rw [Oper.semAt_eq _ _ _ (fun c => by rw [ho]; simp), hrun]
    refine ⟨fun hn => by simp [Fence.wide] at hn, ?_⟩
    have hround' : RoundIn (fen r) 0 P (ρ.b i) fn tmps asg body w _ := hround
    refine hround'.mono ?_
    rintro en w' ⟨ρ', σ', hst, hrel, hen⟩
    cases en with
    | returned v => obtain ⟨r, hk, hv⟩ := hen; exact hg.go r v ρ' σ' w' hk hv hst hrel
    | panicked ch => exact hen.elim
    | outgrown => exact hen.elim
  · exact h.elim

/-- Each operation of the abstract machine is one of the model's. -/
theorem aop_sound {r : Option Nat} (ht : TabOk P tab) (hs : RelS ρ s a w) (h : aop (std P n₀) tab o.op s K E) (hg : Goes ρ s a w o.dst K next) (hd : Dies ρ s a w E Q) : o.wpIn (fen r) 0 P a w next Q := by
  by_cases hc : ∃ f args ts, o.op = .call ⟨.value f, args, ts⟩
  · obtain ⟨f, args, ts, ho⟩ := hc
    rw [ho] at h
    exact sound_call ho hs h hg hd
  refine wpIn_of_wp (fun c e => by rw [e] at h; exact h.elim) ?_
  cases ho : o.op <;> rw [ho] at h
  case move x => exact sound_move (.inl ho) hs h hg
  case assign x => exact sound_move (.inr ho) hs h hg
  case pick => exact sound_pick ho hs h hg
  case alloc => exact sound_alloc ht ho hs h hg
  case box => exact sound_box ho hs h hg
  case build => exact sound_build ht ho hs h hg
  case buildSlice => exact sound_buildSlice ht ho hs h hg
  case load => exact sound_load ht ho hs h hg
  case store => exact sound_store ht ho hs h hg
  case nilCheck => exact sound_nilCheck ho hs h hg
  case binOp => exact sound_binOp ht ho hs h hg
  case unOp => exact sound_unOp ho hs h hg
  case convert => exact sound_convert ht ho hs h hg
  case makeFunc => exact sound_makeFunc ho hs h hg
  case makeMap => exact sound_makeMap ho hs h hg
  case makeSlice => exact sound_makeSlice ht ho hs h hg
  case fieldAddr => exact sound_fieldAddr ht ho hs h hg
  case field => exact sound_field ht ho hs h hg
  case indexAddr => exact sound_indexAddr ht ho hs h hg
  case index => exact sound_index ht ho hs h hg
  case extract => exact sound_extract ho hs h hg
  case slice => exact sound_slice ht ho hs h hg
  case lookup => exact sound_lookup ht ho hs h hg
  case mapUpdate => exact sound_mapUpdate ht ho hs h hg
  case call c =>
    obtain ⟨callee, args, ts⟩ := c
    cases callee with
    | value f => exact absurd ⟨f, args, ts, ho⟩ hc
    | builtin b =>
      by_cases hd : b = .delete
      · subst hd; exact sound_delete ht ho hs h hg
      by_cases hc : b = .clear
      · subst hc; exact sound_clear ht ho hs h hg
      refine sound_bi (n₀ := n₀) ht ho hs ?_ hg
      simp only [aop] at h
      cases b <;> first | exact absurd rfl hd | exact absurd rfl hc | exact h
    | invoke _ _ => exact h.elim
  all_goals exact h.elim

end
end Go.Pt
