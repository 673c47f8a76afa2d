/- Each operation that the abstract machine does is one that the model does: tests, sums, slices, calls, builtins. -/
import Derived.Test.YtilffanmaicakaaAmEq
namespace Go.Pt
open Go

section
variable {P : Program} {n₀ : Nat} {tab : Nat → Ty} {w : World} {ρ : Ro} {s : St} {a : Act} {o : Oper} {K E : AV → List Ent → Prop} {next : Act → World → Prop} {Q : Exit → Act → World → Prop}

theorem kn_eq {k k' : IntKind} (h : Nat.beq (kn k) (kn k') = true) : k = k' := by
  cases k <;> cases k' <;> first | rfl | (simp [kn] at h)

theorem leaf_sound {S : Nat → Nat → Prop} {n : Nat} {k : TK} {x y : AV} {v u : Value} {b : Bool} (h : eqLeaf (std P n₀) k x y = some b) (hx : Val w S ρ n x v) (hy : Val w S ρ n y u) : eqVL k v u = some b := by
  obtain ⟨d1, hx⟩ := hx
  obtain ⟨d2, hy⟩ := hy
  cases d1 with
  | zero => exact hx.elim
  | succ d1 =>
    cases d2 with
    | zero => exact hy.elim
    | succ d2 =>
      cases k <;> simp only [eqLeaf] at h
      case int =>
        cases x <;> first | (simp at h; done) | skip
        cases y <;> first | (simp at h; done) | skip
        simp only [Cz] at hx hy
        subst hx; subst hy
        dsimp only at h
        split at h
        · rename_i e
          have := kn_eq e; subst this
          simp only [Option.some.injEq] at h; subst h
          simp [eqVL, std, stdOps]
        · simp at h
      case bool =>
        have tel : ∀ {v : AV} {t : Bool} {u : Value} {d : Nat}, v.tell = some t → Cz w S ρ (d + 1) n v u → u = .bool t := by
          intro v t u d e h
          unfold AV.tell at e
          split at e <;> simp at e <;> subst e <;> exact h
        split at h
        · rename_i p hp
          split at h
          · rename_i q hq
            have := tel hp hx; subst this
            have := tel hq hy; subst this
            simp only [Option.some.injEq] at h; subst h
            simp [eqVL, std, stdOps]
          · simp at h
        · simp at h
      case str =>
        cases x <;> first | (simp at h; done) | skip
        cases y <;> first | (simp at h; done) | skip
        simp only [Cz] at hx hy
        subst hx; subst hy
        simp only [Option.some.injEq] at h; subst h
        simp [eqVL, std, stdOps]
      case other => simp at h
      case slice => simp at h
      case struct => simp at h
      case arr => simp at h
      case iface => simp at h
      case tup => simp at h
      all_goals
        cases x <;> first | (simp at h; done) | skip
        all_goals (cases y <;> first | (simp at h; done) | skip)
        all_goals
          simp only [Cz] at hx hy
          simp only [Option.some.injEq] at h
          subst h
        all_goals first
          | (subst hx; subst hy; rfl)
          | (subst hx; obtain ⟨_, rfl⟩ := hy; rfl)
          | (subst hy; obtain ⟨_, rfl⟩ := hx; rfl)
          | (subst hx; obtain ⟨_, _, _, rfl, _⟩ := hy; rfl)
          | (subst hy; obtain ⟨_, _, _, rfl, _⟩ := hx; rfl)
          | (subst hx; obtain ⟨_, rfl, _⟩ := hy; rfl)
          | (subst hy; obtain ⟨_, rfl, _⟩ := hx; rfl)

theorem all_sound {S : Nat → Nat → Prop} {n : Nat} : ∀ {ks : List TK} {xs ys : List AV} {vs us : List Value} {b : Bool}, eqAll (std P n₀) ks xs ys = some b → All2 (Val w S ρ n) xs vs → All2 (Val w S ρ n) ys us →
    eqsV ks vs us = some b ∧ vs.length = ks.length ∧ us.length = ks.length
  | [], [], [], [], [], b, h, _, _ => by simp [eqAll] at h; subst h; exact ⟨rfl, rfl, rfl⟩
  | k :: ks, x :: xs, y :: ys, v :: vs, u :: us, b, h, hx, hy => by
    simp only [eqAll] at h
    split at h
    · simp at h
    · rename_i c hc
      have h1 := leaf_sound hc hx.1 hy.1
      split at h
      · split at h
        · split at h
          · simp only [Option.some.injEq] at h; subst h
            have e1 : vs = [] := by cases vs with | nil => rfl | cons _ _ => exact hx.2.elim
            have e2 : us = [] := by cases us with | nil => rfl | cons _ _ => exact hy.2.elim
            subst e1; subst e2
            simp [eqsV, h1]
          · simp at h
        · simp at h
      · split at h
        · simp at h
        · rename_i e he
          obtain ⟨h2, h3, h4⟩ := all_sound he hx.2 hy.2
          simp only [Option.some.injEq] at h; subst h
          simp [eqsV, h1, h2, h3, h4, std, stdOps]
  | [], [], [], _ :: _, _, _, _, hx, _ => hx.elim
  | [], [], [], [], _ :: _, _, _, _, hy => hy.elim
  | [], _ :: _, _, _, _, _, h, _, _ => by simp [eqAll] at h
  | [], [], _ :: _, _, _, _, h, _, _ => by simp [eqAll] at h
  | _ :: _, [], _, _, _, _, h, _, _ => by simp [eqAll] at h
  | _ :: _, _ :: _, [], _, _, _, h, _, _ => by simp [eqAll] at h
  | _ :: _, _ :: _, _ :: _, [], _, _, _, hx, _ => hx.elim
  | _ :: _, _ :: _, _ :: _, _ :: _, [], _, _, _, hy => hy.elim

/-- The test '==' of two values that the machine can tell apart. -/
theorem run_eqT (ht : TabOk P tab) {t : TypeId} {x y : AV} {v u : Value} {b : Bool} {S : Nat → Nat → Prop} {n : Nat} (h : eqT (std P n₀) (tab t) x y = some b) (hx : Val w S ρ n x v) (hy : Val w S ρ n y u) :
    ((binOp .eql t v u).run P w = .ok (.bool b) w ∧ (binOp .neq t v u).run P w = .ok (.bool (!b)) w) ∧ (∀ op p q, (eqGuard op t p q v u).run P w = .ok () w) := by
  unfold eqT at h
  split at h
  · simp at h
  rename_i ks hks
  have hno : tab t ≠ Ty.no := fun e => by rw [e] at hks; simp [Ty.no] at hks
  obtain ⟨i, d, z, hty⟩ := ht.of hno
  rw [hty.lv] at hks h
  have hlv : P.eqGuardType P.depth t = false ∧ leaves P 8 t = some (lvOf P t) := by
    unfold lvOf at hks ⊢
    split at hks
    · exact absurd rfl hks
    · rename_i hg
      refine ⟨by simpa using hg, ?_⟩
      simp only [hg, if_false, Bool.false_eq_true]
      cases hl : leaves P 8 t with
      | none => rw [hl] at hks; simp at hks
      | some l => simp
  split at h
  · rename_i ha
    have hagg : isAggT P t = true := by rw [hty.agg] at ha; simp [isAggT, hty.und, ha]
    cases x <;> first | (simp at h; done) | skip
    cases y <;> first | (simp at h; done) | skip
    rename_i xs ys
    obtain ⟨vs, rfl, h1⟩ := val_agg hx
    obtain ⟨us, rfl, h2⟩ := val_agg hy
    obtain ⟨h3, h4, h5⟩ := all_sound (P := P) h h1 h2
    have hm := eq_main w 8 hlv.2 10000 (by omega) h4 h5 h3 (x := .agg vs.toArray) (y := .agg us.toArray) (by simp [asVal, hagg]) (by simp [asVal, hagg])
    exact ⟨⟨by rw [run_eql_struct, hm]; rfl, by rw [run_neq_struct, hm]; rfl⟩, fun op p q => run_eqGuard_agg w op t p q _ _ hlv.1⟩
  · rename_i ha
    have hagg : isAggT P t = false := by rw [hty.agg] at ha; simp [isAggT, hty.und, ha]
    obtain ⟨h3, h4, h5⟩ := all_sound (P := P) (vs := [v]) (us := [u]) h ⟨hx, trivial⟩ ⟨hy, trivial⟩
    have hm := eq_main w 8 hlv.2 10000 (by omega) h4 h5 h3 (x := v) (y := u) (by simp [asVal, hagg]) (by simp [asVal, hagg])
    have hk : ∃ k, eqVL k v u = some b := by
      cases hl : lvOf P t with
      | nil => exact absurd hl hks
      | cons k ks =>
        rw [hl] at h3 h4
        have : ks = [] := by simpa using h4
        subst this
        refine ⟨k, ?_⟩
        simp only [eqsV] at h3
        cases hc : eqVL k v u with
        | none => rw [hc] at h3; simp at h3
        | some c => rw [hc] at h3; simpa using h3
    obtain ⟨k, hk⟩ := hk
    refine ⟨?_, fun op p q => ?_⟩
    · clear h3 h4 h5 h hx hy
      unfold eqVL at hk
      split at hk <;> first | (simp at hk; done) | skip
      · split at hk
        · rename_i e; subst e; simp only [Option.some.injEq] at hk; subst hk
          exact ⟨by simp [binOp, Op.intCmp], by simp [binOp, Op.intCmp, bne]⟩
        · simp at hk
      · exact ⟨by simp [binOp, Op.equal, Op.maxDepth, hm], by simp [binOp, Op.equal, Op.maxDepth, hm]⟩
      · simp only [Option.some.injEq] at hk; subst hk
        exact ⟨by simp [binOp, Op.stringOp, beq_toListBytes], by simp [binOp, Op.stringOp, beq_toListBytes]⟩
      all_goals exact ⟨by simp [binOp, Op.equal, Op.maxDepth, hm], by simp [binOp, Op.equal, Op.maxDepth, hm]⟩
    · cases op <;> first | rfl | skip
      all_goals
        unfold eqVL at hk
        split at hk <;> first | (simp at hk; done) | (simp [eqGuard]; done)

/-- What the model's integer operations come to. -/
def intOp (p : BinOp) (k : IntKind) (x y : Int) : Sem Value :=
  match p with
  | .add | .sub | .mul => Op.intArith p k x y
  | .quo | .rem => Op.intDiv p k x y
  | .and | .or | .xor | .andNot => Op.intBits p k x y
  | _ => Op.intCmp p x y

theorem binOp_int {p : BinOp} {k : IntKind} {x y : Int} {t : TypeId} (hp : p ≠ .shl) (hp' : p ≠ .shr) : binOp p t (.int k x) (.int k y) = intOp p k x y := by
  cases p <;> first | exact absurd rfl hp | exact absurd rfl hp' | simp [binOp, intOp]

theorem guard_ok {p : BinOp} {t : TypeId} {x y : Operand} {u v : Value} (h : p ≠ .eql) (h' : p ≠ .neq) : (eqGuard p t x y u v).run P w = .ok () w := by
  cases p <;> first | exact absurd rfl h | exact absurd rfl h' | rfl

end
end Go.Pt
